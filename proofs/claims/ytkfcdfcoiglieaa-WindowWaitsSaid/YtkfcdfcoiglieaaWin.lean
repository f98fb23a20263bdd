/- A window in memory, and what its small functions return. No condition. -/
import Derived.Test.YtkfcdfcoiglieaaWait
import Derived.BigQuiet
import Derived.StillTailTactics
namespace Go.Proofs.Ytkfcdfcoiglieaa
open Go.RowKit

/-- A packet under way; a window. -/
structure Pk where
  seq : Int
  body : List UInt8
  times : Int
  at_ : Int
  wait : Int
structure Wn where
  size : Int
  last : Int
  l : List Pk
  mean : Nat
  spread : Nat
  now : Int
def isP (x : Value) : Prop := ∃ p, x = .pointer p
abbrev ptr (p : Nat) : Value := .pointer (some ⟨p, 0, none⟩)
/-- A slice of one's own, its block one of F. -/
def OwnF (Pr : Value → Prop) (w : World) (F : Nat → Prop) (e : TypeId) (v : Value) (xs : List Value) : Prop := OwnP Pr w 0 e v xs ∧ ∀ g, v.ownBlock = some g → F g
def pkCells (k : Pk) (v : Value) : Array Value := #[.int .i64 k.seq, v, .int .i64 k.times, .int .i64 k.at_, .int .i64 k.wait]
/-- Block p is packet k. -/
def PkRep (w : World) (F : Nat → Prop) (p : Nat) (k : Pk) : Prop := F p ∧ ∃ v, Bk w p 129 (pkCells k v) ∧ OwnF isB w F 5 v (k.body.map bv)
def winCells (s : Wn) (lv : Value) : Array Value := #[.int .i64 s.size, .int .i64 s.last, lv, .float .f64 s.mean, .float .f64 s.spread, .int .i64 s.now]
/-- The packets' blocks, one by one. -/
def PksRep (w : World) (F : Nat → Prop) (ps : List Nat) (l : List Pk) : Prop := ps.length = l.length ∧ ∀ (i p : Nat) (k : Pk), ps[i]? = some p → l[i]? = some k → PkRep w F p k
/-- Block g is window s; F are its blocks. -/
def WinRep (w : World) (F : Nat → Prop) (g : Nat) (s : Wn) : Prop :=
  F g ∧ ∃ lv ps, Bk w g 93 (winCells s lv) ∧ OwnF isP w F 127 lv (ps.map ptr) ∧ ps.Nodup ∧ PksRep w F ps s.l
section
variable {Pr : Value → Prop} {w w' : World} {F F' : Nat → Prop} {e : TypeId} {v : Value} {xs : List Value} {g p : Nat} {s : Wn} {pk : Pk} {ps : List Nat} {l : List Pk}
theorem OwnF.keep (h : OwnF Pr w F e v xs) (hk : ∀ k, F k → w'.heap[k]? = w.heap[k]?) (hF : ∀ k, F k → F' k) : OwnF Pr w' F' e v xs :=
  ⟨h.1.keep fun g hg => hk g (h.2 g hg), fun g hg => hF g (h.2 g hg)⟩
theorem PkRep.keep (h : PkRep w F p pk) (hk : ∀ k, F k → w'.heap[k]? = w.heap[k]?) (hF : ∀ k, F k → F' k) : PkRep w' F' p pk := by
  obtain ⟨h1, v, h2, h3⟩ := h
  exact ⟨hF _ h1, v, (hk p h1).trans h2, h3.keep hk hF⟩
theorem PksRep.keep (h : PksRep w F ps l) (hk : ∀ k, F k → w'.heap[k]? = w.heap[k]?) (hF : ∀ k, F k → F' k) : PksRep w' F' ps l :=
  ⟨h.1, fun i p k hp hl => (h.2 i p k hp hl).keep hk hF⟩
theorem WinRep.keep (h : WinRep w F g s) (hk : ∀ k, F k → w'.heap[k]? = w.heap[k]?) (hF : ∀ k, F k → F' k) : WinRep w' F' g s := by
  obtain ⟨h1, lv, ps, h2, h3, h4, h5⟩ := h
  exact ⟨hF _ h1, lv, ps, (hk g h1).trans h2, h3.keep hk hF, h4, h5.keep hk hF⟩
theorem OwnF.lt (h : OwnF Pr w F e v xs) : ∀ g, v.ownBlock = some g → g < w.heap.size := fun g hg => (h.1.lt g hg).2
/-- F may be cut to the blocks that are there. -/
theorem WinRep.cut (h : WinRep w F g s) : WinRep w (fun k => F k ∧ k < w.heap.size) g s := by
  obtain ⟨h1, lv, ps, h2, h3, h4, h5, h6⟩ := h
  refine ⟨⟨h1, h2.lt⟩, lv, ps, h2, ⟨h3.1, fun g hg => ⟨h3.2 g hg, h3.lt g hg⟩⟩, h4, h5, fun i p k hp hl => ?_⟩
  obtain ⟨q1, v, q2, q3⟩ := h6 i p k hp hl
  exact ⟨⟨q1, q2.lt⟩, v, q2, q3.1, fun g hg => ⟨q3.2 g hg, q3.lt g hg⟩⟩
theorem WinRep.mod {S : Nat → Prop} (h : WinRep w F g s) (hm : Mod S w w') (hS : ∀ k, F k → ¬ S k) : WinRep w' F g s :=
  (h.cut.keep (w' := w') (fun k hk => hm.block k hk.2 (hS k hk.1)) (F' := F) (fun _ hk => hk.1))
theorem WinRep.new_ (h : WinRep w F g s) (hn : New w w') : WinRep w' F g s := h.mod (Mod.of_new hn (fun _ => False)) (fun _ _ h => h)
end

/-- May that be a time? -/
def timeB (n : Int) : Bool := decide (0 ≤ n ∧ n ≤ 2147483647)
set_option maxRecDepth 100000 in
set_option maxHeartbeats 400000 in
theorem wtime_any (n : Int) (w : World) :
    Calls Try.prog 97 #[.int .i64 n] w fun e w' => e = .returned (.bool (timeB n)) ∧ w = w' := by
  by_cases h1 : 0 ≤ n
  · by_cases h2 : n ≤ 2147483647
    · have hd : Hid (timeB n = true) := decide_eq_true ⟨h1, h2⟩
      go_enter Try.func97, Try.ntmps97
      go_wp2
      go_ret
      exact ⟨by rw [hd.out]; rfl, rfl⟩
    · have hd : Hid (timeB n = false) := decide_eq_false (fun h => h2 h.2)
      go_enter Try.func97, Try.ntmps97
      go_wp2
      go_ret
      exact ⟨by rw [hd.out]; rfl, rfl⟩
  · have hd : Hid (timeB n = false) := decide_eq_false (fun h => h1 h.1)
    go_enter Try.func97, Try.ntmps97
    go_wp2
    go_ret
    exact ⟨by rw [hd.out]; rfl, rfl⟩
set_option maxRecDepth 100000 in
set_option maxHeartbeats 400000 in
theorem none_nil (w : World) : Calls Try.prog 96 #[.pointer none] w fun e w' => e = .returned (.bool true) ∧ w = w' := by
  go_enter Try.func96, Try.ntmps96
  go_wp2
  go_ret
  exact ⟨rfl, rfl⟩
set_option maxRecDepth 100000 in
set_option maxHeartbeats 400000 in
theorem none_zero (g : Nat) (w : World) (h : w.cell? ⟨g, 0, none⟩ = some (.int .i64 0)) : Calls Try.prog 96 #[ptr g] w fun e w' => e = .returned (.bool true) ∧ w = w' := by
  have hp : ∀ w : World, (binOp .eql 67 (.pointer (some ⟨g, 0, none⟩)) (.pointer none)).run Try.prog w = .ok (.bool false) w := fun w => by kernel_rfl
  go_enter Try.func96, Try.ntmps96
  go_wp2
  go_ret
  exact ⟨rfl, rfl⟩
set_option maxRecDepth 100000 in
set_option maxHeartbeats 400000 in
theorem none_not (g : Nat) (n : Int) (w : World) (h : w.cell? ⟨g, 0, none⟩ = some (.int .i64 n)) (hn : 1 ≤ n) : Calls Try.prog 96 #[ptr g] w fun e w' => e = .returned (.bool false) ∧ w = w' := by
  have hz : (n == 0) = false := by rw [beq_eq_false_iff_ne]; omega
  go_enter Try.func96, Try.ntmps96
  go_wp2
  go_ret
  exact ⟨rfl, rfl⟩

/-- window.New. -/
def newWn (size : Int) : Wn := ⟨size, 0, [], 4616189618054758400, 4607182418800017408, 0⟩
set_option maxRecDepth 100000 in
set_option maxHeartbeats 400000 in
theorem wnew_bad (n : Int) (w : World) (h : n < 1 ∨ 64 < n) : Calls Try.prog 64 #[.int .i64 n] w fun e w' => e = .returned (.tuple #[.pointer none, .int .i64 2]) ∧ w = w' := by
  by_cases h1 : n < 1
  · go_enter Try.func64, Try.ntmps64
    go_wp2
    go_ret2
    exact ⟨rfl, rfl⟩
  · have h2 : 64 < n := by omega
    clear h
    go_enter Try.func64, Try.ntmps64
    go_wp2
    go_ret2
    exact ⟨rfl, rfl⟩
set_option maxRecDepth 100000 in
set_option maxHeartbeats 400000 in
theorem wnew_any (n : Int) (w : World) (h1 : 1 ≤ n) (h2 : n ≤ 64) : Calls Try.prog 64 #[.int .i64 n] w fun e w' =>
    e = .returned (.tuple #[ptr w.heap.size, .int .i64 0]) ∧ WinRep w' (fun k => k = w.heap.size) w.heap.size (newWn n) ∧ New w w' ∧ w'.heap.size = w.heap.size + 1 := by
  go_enter Try.func64, Try.ntmps64
  go_wp2
  go_ret2
  refine ⟨rfl, ⟨rfl, .slice none 0 0, [], Bk.ofNew w _ _, ⟨.inl ⟨rfl, rfl⟩, fun g hg => by cases hg⟩, List.nodup_nil, rfl, fun i p k hp => by simp at hp⟩, New.alloc _ _, by simp⟩

set_option maxRecDepth 100000 in
set_option maxHeartbeats 400000 in
theorem wlast_any (g : Nat) (s : Wn) (F : Nat → Prop) (w : World) (h : WinRep w F g s) (hs : 1 ≤ s.size) : Calls Try.prog 70 #[ptr g] w fun e w' => e = .returned (.int .i64 s.last) ∧ w = w' := by
  obtain ⟨_, lv, ps, hB, _⟩ := h
  unfold winCells at hB
  have k0 := hB.cellAt (i := 0) rfl
  have k1 := hB.cellAt (i := 1) rfl
  clear hB
  go_enter Try.func70, Try.ntmps70
  go_wp2_with fail
  refine (none_not g s.size _ k0 hs).mono ?_
  rintro e w1 ⟨rfl, rfl⟩
  go_wp2
  go_ret
  exact ⟨rfl, rfl⟩
set_option maxRecDepth 100000 in
set_option maxHeartbeats 400000 in
theorem wopen_any (g : Nat) (s : Wn) (F : Nat → Prop) (w : World) (h : WinRep w F g s) (hs : 1 ≤ s.size) : Calls Try.prog 68 #[ptr g] w fun e w' => e = .returned (.int .i64 (s.l.length : Nat)) ∧ w = w' := by
  obtain ⟨_, lv, ps, hB, hO, _, hP, _⟩ := h
  obtain ⟨A, c, rfl, _⟩ := hO.1.rd
  rw [List.length_map, hP] at hB
  unfold winCells at hB
  have k0 := hB.cellAt (i := 0) rfl
  have k2 := hB.cellAt (i := 2) rfl
  clear hB hO hP
  go_enter Try.func68, Try.ntmps68
  go_wp2_with fail
  refine (none_not g s.size _ k0 hs).mono ?_
  rintro e w1 ⟨rfl, rfl⟩
  go_wp2
  go_ret
  exact ⟨rfl, rfl⟩
end Go.Proofs.Ytkfcdfcoiglieaa
