/- Words on memory for the walks of this seat: a block that is known whole, a slice of bytes that reads as a list, a world in which all that was there stands. No condition. -/
import Derived.WalkKit
import Derived.WalkSpells
import Derived.WalkLawsBesides
import Derived.Lib.Hide
import Derived.Deep.AppendLies
import Derived.Deep.Draws
import Derived.Laws.CopyOwn
namespace Go.Proofs.Ytkfcdfcoiglieaa
open Go.RowKit

/-- All that was there stands; blocks may have come. -/
def New (w w' : World) : Prop := Below w.heap.size w w'
theorem New.refl (w : World) : New w w := Below.refl _ _
theorem New.trans {a b c : World} (h : New a b) (k : New b c) : New a c := Below.trans h (Below.mono k h.size)
theorem New.size {w w' : World} (h : New w w') : w.heap.size ≤ w'.heap.size := Below.size h
theorem New.alloc (w : World) (o : Obj) : New w (w.alloc o) := (Below.refl _ _).alloc (Nat.le_refl _) o
theorem New.drew (w : World) : New w w.drew := (Below.refl _ _).drew
theorem New.cell {w w' : World} (h : New w w') {p : Addr} {v : Value} (hp : w.cell? p = some v) : w'.cell? p = some v :=
  (Below.cell h (World.block_lt_of_cell? w p hp)).trans hp
theorem New.block {w w' : World} (h : New w w') {g : Nat} {o : Obj} (hg : w.heap[g]? = some o) : w'.heap[g]? = some o := by
  have hlt : g < w.heap.size := by
    rcases Nat.lt_or_ge g w.heap.size with hlt | hge
    · exact hlt
    · rw [Array.getElem?_eq_none hge] at hg; cases hg
  exact (Below.block h g hlt).trans hg
theorem New.toBelow {w w' : World} (h : New w w') : Below w.heap.size w w' := h

/-- Only the blocks of S, and new ones, may have turned. -/
structure Mod (S : Nat → Prop) (w w' : World) : Prop where
  os : w'.os = w.os
  tape : w'.tape = w.tape
  output : w'.output = w.output
  size : w.heap.size ≤ w'.heap.size
  block : ∀ k, k < w.heap.size → ¬ S k → w'.heap[k]? = w.heap[k]?
theorem Mod.refl (S : Nat → Prop) (w : World) : Mod S w w := ⟨rfl, rfl, rfl, Nat.le_refl _, fun _ _ _ => rfl⟩
theorem Mod.trans {S T : Nat → Prop} {a b c : World} (h : Mod S a b) (k : Mod T b c) (hT : ∀ i, T i → i < a.heap.size → S i) : Mod S a c :=
  ⟨k.os.trans h.os, k.tape.trans h.tape, k.output.trans h.output, Nat.le_trans h.size k.size, fun i hi hn =>
    (k.block i (Nat.lt_of_lt_of_le hi h.size) (fun ht => hn (hT i ht hi))).trans (h.block i hi hn)⟩
theorem Mod.of_new {w w' : World} (h : New w w') (S : Nat → Prop) : Mod S w w' := ⟨Below.os h, Below.tape h, Below.output h, Below.size h, fun k hk _ => Below.block h k hk⟩
theorem Mod.toNew {S : Nat → Prop} {w w' : World} (h : Mod S w w') (hS : ∀ i, S i → w.heap.size ≤ i) : New w w' :=
  ⟨h.os, h.tape, h.output, h.size, fun k hk => h.block k hk (fun hs => by have := hS k hs; omega)⟩
theorem Mod.mono {S T : Nat → Prop} {w w' : World} (h : Mod S w w') (hS : ∀ i, S i → i < w.heap.size → T i) : Mod T w w' := ⟨h.os, h.tape, h.output, h.size, fun k hk hn => h.block k hk (fun hs => hn (hS k hs hk))⟩
theorem Mod.below {S : Nat → Prop} {w w' : World} {B : Nat} (h : Mod S w w') (hB : B ≤ w.heap.size) (hS : ∀ i, S i → B ≤ i) : Below B w w' :=
  ⟨h.os, h.tape, h.output, h.size, fun k hk => h.block k (by omega) (fun hs => by have := hS k hs; omega)⟩

/-- Block g is just the cells cs, of type t, and may be written. -/
def Bk (w : World) (g : Nat) (t : TypeId) (cs : Array Value) : Prop := w.heap[g]? = some (.cells cs t (0, 0))
section
variable {w w' : World} {g : Nat} {t : TypeId} {cs : Array Value}
theorem Bk.lt (h : Bk w g t cs) : g < w.heap.size := by
  rcases Nat.lt_or_ge g w.heap.size with hlt | hge
  · exact hlt
  · unfold Bk at h; rw [Array.getElem?_eq_none hge] at h; cases h
theorem Bk.cell (h : Bk w g t cs) (i : Nat) : w.cell? ⟨g, i, none⟩ = cs[i]? := by unfold Bk at h; simp [World.cell?, h]
theorem Bk.cellAt (h : Bk w g t cs) {i : Nat} {v : Value} (hv : cs[i]? = some v) : w.cell? ⟨g, i, none⟩ = some v := (h.cell i).trans hv
theorem Bk.frozen (h : Bk w g t cs) (i : Nat) : w.frozen? ⟨g, i, none⟩ = false := by unfold Bk at h; simp [World.frozen?, h]
theorem Bk.ofNew (w : World) (t : TypeId) (cs : Array Value) : Bk (w.alloc (.cells cs t)) w.heap.size t cs := heap_alloc_new w _
theorem Bk.new_ (h : Bk w g t cs) (hn : New w w') : Bk w' g t cs := hn.block h
theorem Bk.alloc (h : Bk w g t cs) (o : Obj) : Bk (w.alloc o) g t cs := h.new_ (New.alloc w o)
theorem Bk.drew (h : Bk w g t cs) : Bk w.drew g t cs := h
theorem Bk.set_ (h : Bk w g t cs) (i : Nat) (u : Value) : Bk (w.setCell ⟨g, i, none⟩ u) g t (cs.setIfInBounds i u) := heap_setCell_same w g i cs t u h
theorem Bk.far (h : Bk w g t cs) {p : Addr} (hp : g ≠ p.block) (u : Value) : Bk (w.setCell p u) g t cs := (heap_setCell_other w p g u hp).trans h
theorem Bk.mod {S : Nat → Prop} (h : Bk w g t cs) (hm : Mod S w w') (hS : ¬ S g) : Bk w' g t cs := (hm.block g h.lt hS).trans h
theorem Bk.below {B : Nat} (h : Bk w g t cs) (hm : Below B w w') (hS : g < B) : Bk w' g t cs := (hm.block g hS).trans h
theorem Bk.setRow (h : Bk w g t cs) (cs' : Array Value) : Bk (w.setRow g cs') g t cs' := setRow_heap w g cs cs' t (0, 0) h
end

/-- A byte, a 32-bit word, as values. -/
abbrev bv (c : UInt8) : Value := .int .u8 (c.toNat : Int)
abbrev uv (n : BitVec 32) : Value := .int .u32 (n.toNat : Int)

/-- The slice value v reads as the cells xs (elements of one cell). -/
def Rd (w : World) (v : Value) (xs : List Value) : Prop :=
  ∃ A c, v = .slice A xs.length c ∧ xs.length ≤ c ∧ c ≤ maxLen ∧ (0 < c → ∃ b o, A = some ⟨b, o, none⟩ ∧ ∀ (i : Nat) (x : Value), xs[i]? = some x → w.cell? ⟨b, o + i, none⟩ = some x)
theorem Rd.new_ {w w' : World} {v : Value} {xs : List Value} (h : Rd w v xs) (hn : New w w') : Rd w' v xs := by
  obtain ⟨A, c, rfl, h1, h2, h3⟩ := h
  refine ⟨A, c, rfl, h1, h2, fun hc => ?_⟩
  obtain ⟨b, o, e, hx⟩ := h3 hc
  exact ⟨b, o, e, fun i x hi => hn.cell (hx i x hi)⟩
theorem Rd.nil (w : World) : Rd w (.slice none 0 0) [] := ⟨none, 0, rfl, Nat.le_refl _, by simp [maxLen], fun h => absurd h (by omega)⟩
theorem Rd.ofBk {w : World} {g : Nat} {t : TypeId} {cs : Array Value} {xs : List Value} {c : Nat} (h : Bk w g t cs) (hl : ∀ (i : Nat) (x : Value), xs[i]? = some x → cs[i]? = some x) (h1 : xs.length ≤ c) (h2 : c ≤ maxLen) :
    Rd w (.slice (some ⟨g, 0, none⟩) xs.length c) xs :=
  ⟨_, c, rfl, h1, h2, fun _ => ⟨g, 0, rfl, fun i x hi => by rw [Nat.zero_add]; exact h.cellAt (hl i x hi)⟩⟩
theorem Rd.take {w : World} {A : Option Addr} {n c : Nat} {xs : List Value} (h : Rd w (.slice A n c) xs) (k : Nat) (hk : k ≤ n) : Rd w (.slice A k c) (xs.take k) := by
  obtain ⟨A', c', e, h1, h2, h3⟩ := h
  injection e with e1 e2 e3
  subst e1; subst e2; subst e3
  refine ⟨A, c, by rw [List.length_take, Nat.min_eq_left hk], by rw [List.length_take]; omega, h2, fun hc => ?_⟩
  obtain ⟨b, o, e, hx⟩ := h3 hc
  exact ⟨b, o, e, fun i x hi => hx i x (by
    rw [List.getElem?_take] at hi
    split at hi
    · exact hi
    · cases hi)⟩
/-- The slice value v reads as the bytes l. -/
def RB (w : World) (v : Value) (l : List UInt8) : Prop := Rd w v (l.map bv)
theorem RB.open {w : World} {v : Value} {l : List UInt8} (h : RB w v l) :
    ∃ A c, v = .slice A l.length c ∧ l.length ≤ c ∧ c ≤ maxLen ∧ (0 < c → ∃ b o, A = some ⟨b, o, none⟩ ∧ ∀ (i : Nat) (x : UInt8), l[i]? = some x → w.cell? ⟨b, o + i, none⟩ = some (bv x)) := by
  obtain ⟨A, c, e, h1, h2, h3⟩ := h
  simp only [List.length_map] at e h1
  refine ⟨A, c, e, h1, h2, fun hc => ?_⟩
  obtain ⟨b, o, e, hx⟩ := h3 hc
  exact ⟨b, o, e, fun i x hi => hx i (bv x) (by simp [hi])⟩
theorem RB.new_ {w w' : World} {v : Value} {l : List UInt8} (h : RB w v l) (hn : New w w') : RB w' v l := Rd.new_ h hn
theorem RB.shape {w : World} {v : Value} {l : List UInt8} (h : RB w v l) : ∃ A c, v = .slice A l.length c ∧ l.length ≤ c ∧ c ≤ 9223372036854775807 := by
  obtain ⟨A, c, e, h1, h2, _⟩ := h.open
  unfold maxLen at h2
  exact ⟨A, c, e, h1, h2⟩
theorem RB.nil (w : World) : RB w (.slice none 0 0) [] := Rd.nil w
theorem RB.take {w : World} {A : Option Addr} {n c : Nat} {l : List UInt8} (h : RB w (.slice A n c) l) (k : Nat) (hk : k ≤ n) : RB w (.slice A k c) (l.take k) := by
  have := Rd.take h k hk
  rwa [← List.map_take] at this
/-- Where v[lo:hi] begins. -/
def cutA (A : Option Addr) (lo c : Nat) : Option Addr := if c = lo then A else A.map (·.add lo)
/-- A part of what it reads as: v[lo:hi]. -/
theorem Rd.cut {w : World} {A : Option Addr} {n c : Nat} {xs : List Value} (h : Rd w (.slice A n c) xs) (lo hi : Nat) (h1 : lo ≤ hi) (h2 : hi ≤ n) :
    Rd w (.slice (cutA A lo c) (hi - lo) (c - lo)) ((xs.drop lo).take (hi - lo)) := by
  obtain ⟨A', c', e, g1, g2, g3⟩ := h
  injection e with e1 e2 e3
  subst e1; subst e2; subst e3
  have hlen : ((xs.drop lo).take (hi - lo)).length = hi - lo := by rw [List.length_take, List.length_drop]; omega
  refine ⟨_, c - lo, by rw [hlen], by rw [hlen]; omega, by omega, fun hc => ?_⟩
  obtain ⟨b, o, rfl, hx⟩ := g3 (by omega)
  unfold cutA
  rw [if_neg (by omega)]
  refine ⟨b, o + lo, ?_, fun i x hi' => ?_⟩
  · have ha : (⟨b, o, none⟩ : Addr).add lo = ⟨b, o + lo, none⟩ := by unfold Addr.add; split <;> simp_all
    simp [ha]
  · rw [List.getElem?_take] at hi'
    split at hi'
    · rw [List.getElem?_drop] at hi'
      have := hx (lo + i) x hi'
      rwa [← Nat.add_assoc] at this
    · cases hi'
theorem RB.cut {w : World} {A : Option Addr} {n c : Nat} {l : List UInt8} (h : RB w (.slice A n c) l) (lo hi : Nat) (h1 : lo ≤ hi) (h2 : hi ≤ n) :
    RB w (.slice (cutA A lo c) (hi - lo) (c - lo)) ((l.drop lo).take (hi - lo)) := by
  have := Rd.cut h lo hi h1 h2
  rwa [← List.map_drop, ← List.map_take] at this
/-- The slice value v is nil, or a part of a block from base on, the call's own, all cells of which are Pr; it holds the cells xs. -/
def OwnP (Pr : Value → Prop) (w : World) (base : Nat) (e : TypeId) (v : Value) (xs : List Value) : Prop :=
  (v = .slice none 0 0 ∧ xs = []) ∨
  ∃ g o cap cur, v = .slice (some ⟨g, o, none⟩) xs.length cap ∧ base ≤ g ∧ Bk w g e cur ∧ xs.length ≤ cap ∧ cap ≤ maxLen ∧ o + cap ≤ cur.size ∧ (cur.toList.drop o).take xs.length = xs ∧ ∀ x ∈ cur.toList, Pr x
section
variable {Pr : Value → Prop} {w w' : World} {base : Nat} {e : TypeId} {v : Value} {xs : List Value}
theorem OwnP.nil (Pr : Value → Prop) (w : World) (base : Nat) (e : TypeId) : OwnP Pr w base e (.slice none 0 0) [] := .inl ⟨rfl, rfl⟩
theorem OwnP.mono (h : OwnP Pr w base e v xs) {base' : Nat} (hb : base' ≤ base) : OwnP Pr w base' e v xs := by
  rcases h with h | ⟨g, o, cap, cur, h1, h2, r⟩
  · exact .inl h
  · exact .inr ⟨g, o, cap, cur, h1, Nat.le_trans hb h2, r⟩
theorem OwnP.keep (h : OwnP Pr w base e v xs) (hk : ∀ g, v.ownBlock = some g → w'.heap[g]? = w.heap[g]?) : OwnP Pr w' base e v xs := by
  rcases h with h | ⟨g, o, cap, cur, rfl, h2, h3, r⟩
  · exact .inl h
  · exact .inr ⟨g, o, cap, cur, rfl, h2, (hk g rfl).trans h3, r⟩
theorem OwnP.lt (h : OwnP Pr w base e v xs) : ∀ g, v.ownBlock = some g → base ≤ g ∧ g < w.heap.size := by
  rcases h with ⟨rfl, _⟩ | ⟨g, o, cap, cur, rfl, h2, h3, r⟩
  · intro g hg; cases hg
  · intro g' hg'; injection hg' with hg'; subst hg'; exact ⟨h2, h3.lt⟩
theorem OwnP.new_ (h : OwnP Pr w base e v xs) (hn : New w w') : OwnP Pr w' base e v xs :=
  h.keep fun g hg => Below.block hn g (h.lt g hg).2
theorem OwnP.mod {S : Nat → Prop} (h : OwnP Pr w base e v xs) (hm : Mod S w w') (hS : ∀ g, v.ownBlock = some g → ¬ S g) : OwnP Pr w' base e v xs :=
  h.keep fun g hg => hm.block g (h.lt g hg).2 (hS g hg)
theorem OwnP.rd (h : OwnP Pr w base e v xs) : Rd w v xs := by
  rcases h with ⟨rfl, rfl⟩ | ⟨g, o, cap, cur, rfl, h2, h3, h4, h5, h6, h7, _⟩
  · exact Rd.nil w
  · refine ⟨_, cap, rfl, h4, h5, fun _ => ⟨g, o, rfl, fun i x hi => h3.cellAt ?_⟩⟩
    rw [← h7, List.getElem?_take] at hi
    split at hi
    · rw [List.getElem?_drop] at hi; simpa using hi
    · cases hi
theorem OwnP.all (h : OwnP Pr w base e v xs) : ∀ x ∈ xs, Pr x := by
  rcases h with ⟨_, rfl⟩ | ⟨g, o, cap, cur, _, h2, h3, h4, h5, h6, h7, h8⟩
  · simp
  · intro x hx
    rw [← h7] at hx
    exact h8 x (List.mem_of_mem_drop (List.mem_of_mem_take hx))
theorem OwnP.cellAt {g o n c : Nat} (h : OwnP Pr w base e (.slice (some ⟨g, o, none⟩) n c) xs) {i : Nat} (hi : i < n) : ∃ x, xs[i]? = some x ∧ w.cell? ⟨g, o + i, none⟩ = some x ∧ w.frozen? ⟨g, o + i, none⟩ = false := by
  rcases h with ⟨h, _⟩ | ⟨g', o', cap, cur, hv, h2, h3, h4, h5, h6, h7, _⟩
  · cases h
  · injection hv with e1 e2 e3
    injection e1 with e1
    injection e1 with e4 e5 _
    subst e4; subst e5; subst e2; subst e3
    obtain ⟨x, hx⟩ : ∃ x, xs[i]? = some x := ⟨_, List.getElem?_eq_getElem hi⟩
    refine ⟨x, hx, h3.cellAt ?_, h3.frozen _⟩
    rw [← h7, List.getElem?_take, if_pos hi, List.getElem?_drop] at hx
    rw [← hx]; simp
theorem OwnP.store {g o n c : Nat} (h : OwnP Pr w base e (.slice (some ⟨g, o, none⟩) n c) xs) {i : Nat} (hi : i < n) {u : Value} (hu : Pr u) :
    OwnP Pr (w.setCell ⟨g, o + i, none⟩ u) base e (.slice (some ⟨g, o, none⟩) n c) (xs.set i u) := by
  rcases h with ⟨h, _⟩ | ⟨g', o', cap, cur, hv, h2, h3, h4, h5, h6, h7, h8⟩
  · cases h
  · injection hv with e1 e2 e3
    injection e1 with e1
    injection e1 with e4 e5 _
    subst e4; subst e5; subst e2; subst e3
    refine .inr ⟨g, o, c, cur.setIfInBounds (o + i) u, by rw [List.length_set], h2, h3.set_ _ _, by rw [List.length_set]; exact h4, h5, by simpa using h6, ?_, fun x hx => ?_⟩
    · rw [List.length_set, Array.toList_setIfInBounds, List.drop_set, if_neg (by omega), show o + i - o = i from by omega, List.take_set, h7]
    · rw [Array.toList_setIfInBounds] at hx
      rcases List.mem_or_eq_of_mem_set hx with hx | hx
      · exact h8 x hx
      · rw [hx]; exact hu
/-- A new block, its first cells. -/
theorem OwnP.made (hb : base ≤ w.heap.size) {cur : Array Value} {n cap : Nat} (hx : cur.toList.take n = xs) (hn : xs.length = n) (h1 : n ≤ cap) (h2 : cap ≤ maxLen) (h3 : cap ≤ cur.size) (hp : ∀ x ∈ cur.toList, Pr x) :
    OwnP Pr (w.alloc (.cells cur e)) base e (.slice (some ⟨w.heap.size, 0, none⟩) n cap) xs := by
  subst hn
  exact .inr ⟨w.heap.size, 0, cap, cur, rfl, hb, Bk.ofNew w _ _, h1, h2, by omega, by simpa using hx, hp⟩
end
def isB (x : Value) : Prop := ∃ c : UInt8, x = bv c
theorem isB_map (l : List UInt8) : ∀ x ∈ l.map bv, isB x := fun x hx => by
  obtain ⟨c, _, rfl⟩ := List.mem_map.1 hx
  exact ⟨c, rfl⟩
theorem isB_zero : isB (.int .u8 0) := ⟨0, rfl⟩

/-- The slice value v reads as slices, each of which reads as its bytes. -/
def RBs (w : World) (v : Value) (ls : List (List UInt8)) : Prop :=
  ∃ A c, v = .slice A ls.length c ∧ ls.length ≤ c ∧ c ≤ maxLen ∧ (0 < c → ∃ b o, A = some ⟨b, o, none⟩ ∧ ∀ (i : Nat) (l : List UInt8), ls[i]? = some l → ∃ x, w.cell? ⟨b, o + i, none⟩ = some x ∧ RB w x l)
theorem RBs.new_ {w w' : World} {v : Value} {ls : List (List UInt8)} (h : RBs w v ls) (hn : New w w') : RBs w' v ls := by
  obtain ⟨A, c, e, h1, h2, h3⟩ := h
  refine ⟨A, c, e, h1, h2, fun hc => ?_⟩
  obtain ⟨b, o, e, hx⟩ := h3 hc
  refine ⟨b, o, e, fun i l hl => ?_⟩
  obtain ⟨x, hc, hr⟩ := hx i l hl
  exact ⟨x, hn.cell hc, hr.new_ hn⟩
end Go.Proofs.Ytkfcdfcoiglieaa
