/- frame.Read returns what the plain law says; nothing that was there turns. Conditions: the slice reads as bytes; its length fits. -/
import Derived.Test.YtkfcdfcoiglieaaFrameN
import Derived.StillTailTactics
import Derived.BigQuiet
import Derived.Deep.RegionHeld3
namespace Go.Proofs.Ytkfcdfcoiglieaa
open Go.RowKit

def at_ (x : List UInt8) (i : Nat) : UInt8 := x.getD i 0
theorem at_get {x : List UInt8} {i : Nat} (h : i < x.length) : x[i]? = some (at_ x i) := by
  rw [List.getElem?_eq_getElem h, at_, List.getD_eq_getElem?_getD, List.getElem?_eq_getElem h]; rfl
def num_ (x : List UInt8) (lo hi : Nat) : Nat := numF ((x.drop lo).take (hi - lo))
/-- The frame that is laid in bytes. -/
def frmOf (x : List UInt8) : Frm := ⟨(at_ x 3).toNat, num_ x 4 8, num_ x 8 12, num_ x 12 16, num_ x 16 20, x.drop 22⟩
/-- What is wrong with what was guarded. -/
def errX (x : List UInt8) : Int :=
  if at_ x 0 ≠ 83 ∨ at_ x 1 ≠ 75 then 211
  else if at_ x 2 ≠ 1 then 212
  else if knownB (frmOf x).typ = false then 213
  else if 2147483647 < num_ x 4 8 ∨ 2147483647 < num_ x 8 12 ∨ 2147483647 < num_ x 12 16 ∨ 2147483647 < num_ x 16 20 then 5
  else if num_ x 20 22 ≠ x.length - 22 then 214
  else if asF (frmOf x) = false then 2
  else 0
/-- What is wrong with bytes. -/
def errR (b : List UInt8) : Int :=
  if 1426 < b.length then 3
  else if b.length < 26 then 4
  else match checkL b with
    | none => 210
    | some x => errX x
/-- The frame that bytes are. -/
def readF (b : List UInt8) : Frm := if errR b = 0 then frmOf (b.take (b.length - 4)) else Frm.zero
def ReadPost (w : World) (b : List UInt8) (e : Ending) (w' : World) : Prop :=
  ∃ v', e = .returned (.tuple #[fv (readF b) v', .int .i64 (errR b)]) ∧ OwnB w' w.heap.size v' (readF b).body ∧ New w w'
theorem readPost_bad {w w' : World} {b : List UInt8} {n : Int} (h : errR b = n) (h0 : n ≠ 0) (hn : New w w') :
    ReadPost w b (.returned (.tuple #[.agg #[.int .i64 0, .int .i64 0, .int .i64 0, .int .i64 0, .int .i64 0, .slice none 0 0], .int .i64 n])) w' := by
  have hr : readF b = Frm.zero := by unfold readF; rw [h, if_neg h0]
  exact ⟨.slice none 0 0, by rw [hr, h]; rfl, by rw [hr]; exact OwnB.nil _ _, hn⟩
theorem OwnB.cutl {w : World} {base : Nat} {A : Option Addr} {n c : Nat} {l : List UInt8} (h : OwnB w base (.slice A n c) l) (lo : Nat) (hlo : lo ≤ n) :
    OwnB w base (.slice (cutA A lo c) (n - lo) (c - lo)) (l.drop lo) := by
  rcases h with ⟨h, hl⟩ | ⟨g, o, cap, cur, hv, h2, h3, h4, h5, h6, h7, h8⟩
  · injection h with e1 e2 e3
    subst e1; subst e2; subst e3
    have : l = [] := by simpa using hl
    subst this
    obtain rfl : lo = 0 := by omega
    exact OwnB.nil _ _
  · injection hv with e1 e2 e3
    subst e1; subst e2; subst e3
    have hll : (l.map bv).length = l.length := List.length_map _
    have hmd : (l.drop lo).map bv = (l.map bv).drop lo := List.map_drop
    by_cases hc : c = lo
    · have e0 : (l.map bv).length - lo = 0 := by omega
      have e2 : l.drop lo = [] := List.drop_eq_nil_of_le (by omega)
      rw [e0, e2]
      exact .inr ⟨g, o, c - lo, cur, by simp [cutA, hc], h2, h3, by simp, by omega, by omega, by simp, h8⟩
    · have ha : (⟨g, o, none⟩ : Addr).add lo = ⟨g, o + lo, none⟩ := by unfold Addr.add; split <;> simp_all
      refine .inr ⟨g, o + lo, c - lo, cur, by simp [cutA, hc, ha], h2, h3, by simp at h4 ⊢; omega, by omega, by omega, ?_, h8⟩
      rw [hmd, List.length_drop, ← List.drop_drop, ← List.drop_take, h7]

theorem bk6 {w : World} {g : Nat} {t : TypeId} {o0 o1 o2 o3 o4 o5 : Value} (h : Bk w g t #[o0, o1, o2, o3, o4, o5]) (a b c d e f : Value) :
    Bk ((((((w.setCell ⟨g, 0, none⟩ a).setCell ⟨g, 1, none⟩ b).setCell ⟨g, 2, none⟩ c).setCell ⟨g, 3, none⟩ d).setCell ⟨g, 4, none⟩ e).setCell ⟨g, 5, none⟩ f) g t #[a, b, c, d, e, f] :=
  (((((h.set_ 0 a).set_ 1 b).set_ 2 c).set_ 3 d).set_ 4 e).set_ 5 f
theorem new6 {w0 w : World} (h : New w0 w) {g : Nat} (hg : w0.heap.size ≤ g) (a b c d e f : Value) :
    New w0 ((((((w.setCell ⟨g, 0, none⟩ a).setCell ⟨g, 1, none⟩ b).setCell ⟨g, 2, none⟩ c).setCell ⟨g, 3, none⟩ d).setCell ⟨g, 4, none⟩ e).setCell ⟨g, 5, none⟩ f) :=
  (((((Below.setCell h hg a).setCell hg b).setCell hg c).setCell hg d).setCell hg e).setCell hg f
theorem checkL_len {b x : List UInt8} (h : checkL b = some x) : x.length = b.length - 4 ∧ x = b.take (b.length - 4) := by
  unfold checkL at h
  split at h
  · injection h with h; subst h; exact ⟨by simp, rfl⟩
  · cases h
theorem ne_u8 {c d : UInt8} (h : c ≠ d) : ((c.toNat : Int) != (d.toNat : Int)) = true := by
  rw [bne_iff_ne]; intro h'; exact h (UInt8.toNat_inj.1 (by omega))
theorem errX_211 {x : List UInt8} (h : at_ x 0 ≠ 83 ∨ at_ x 1 ≠ 75) : errX x = 211 := by unfold errX; rw [if_pos h]
theorem errX_212 {x : List UInt8} (h0 : at_ x 0 = 83) (h1 : at_ x 1 = 75) (h2 : at_ x 2 ≠ 1) : errX x = 212 := by
  unfold errX; rw [if_neg (by simp [h0, h1]), if_pos h2]
/-- What is wrong behind the three first bytes. -/
def errY (x : List UInt8) : Int :=
  if knownB (frmOf x).typ = false then 213
  else if 2147483647 < num_ x 4 8 ∨ 2147483647 < num_ x 8 12 ∨ 2147483647 < num_ x 12 16 ∨ 2147483647 < num_ x 16 20 then 5
  else if num_ x 20 22 ≠ x.length - 22 then 214
  else if asF (frmOf x) = false then 2
  else 0
theorem errX_ok {x : List UInt8} (h0 : at_ x 0 = 83) (h1 : at_ x 1 = 75) (h2 : at_ x 2 = 1) : errX x = errY x := by
  unfold errX errY; rw [if_neg (by simp [h0, h1]), if_neg (by simp [h2])]

theorem errY_213 {x : List UInt8} (h : knownB (frmOf x).typ = false) : errY x = 213 := by unfold errY; rw [if_pos h]
/-- What is wrong behind the type. -/
def errZ (x : List UInt8) : Int :=
  if 2147483647 < num_ x 4 8 ∨ 2147483647 < num_ x 8 12 ∨ 2147483647 < num_ x 12 16 ∨ 2147483647 < num_ x 16 20 then 5
  else if num_ x 20 22 ≠ x.length - 22 then 214
  else if asF (frmOf x) = false then 2
  else 0
theorem errY_ok {x : List UInt8} (h : knownB (frmOf x).typ = true) : errY x = errZ x := by unfold errY errZ; rw [if_neg (by simp [h])]

theorem number_part {w : World} {A : Option Addr} {c : Nat} {x : List UInt8} (h : RB w (.slice A x.length c) x) {lo hi : Nat} (h1 : lo ≤ hi) (h2 : hi ≤ x.length) (h3 : hi - lo ≤ 4) :
    Calls Try.prog 93 #[.slice (cutA A lo c) (hi - lo) (c - lo)] w fun e w' => e = .returned (.int .i64 (num_ x lo hi)) ∧ w' = w :=
  (number_any _ _ w (h.cut lo hi h1 h2) (by simp; omega)).mono fun _ _ ⟨a, b⟩ => ⟨a, b.symm⟩

/-- The greatest of four. -/
def mx4 (a b c d : Int) : Int := max (max (max a b) c) d
@[go_sem] theorem run_max4 {P : Program} (w : World) (ts : Array TypeId) (t : TypeId) (a b c d : Int) : (Builtin.max_ ts t #[.int .i64 a, .int .i64 b, .int .i64 c, .int .i64 d]).run P w = .ok (.int .i64 (mx4 a b c d)) w := by
  have h2 : ∀ (x y : Int) (w : World), (Builtin.max2 (.int .i64 x) (.int .i64 y)).run P w = .ok (.int .i64 (max x y)) w := fun x y w => by
    have := run_max_int2 (P := P) (w := w) ts t .i64 .i64 x y
    simp only [Builtin.max_, List.foldlM_cons, List.foldlM_nil, bind_pure] at this
    rw [this, Int.max_def]
    congr 2
    split <;> split <;> omega
  simp only [Builtin.max_, List.foldlM_cons, List.foldlM_nil, bind_pure]
  simp [go_sem, h2, mx4]

theorem mx4_lt {x : List UInt8} : 2147483647 < mx4 (frmOf x).ses (frmOf x).boot (frmOf x).seq (frmOf x).ack ↔ (2147483647 < num_ x 4 8 ∨ 2147483647 < num_ x 8 12 ∨ 2147483647 < num_ x 12 16 ∨ 2147483647 < num_ x 16 20) := by
  unfold mx4 frmOf; simp only; omega
theorem errZ_5 {x : List UInt8} (h : 2147483647 < mx4 (frmOf x).ses (frmOf x).boot (frmOf x).seq (frmOf x).ack) : errZ x = 5 := by unfold errZ; rw [if_pos (mx4_lt.1 h)]
theorem errZ_214 {x : List UInt8} (h : ¬ 2147483647 < mx4 (frmOf x).ses (frmOf x).boot (frmOf x).seq (frmOf x).ack) (h2 : num_ x 20 22 ≠ x.length - 22) : errZ x = 214 := by
  unfold errZ; rw [if_neg (fun hh => h (mx4_lt.2 hh)), if_pos h2]
theorem errZ_2 {x : List UInt8} (h : ¬ 2147483647 < mx4 (frmOf x).ses (frmOf x).boot (frmOf x).seq (frmOf x).ack) (h2 : num_ x 20 22 = x.length - 22) (h3 : asF (frmOf x) = false) : errZ x = 2 := by
  unfold errZ; rw [if_neg (fun hh => h (mx4_lt.2 hh)), if_neg (by simp [h2]), if_pos h3]
theorem errZ_0 {x : List UInt8} (h : ¬ 2147483647 < mx4 (frmOf x).ses (frmOf x).boot (frmOf x).seq (frmOf x).ack) (h2 : num_ x 20 22 = x.length - 22) (h3 : asF (frmOf x) = true) : errZ x = 0 := by
  unfold errZ; rw [if_neg (fun hh => h (mx4_lt.2 hh)), if_neg (by simp [h2]), if_neg (by simp [h3])]
theorem readPost_ok {w w' : World} {b x : List UInt8} {v : Value} (h : errR b = 0) (hx : x = b.take (b.length - 4)) (ho : OwnB w' w.heap.size v (frmOf x).body) (hn : New w w') :
    ReadPost w b (.returned (.tuple #[fv (frmOf x) v, .int .i64 0])) w' := by
  have hr : readF b = frmOf x := by unfold readF; rw [h, if_pos rfl, hx]
  exact ⟨v, by rw [hr, h], by rw [hr]; exact ho, hn⟩

theorem keep6 {w : World} {base g : Nat} {v : Value} {l : List UInt8} (h : OwnB w base v l) (hg : g < base) (a b c d e f : Value) :
    OwnB ((((((w.setCell ⟨g, 0, none⟩ a).setCell ⟨g, 1, none⟩ b).setCell ⟨g, 2, none⟩ c).setCell ⟨g, 3, none⟩ d).setCell ⟨g, 4, none⟩ e).setCell ⟨g, 5, none⟩ f) base v l :=
  OwnP.keep h fun g' hg' => by
    have h1 := (OwnP.lt h g' hg').1
    have hne : g' ≠ g := by omega
    rw [heap_setCell_other _ ⟨g, 5, none⟩ g' f hne, heap_setCell_other _ ⟨g, 4, none⟩ g' e hne, heap_setCell_other _ ⟨g, 3, none⟩ g' d hne, heap_setCell_other _ ⟨g, 2, none⟩ g' c hne, heap_setCell_other _ ⟨g, 1, none⟩ g' b hne, heap_setCell_other _ ⟨g, 0, none⟩ g' a hne]

macro "still_or " t:term : tactic => `(tactic|
  (refine wpStill_step (fun K hK => ?_)
   go_simp
   first
     | (refine hK _ ?_; clear hK K)
     | (refine ⟨_, $t, hK _ ?_⟩; clear hK K)))

set_option maxRecDepth 100000 in
set_option maxHeartbeats 400000 in
theorem results_read {fn : Func} {s k : Nat} (hf : fn.results = #[.cell s 47, .tmp k]) {tmps : Array Value} {w : World} {g : Nat} {f : Frm} {vb : Value} {n : Int} (hB : Bk w g 47 #[.int .i64 f.typ, .int .i64 f.ses, .int .i64 f.boot, .int .i64 f.seq, .int .i64 f.ack, vb])
    (h2 : tmps[s]? = some (.pointer (some ⟨g, 0, none⟩))) (h3 : tmps[k]? = some (.int .i64 n)) :
    (results fn tmps).run Try.prog w = .ok (.tuple #[fv f vb, .int .i64 n]) w := by
  have m0 := hB.cellAt (i := 0) rfl
  have m1 := hB.cellAt (i := 1) rfl
  have m2 := hB.cellAt (i := 2) rfl
  have m3 := hB.cellAt (i := 3) rfl
  have m4 := hB.cellAt (i := 4) rfl
  have m5 := hB.cellAt (i := 5) rfl
  simp [results, hf, go_sem, h2, h3, m0, m1, m2, m3, m4, m5]

set_option maxRecDepth 100000 in
set_option maxHeartbeats 3200000 in
theorem readf_any (v : Value) (b : List UInt8) (w : World) (h : RB w v b) (hb : b.length ≤ 1000000000) :
    Calls Try.prog 57 #[v] w (ReadPost w b) := by
  obtain ⟨A, c, rfl, hl1, hc1⟩ := h.shape
  have hN0 := New.alloc w (.cells #[.int .i64 0, .int .i64 0, .int .i64 0, .int .i64 0, .int .i64 0, .slice none 0 0] 47)
  have hB0 := Bk.ofNew w 47 #[.int .i64 0, .int .i64 0, .int .i64 0, .int .i64 0, .int .i64 0, .slice none 0 0]
  by_cases hlong : 1426 < b.length
  · have Hr : Hid (errR b = 3) := Lib.hid (by unfold errR; rw [if_pos hlong])
    go_enter Try.func57, Try.ntmps57
    go_wp2
    refine bodyPost_ret (results_read Try.results57 (f := Frm.zero) hB0 rfl rfl) rfl ?_
    exact readPost_bad Hr.out (by decide) hN0
  · by_cases hshort : b.length < 26
    · have Hr : Hid (errR b = 4) := Lib.hid (by unfold errR; rw [if_neg hlong, if_pos hshort])
      go_enter Try.func57, Try.ntmps57
      go_wp2
      refine bodyPost_ret (results_read Try.results57 (f := Frm.zero) hB0 rfl rfl) rfl ?_
      exact readPost_bad Hr.out (by decide) hN0
    · have herr : errR b = match checkL b with | none => 210 | some x => errX x := by unfold errR; rw [if_neg hlong, if_neg hshort]
      have hgs : w.heap.size < (w.alloc (.cells #[.int .i64 0, .int .i64 0, .int .i64 0, .int .i64 0, .int .i64 0, .slice none 0 0] 47)).heap.size := by simp
      have hchk := check_any (.slice A b.length c) b (w.alloc (.cells #[.int .i64 0, .int .i64 0, .int .i64 0, .int .i64 0, .int .i64 0, .slice none 0 0] 47)) (h.new_ hN0) hb
      unfold CheckPost at hchk
      cases hc : checkL b with
      | none =>
        rw [hc] at herr hchk
        have Hr := Lib.hid herr; clear herr
        have Hchk := Lib.hid hchk; clear hchk
        clear hc
        go_enter Try.func57, Try.ntmps57
        go_wp2_with fail
        refine Hchk.out.mono ?_
        rintro e w1 ⟨v1, rfl, hown1, hn1⟩
        have hB1 := hB0.new_ hn1
        have hlt1 := hB1.lt
        have k0 := hB1.cellAt (i := 0) rfl
        have k1 := hB1.cellAt (i := 1) rfl
        have k2 := hB1.cellAt (i := 2) rfl
        have k3 := hB1.cellAt (i := 3) rfl
        have k4 := hB1.cellAt (i := 4) rfl
        have k5 := hB1.cellAt (i := 5) rfl
        have kf := hB1.frozen
        simp only [errOf, Option.isSome]
        go_wp2
        refine bodyPost_ret (results_read Try.results57 (f := Frm.zero) (bk6 hB1 _ _ _ _ _ _) rfl rfl) rfl ?_
        exact readPost_bad Hr.out (by decide) (new6 (hN0.trans hn1) (Nat.le_refl _) _ _ _ _ _ _)
      | some x =>
        rw [hc] at herr hchk
        have hxl : x.length = b.length - 4 ∧ x = b.take (b.length - 4) := checkL_len hc
        obtain ⟨hxl, hxe⟩ := hxl
        have Hxe := Lib.hid hxe; clear hxe
        have Hr := Lib.hid herr; clear herr
        have Hchk := Lib.hid hchk; clear hchk
        clear hc
        have hx1 : 22 ≤ x.length := by omega
        have hx2 : x.length ≤ 1422 := by omega
        clear hxl
        go_enter Try.func57, Try.ntmps57
        go_wp2_with fail
        refine Hchk.out.mono ?_
        rintro e w1 ⟨v1, rfl, hown1, hn1⟩
        have hB1 := hB0.new_ hn1
        have hlt1 := hB1.lt
        have k0 := hB1.cellAt (i := 0) rfl
        have k1 := hB1.cellAt (i := 1) rfl
        have k2 := hB1.cellAt (i := 2) rfl
        have k3 := hB1.cellAt (i := 3) rfl
        have k4 := hB1.cellAt (i := 4) rfl
        have k5 := hB1.cellAt (i := 5) rfl
        have kf := hB1.frozen
        have hN1 := hN0.trans hn1
        simp only [errOf, Option.isSome]
        have hown := hown1
        simp only [Option.getD_some] at hown
        clear hown1 Hchk
        obtain ⟨A1, c1, rfl, hl1, hc1, hxo⟩ := hown.rb.open
        obtain ⟨bk, o, rfl, hxs⟩ := hxo (by omega)
        have x0 : w1.cell? ⟨bk, o, none⟩ = some (bv (at_ x 0)) := by simpa using hxs 0 _ (at_get (x := x) (i := 0) (by omega))
        have x1 := hxs 1 _ (at_get (x := x) (i := 1) (by omega))
        have x2 := hxs 2 _ (at_get (x := x) (i := 2) (by omega))
        have x3 := hxs 3 _ (at_get (x := x) (i := 3) (by omega))
        clear hxs hxo
        have t3 : (at_ x 3).toNat < 256 := (at_ x 3).toNat_lt
        by_cases h0 : at_ x 0 = 83
        · have b0 : (((at_ x 0).toNat : Int) != 83) = false := by rw [h0]; rfl
          by_cases h1 : at_ x 1 = 75
          · have b1 : (((at_ x 1).toNat : Int) != 75) = false := by rw [h1]; rfl
            by_cases h2 : at_ x 2 = 1
            · have b2 : (((at_ x 2).toNat : Int) != 1) = false := by rw [h2]; rfl
              have Hx := Lib.hid (errX_ok h0 h1 h2); clear h0 h1 h2
              go_wp2_with fail
              refine (known_any _ _).mono ?_
              rintro e w2 ⟨rfl, rfl⟩
              cases ht : knownB (frmOf x).typ with
              | false =>
                have Hy := Lib.hid (errY_213 ht)
                have ht' : knownB ((at_ x 3).toNat : Int) = false := ht
                clear ht
                go_wp2
                refine bodyPost_ret (results_read Try.results57 (f := Frm.zero) (bk6 hB1 _ _ _ _ _ _) rfl rfl) rfl ?_
                exact readPost_bad ((Hr.out.trans Hx.out).trans Hy.out) (by decide) (new6 hN1 (Nat.le_refl _) _ _ _ _ _ _)
              | true =>
                have Hy := Lib.hid (errY_ok ht)
                have Ht := Lib.hid ht
                have ht' : knownB ((at_ x 3).toNat : Int) = true := ht
                clear ht
                have N1 := Lib.hid (fun (w' : World) (hn : New w1 w') => number_part (lo := 4) (hi := 8) (hown.rb.new_ hn) (by omega) (by omega) (by omega))
                have N2 := Lib.hid (fun (w' : World) (hn : New w1 w') => number_part (lo := 8) (hi := 12) (hown.rb.new_ hn) (by omega) (by omega) (by omega))
                have N3 := Lib.hid (fun (w' : World) (hn : New w1 w') => number_part (lo := 12) (hi := 16) (hown.rb.new_ hn) (by omega) (by omega) (by omega))
                have N4 := Lib.hid (fun (w' : World) (hn : New w1 w') => number_part (lo := 16) (hi := 20) (hown.rb.new_ hn) (by omega) (by omega) (by omega))
                have N5 := Lib.hid (fun (w' : World) (hn : New w1 w') => number_part (lo := 20) (hi := 22) (hown.rb.new_ hn) (by omega) (by omega) (by omega))
                have i0 : (22 : Int) ≤ (x.length : Int) := by omega
                have i1 : (22 : Int) ≤ (c1 : Int) := by omega
                have i2 : (3 : Int) < (x.length : Int) := by omega
                have j1 : (8 : Int) ≤ (c1 : Int) := by omega
                have j2 : (12 : Int) ≤ (c1 : Int) := by omega
                have j3 : (16 : Int) ≤ (c1 : Int) := by omega
                have j4 : (20 : Int) ≤ (c1 : Int) := by omega
                have hw3 : IntKind.i64.wrap ((at_ x 3).toNat : Int) = (frmOf x).typ := IntWalk.i64_in _ (by omega)
                go_upto_region 14 with fail
                go_cut [6] (fun s6 wx => ∃ g : Nat, s6 = .pointer (some ⟨g, 0, none⟩) ∧ Bk wx g 47 #[.int .i64 (frmOf x).typ, .int .i64 (frmOf x).ses, .int .i64 (frmOf x).boot, .int .i64 (frmOf x).seq, .int .i64 (frmOf x).ack, .slice (cutA (some ⟨bk, o, none⟩) 22 c1) (x.length - 22) (c1 - 22)] ∧ New w1 wx)
                case first =>
                  go_region_held3 (fun w' => w'.cell? ⟨bk, o + 3, none⟩ = some (bv (at_ x 3))) (first | exact x3 | exact (New.drew w1).cell x3 | exact ((New.drew w1).trans (New.alloc _ _)).cell x3) (first
                    | (go_at_call_of 93 (Value.slice (cutA (some (Addr.mk bk o none)) (@OfNat.ofNat Nat (nat_lit 4) (instOfNatNat (nat_lit 4))) c1) (@OfNat.ofNat Nat (nat_lit 4) (instOfNatNat (nat_lit 4))) (@HSub.hSub Nat Nat Nat (@instHSub Nat instSubNat) c1 (@OfNat.ofNat Nat (nat_lit 4) (instOfNatNat (nat_lit 4))))); refine (N1.out _ (by first | exact New.drew w1 | exact (New.drew w1).trans (New.alloc _ _))).mono ?_; rintro e w3 ⟨rfl, rfl⟩)
                    | (go_at_call_of 93 (Value.slice (cutA (some (Addr.mk bk o none)) (@OfNat.ofNat Nat (nat_lit 8) (instOfNatNat (nat_lit 8))) c1) (@OfNat.ofNat Nat (nat_lit 4) (instOfNatNat (nat_lit 4))) (@HSub.hSub Nat Nat Nat (@instHSub Nat instSubNat) c1 (@OfNat.ofNat Nat (nat_lit 8) (instOfNatNat (nat_lit 8))))); refine (N2.out _ (by first | exact New.drew w1 | exact (New.drew w1).trans (New.alloc _ _))).mono ?_; rintro e w3 ⟨rfl, rfl⟩)
                    | (go_at_call_of 93 (Value.slice (cutA (some (Addr.mk bk o none)) (@OfNat.ofNat Nat (nat_lit 12) (instOfNatNat (nat_lit 12))) c1) (@OfNat.ofNat Nat (nat_lit 4) (instOfNatNat (nat_lit 4))) (@HSub.hSub Nat Nat Nat (@instHSub Nat instSubNat) c1 (@OfNat.ofNat Nat (nat_lit 12) (instOfNatNat (nat_lit 12))))); refine (N3.out _ (by first | exact New.drew w1 | exact (New.drew w1).trans (New.alloc _ _))).mono ?_; rintro e w3 ⟨rfl, rfl⟩)
                    | (go_at_call_of 93 (Value.slice (cutA (some (Addr.mk bk o none)) (@OfNat.ofNat Nat (nat_lit 16) (instOfNatNat (nat_lit 16))) c1) (@OfNat.ofNat Nat (nat_lit 4) (instOfNatNat (nat_lit 4))) (@HSub.hSub Nat Nat Nat (@instHSub Nat instSubNat) c1 (@OfNat.ofNat Nat (nat_lit 16) (instOfNatNat (nat_lit 16))))); refine (N4.out _ (by first | exact New.drew w1 | exact (New.drew w1).trans (New.alloc _ _))).mono ?_; rintro e w3 ⟨rfl, rfl⟩))
                  all_goals
                    go_wp2_with fail
                    go_meet
                    exact ⟨_, rfl, (Bk.ofNew w1 _ _).drew, (New.alloc _ _).trans (New.drew _)⟩
                case rest =>
                  obtain ⟨g, rfl, hB2, hN2⟩ := hcut
                  clear N1 N2 N3 N4 x0 x1 x2 x3 k0 k1 k2 k3 k4 k5 kf hlt1 hw3
                  have hB3 := hB1.new_ hN2
                  have hN3 := hN1.trans hN2
                  have k0 := hB3.cellAt (i := 0) rfl
                  have k1 := hB3.cellAt (i := 1) rfl
                  have k2 := hB3.cellAt (i := 2) rfl
                  have k3 := hB3.cellAt (i := 3) rfl
                  have k4 := hB3.cellAt (i := 4) rfl
                  have k5 := hB3.cellAt (i := 5) rfl
                  have kf := hB3.frozen
                  have m0 := hB2.cellAt (i := 0) rfl
                  have m1 := hB2.cellAt (i := 1) rfl
                  have m2 := hB2.cellAt (i := 2) rfl
                  have m3 := hB2.cellAt (i := 3) rfl
                  have m4 := hB2.cellAt (i := 4) rfl
                  have m5 := hB2.cellAt (i := 5) rfl
                  by_cases hmx : 2147483647 < mx4 (frmOf x).ses (frmOf x).boot (frmOf x).seq (frmOf x).ack
                  · have Hz := Lib.hid (errZ_5 hmx)
                    go_wp2
                    refine bodyPost_ret (results_read Try.results57 (f := Frm.zero) (bk6 hB3 _ _ _ _ _ _) rfl rfl) rfl ?_
                    exact readPost_bad (((Hr.out.trans Hx.out).trans Hy.out).trans Hz.out) (by decide) (new6 hN3 (Nat.le_refl _) _ _ _ _ _ _)
                  · have Hmx := Lib.hid hmx
                    have l1 : (22 : Int) ≤ (c1 : Int) := by omega
                    go_upto_region 17 with fail
                    go_quiet ((go_at_call 93; exact Calls.quiet_of_same (N5.out _ (hN2.trans (drewN_new _ _)))))
                    have hNq := drewN_new wc nq
                    generalize wc.drewN nq = wy at hNq ⊢
                    clear k0 k1 k2 k3 k4 k5 kf m0 m1 m2 m3 m4 m5
                    have hB4 := hB3.new_ hNq
                    have hB5 := hB2.new_ hNq
                    have hN4 := hN3.trans hNq
                    have hown4 : OwnB wy _ (.slice (cutA (some ⟨bk, o, none⟩) 22 c1) (x.length - 22) (c1 - 22)) (frmOf x).body := (hown.cutl 22 hx1).new_ (hN2.trans hNq)
                    have k0 := hB4.cellAt (i := 0) rfl
                    have k1 := hB4.cellAt (i := 1) rfl
                    have k2 := hB4.cellAt (i := 2) rfl
                    have k3 := hB4.cellAt (i := 3) rfl
                    have k4 := hB4.cellAt (i := 4) rfl
                    have k5 := hB4.cellAt (i := 5) rfl
                    have kf := hB4.frozen
                    have m0 := hB5.cellAt (i := 0) rfl
                    have m1 := hB5.cellAt (i := 1) rfl
                    have m2 := hB5.cellAt (i := 2) rfl
                    have m3 := hB5.cellAt (i := 3) rfl
                    have m4 := hB5.cellAt (i := 4) rfl
                    have m5 := hB5.cellAt (i := 5) rfl
                    by_cases h20 : num_ x 20 22 = x.length - 22
                    · have b20 : (((num_ x 20 22 : Nat) : Int) != ((x.length - 22 : Nat) : Int)) = false := by rw [h20]; simp
                      have H20 := Lib.hid h20; clear h20
                      go_wp2_with fail
                      refine (as_any (frmOf x) _ _ hown4.rb Ht.out).mono ?_
                      rintro e w5 ⟨rfl, hn5⟩
                      clear k0 k1 k2 k3 k4 k5 kf m0 m1 m2 m3 m4 m5
                      have hB6 := hB4.new_ hn5
                      have hB7 := hB5.new_ hn5
                      have hN5 := hN4.trans hn5
                      have k0 := hB6.cellAt (i := 0) rfl
                      have k1 := hB6.cellAt (i := 1) rfl
                      have k2 := hB6.cellAt (i := 2) rfl
                      have k3 := hB6.cellAt (i := 3) rfl
                      have k4 := hB6.cellAt (i := 4) rfl
                      have k5 := hB6.cellAt (i := 5) rfl
                      have kf := hB6.frozen
                      have m0 := hB7.cellAt (i := 0) rfl
                      have m1 := hB7.cellAt (i := 1) rfl
                      have m2 := hB7.cellAt (i := 2) rfl
                      have m3 := hB7.cellAt (i := 3) rfl
                      have m4 := hB7.cellAt (i := 4) rfl
                      have m5 := hB7.cellAt (i := 5) rfl
                      have hsz5 := hown4.new_ hn5
                      cases has : asF (frmOf x) with
                      | true =>
                        have Hz := Lib.hid (errZ_0 (by have := Hmx.out; omega) H20.out has)
                        clear has
                        go_wp2
                        refine bodyPost_ret (results_read Try.results57 (f := frmOf x) (bk6 hB6 _ _ _ _ _ _) rfl rfl) rfl ?_
                        exact readPost_ok (((Hr.out.trans Hx.out).trans Hy.out).trans Hz.out) Hxe.out ((keep6 hsz5 hgs _ _ _ _ _ _).mono (Nat.le_of_lt hgs)) (new6 hN5 (Nat.le_refl _) _ _ _ _ _ _)
                      | false =>
                        have Hz := Lib.hid (errZ_2 (by have := Hmx.out; omega) H20.out has)
                        clear has
                        go_wp2
                        refine bodyPost_ret (results_read Try.results57 (f := Frm.zero) (bk6 hB6 _ _ _ _ _ _) rfl rfl) rfl ?_
                        exact readPost_bad (((Hr.out.trans Hx.out).trans Hy.out).trans Hz.out) (by decide) (new6 hN5 (Nat.le_refl _) _ _ _ _ _ _)
                    · have Hz := Lib.hid (errZ_214 hmx h20)
                      have b20 : (((num_ x 20 22 : Nat) : Int) != ((x.length - 22 : Nat) : Int)) = true := by rw [bne_iff_ne]; omega
                      clear h20
                      go_wp2
                      refine bodyPost_ret (results_read Try.results57 (f := Frm.zero) (bk6 hB4 _ _ _ _ _ _) rfl rfl) rfl ?_
                      exact readPost_bad (((Hr.out.trans Hx.out).trans Hy.out).trans Hz.out) (by decide) (new6 hN4 (Nat.le_refl _) _ _ _ _ _ _)
            · have Hx := Lib.hid (errX_212 h0 h1 h2)
              have b2 : (((at_ x 2).toNat : Int) != 1) = true := ne_u8 h2
              clear h0 h1 h2
              go_wp2
              refine bodyPost_ret (results_read Try.results57 (f := Frm.zero) (bk6 hB1 _ _ _ _ _ _) rfl rfl) rfl ?_
              exact readPost_bad (Hr.out.trans Hx.out) (by decide) (new6 hN1 (Nat.le_refl _) _ _ _ _ _ _)
          · have Hx := Lib.hid (errX_211 (.inr h1))
            have b1 : (((at_ x 1).toNat : Int) != 75) = true := ne_u8 h1
            clear h0 h1
            go_wp2
            refine bodyPost_ret (results_read Try.results57 (f := Frm.zero) (bk6 hB1 _ _ _ _ _ _) rfl rfl) rfl ?_
            exact readPost_bad (Hr.out.trans Hx.out) (by decide) (new6 hN1 (Nat.le_refl _) _ _ _ _ _ _)
        · have Hx := Lib.hid (errX_211 (.inl h0))
          have b0 : (((at_ x 0).toNat : Int) != 83) = true := ne_u8 h0
          clear h0
          go_wp2
          refine bodyPost_ret (results_read Try.results57 (f := Frm.zero) (bk6 hB1 _ _ _ _ _ _) rfl rfl) rfl ?_
          exact readPost_bad (Hr.out.trans Hx.out) (by decide) (new6 hN1 (Nat.le_refl _) _ _ _ _ _ _)
end Go.Proofs.Ytkfcdfcoiglieaa
