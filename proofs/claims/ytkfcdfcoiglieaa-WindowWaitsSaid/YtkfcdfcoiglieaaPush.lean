/- (*Window).Push lays a packet at the end. Under way. -/
import Derived.Test.YtkfcdfcoiglieaaWin
import Derived.Test.YtkfcdfcoiglieaaEmp
import Derived.Test.YtkfcdfcoiglieaaKit2
import Derived.Test.YtkfcdfcoiglieaaPushR
import Derived.Deep.DeepCutAuto
import Derived.Deep.CutBlock
import Derived.Deep.QuietTactic
namespace Go.Proofs.Ytkfcdfcoiglieaa
open Go.RowKit
attribute [local go_sem ↓] Go.wp_at_zero Go.wp_at_succ

set_option maxRecDepth 100000 in
set_option maxHeartbeats 1600000 in
theorem push_full (g : Nat) (s : Wn) (F : Nat → Prop) (v : Value) (w : World) (h : WinRep w F g s) (hs : 1 ≤ s.size) (hf : s.size ≤ s.l.length) :
    Calls Try.prog 65 #[ptr g, v] w fun e w' => e = .returned (.tuple #[.int .i64 0, .int .i64 8]) ∧ New w w' := by
  obtain ⟨_, lv, ps, hB, hO, _, hP, _⟩ := h
  obtain ⟨A, c, rfl, _⟩ := hO.1.rd
  rw [List.length_map, hP] at hB
  unfold winCells at hB
  have k0 := hB.cellAt (i := 0) rfl
  have k2 := hB.cellAt (i := 2) rfl
  clear hB hO hP
  go_enter Try.func65, Try.ntmps65
  go_wp2_with fail
  refine (none_not g s.size _ k0 hs).mono ?_
  rintro e w1 ⟨rfl, rfl⟩
  go_wp2_with fail
  go_quiet (fail)
  have hn := drewN_new w nq
  go_wp2
  go_ret2
  exact ⟨rfl, hn⟩

/-- The blocks of F, and new ones. -/
def Grow (w : World) (F : Nat → Prop) : Nat → Prop := fun k => F k ∨ w.heap.size ≤ k
/-- What Push leaves of the window. -/
def pushW (s : Wn) (b : List UInt8) : Wn := { s with last := s.last + 1, l := s.l ++ [⟨s.last + 1, b, 0, 0, 0⟩] }
theorem own_src {w W : World} {v lv : Value} {b : List UInt8} {xs : List Value} (h : RB w v b) (ho : OwnP isP w 0 127 lv xs) (hm : Mod (fun k => lv.ownBlock = some k) w W) : RB W v b := by
  obtain ⟨A, c, rfl, h1, h2, h3⟩ := h
  refine ⟨A, c, rfl, h1, h2, fun hc => ?_⟩
  obtain ⟨bk, o, rfl, hx⟩ := h3 hc
  refine ⟨bk, o, rfl, fun j x hj => ?_⟩
  have hcell := hx j x hj
  have hlt := World.block_lt_of_cell? w _ hcell
  have hne : ¬ lv.ownBlock = some bk := by
    intro e
    rcases ho with ⟨rfl, _⟩ | ⟨g, o', cap, cur, rfl, _, hbk, _, _, _, _, h8⟩
    · cases e
    · injection e with e
      subst e
      rw [hbk.cell] at hcell
      obtain ⟨p, hp⟩ := h8 x (by rw [Array.mem_toList_iff]; exact Array.mem_of_getElem? hcell)
      obtain ⟨c0, _, hc0⟩ := List.mem_map.1 (List.mem_of_getElem? hj)
      rw [← hc0] at hp
      cases hp
  have : W.cell? ⟨bk, o + j, none⟩ = w.cell? ⟨bk, o + j, none⟩ := World.cell?_of_block (hm.block bk hlt hne)
  rw [this]; exact hcell
theorem winrep_pushed {w w2 wr : World} {F : Nat → Prop} {g p : Nat} {s : Wn} {ps : List Nat} {A A3 : Option Addr} {c c3 : Nat} {lv : Value} {b : List UInt8}
    (hFg : F g) (hO : OwnF isP w F 127 (.slice A s.l.length c) (ps.map ptr)) (hnd : ps.Nodup) (hP : PksRep w F ps s.l) (hg : Bk w g 93 (winCells s (.slice A s.l.length c)))
    (h2 : Mod (fun k => k = g) w w2) (hsz : w2.heap.size = w.heap.size) (hB2 : Bk w2 g 93 #[.int .i64 s.size, .int .i64 (s.last + 1), .slice A s.l.length c, .float .f64 s.mean, .float .f64 s.spread, .int .i64 s.now])
    (hm : Mod (fun k => (Value.slice A s.l.length c).ownBlock = some k) w2 wr) (hO2 : OwnP isP wr 0 127 lv (ps.map ptr ++ [ptr p])) (hv : lv.ownBlock = (Value.slice A s.l.length c).ownBlock ∨ ∃ q, lv.ownBlock = some q ∧ w2.heap.size ≤ q)
    (hp : w2.heap.size ≤ p) (hK : Bk wr p 129 #[.int .i64 (s.last + 1), .slice A3 (b.map bv).length c3, .int .i64 0, .int .i64 0, .int .i64 0]) (hE : OwnP isB wr w2.heap.size 5 (.slice A3 (b.map bv).length c3) (b.map bv)) :
    WinRep (wr.setCell ⟨g, 2, none⟩ lv) (Grow w F) g (pushW s b) ∧ Mod F w (wr.setCell ⟨g, 2, none⟩ lv) := by
  have hgS : ¬ (Value.slice A s.l.length c).ownBlock = some g := fun e => own_ne hO.1 hg (by decide) _ e rfl
  have hBr := hB2.mod hm hgS
  have hgl : g < w.heap.size := hg.lt
  have hset : ∀ k, k ≠ g → (wr.setCell ⟨g, 2, none⟩ lv).heap[k]? = wr.heap[k]? := fun k hk => heap_setCell_other wr ⟨g, 2, none⟩ k _ hk
  have hpl : p < wr.heap.size := hK.lt
  have hpk : ∀ (i q : Nat) (k : Pk), ps[i]? = some q → s.l[i]? = some k → PkRep (wr.setCell ⟨g, 2, none⟩ lv) (Grow w F) q k := by
    intro i q k hq hk
    obtain ⟨q1, v, q2, q3⟩ := hP.2 i q k hq hk
    have keep : ∀ j, j ≠ g → ¬ (Value.slice A s.l.length c).ownBlock = some j → j < w.heap.size → (wr.setCell ⟨g, 2, none⟩ lv).heap[j]? = w.heap[j]? := fun j h1 h3 h4 =>
      ((hset j h1).trans (hm.block j (by omega) h3)).trans (h2.block j h4 h1)
    have qg : q ≠ g := by rintro rfl; unfold Bk at q2 hg; rw [q2] at hg; injection hg with hg; injection hg with _ hg; exact absurd hg (by decide)
    have qo : ¬ (Value.slice A s.l.length c).ownBlock = some q := fun e => own_ne hO.1 q2 (by decide) _ e rfl
    refine ⟨.inl q1, v, (keep q qg qo q2.lt).trans q2, q3.1.keep (fun j hj => keep j (own_ne q3.1 hg (by decide) j hj) (fun e => ?_) (q3.1.lt j hj).2), fun j hj => .inl (q3.2 j hj)⟩
    -- the packets' row holds no bytes
    rcases hO.1 with ⟨h, _⟩ | ⟨g0, o, cap, cur, h, _, hr, _⟩
    · rw [h] at e; cases e
    · rw [h] at e; injection e with e; subst e
      exact own_ne q3.1 hr (by decide) _ hj rfl
  have hpn : p ∉ ps := by
    intro hmem
    obtain ⟨i, hi⟩ := List.getElem?_of_mem hmem
    have hil : i < s.l.length := by rw [← hP.1]; exact (List.getElem?_eq_some_iff.1 hi).1
    have := (hP.2 i p s.l[i] hi (List.getElem?_eq_getElem hil)).2
    obtain ⟨_, q2, _⟩ := this
    have := q2.lt
    omega
  have pg : p ≠ g := by omega
  constructor
  · refine ⟨.inl hFg, lv, ps ++ [p], ?_, ⟨?_, fun k hk => ?_⟩, List.nodup_append.2 ⟨hnd, by simp, fun a ha b hb => ?_⟩, by simp [pushW, hP.1], fun i q k hq hk => ?_⟩
    · have := hBr.set_ 2 lv
      exact this
    · have : (ps ++ [p]).map ptr = ps.map ptr ++ [ptr p] := by simp
      rw [this]
      exact hO2.keep fun j hj => hset j (own_ne hO2 hBr (by decide) j hj)
    · rcases hv with h | ⟨q, h, hq⟩
      · rw [h] at hk; exact .inl (hO.2 k hk)
      · rw [h] at hk; injection hk with hk; subst hk; right; show w.heap.size ≤ _; omega
    · rw [List.mem_singleton.1 hb]; rintro rfl; exact hpn ha
    · have hk' : (s.l ++ [⟨s.last + 1, b, 0, 0, 0⟩])[i]? = some k := hk
      rcases Nat.lt_or_ge i ps.length with hi | hi
      · rw [List.getElem?_append_left hi] at hq
        rw [List.getElem?_append_left (by rw [← hP.1]; exact hi)] at hk'
        exact hpk i q k hq hk'
      · rw [List.getElem?_append_right hi] at hq
        rw [List.getElem?_append_right (by rw [← hP.1]; exact hi)] at hk'
        have hi0 : i - ps.length = 0 := by
          have := (List.getElem?_eq_some_iff.1 hq).1
          simp at this; omega
        rw [hi0] at hq
        have hi1 : i - s.l.length = 0 := by rw [← hP.1]; exact hi0
        rw [hi1] at hk'
        simp only [List.getElem?_cons_zero, Option.some.injEq] at hq hk'
        subst hq; subst hk'
        refine ⟨.inr (by omega), _, (hset p pg).trans hK, hE.keep (fun j hj => hset j (by have := (hE.lt j hj).1; omega)) |>.mono (Nat.zero_le _), fun j hj => .inr (by have := (hE.lt j hj).1; omega)⟩
  · have m1 : Mod F w wr := (Mod.trans (h2.mono (T := F) (fun i hi _ => by subst hi; exact hFg)) hm (fun i hi _ => hO.2 i hi))
    exact ⟨m1.os, m1.tape, m1.output, by simpa using m1.size, fun k hk hn => (hset k (fun e => hn (by rw [e]; exact hFg))).trans (m1.block k hk hn)⟩

set_option maxRecDepth 100000 in
set_option maxHeartbeats 3200000 in
theorem push_ok (g : Nat) (s : Wn) (F : Nat → Prop) (v : Value) (b : List UInt8) (w : World) (h : WinRep w F g s) (hs : 1 ≤ s.size) (hs2 : s.size ≤ 64) (hf : s.l.length < s.size) (hl0 : 0 ≤ s.last) (hl1 : s.last ≤ 2147483647) (hb : RB w v b) (hbl : b.length ≤ 1000000000) :
    Calls Try.prog 65 #[ptr g, v] w fun e w' => e = .returned (.tuple #[.int .i64 (s.last + 1), .int .i64 0]) ∧ WinRep w' (Grow w F) g (pushW s b) ∧ Mod F w w' := by
  obtain ⟨hFg, lv, ps, hB, hO, hnd, hP⟩ := h
  obtain ⟨A, c, rfl, _⟩ := hO.1.rd
  rw [List.length_map, hP.1] at hB hO
  have HB0 := Lib.hid hB
  have HO := Lib.hid hO; have HP := Lib.hid hP
  obtain ⟨A2, c2, rfl, hb1, hb2⟩ := hb.shape
  unfold winCells at hB
  have hgS : ¬ (Value.slice A s.l.length c).ownBlock = some g := fun e => own_ne hO.1 hB (by decide) _ e rfl
  have k0 := hB.cellAt (i := 0) rfl
  have k1 := hB.cellAt (i := 1) rfl
  have k2 := hB.cellAt (i := 2) rfl
  have kf := hB.frozen
  clear hO hP
  go_enter Try.func65, Try.ntmps65
  go_wp2_with fail
  refine (none_not g s.size _ k0 hs).mono ?_
  rintro e w1 ⟨rfl, rfl⟩
  go_wp2_with fail
  go_quiet (fail)
  go_upto_region 6 with fail
  have hB2 : Bk ((w.drewN nq).setCell ⟨g, 1, none⟩ (.int .i64 (s.last + 1))) g 93 #[.int .i64 s.size, .int .i64 (s.last + 1), .slice A s.l.length c, .float .f64 s.mean, .float .f64 s.spread, .int .i64 s.now] := (show Bk (w.drewN nq) g _ _ from hB).set_ 1 _
  have hO2 : OwnP isP ((w.drewN nq).setCell ⟨g, 1, none⟩ (.int .i64 (s.last + 1))) 0 127 (.slice A s.l.length c) (ps.map ptr) :=
    OwnP.keep HO.out.1 (fun k hk => heap_setCell_other (w.drewN nq) ⟨g, 1, none⟩ k _ (own_ne HO.out.1 hB (by decide) k hk))
  have hb3 : RB ((w.drewN nq).setCell ⟨g, 1, none⟩ (.int .i64 (s.last + 1))) (.slice A2 b.length c2) b :=
    rb_set (show RB (w.drewN nq) _ _ from hb) (show Bk (w.drewN nq) g _ _ from hB) (winCells_nb s A s.l.length c)
  have hm2 : Mod (fun k => k = g) w ((w.drewN nq).setCell ⟨g, 1, none⟩ (.int .i64 (s.last + 1))) := ⟨rfl, rfl, rfl, by simp, fun k hk hn => heap_setCell_other (w.drewN nq) ⟨g, 1, none⟩ k _ hn⟩
  have hsz2 : ((w.drewN nq).setCell ⟨g, 1, none⟩ (.int .i64 (s.last + 1))).heap.size = w.heap.size := by simp
  generalize (w.drewN nq).setCell ⟨g, 1, none⟩ (.int .i64 (s.last + 1)) = w2 at hB2 hO2 hb3 hm2 hsz2 ⊢
  have Hsz2 := Lib.hid hsz2
  have HB2 := Lib.hid hB2
  clear hsz2 k0 k1 k2 kf hB
  refine regionPush g A s.l.length c (s.last + 1) (.slice A2 b.length c2) b (ps.map ptr) _ (by rfl) w2 _ _ _ _ (by rfl) (by rfl) hB2 hO2 hgS (fun W hW => own_src hb3 hO2 hW) hbl (by rw [List.length_map, HP.out.1]; omega) ?_
  intro vals wr p A3 c3 lv hmr hOr hv hp hK hE
  simp only [fillAll, BPush, List.foldl_cons, List.foldl_nil, Act.put, List.setIfInBounds_toArray, List.set_cons_zero, List.set_cons_succ]
  obtain ⟨hW, hM⟩ := winrep_pushed hFg HO.out hnd HP.out HB0.out hm2 Hsz2.out HB2.out hmr hOr hv hp hK hE
  have HW := Lib.hid hW; have HM := Lib.hid hM
  have hBr := HB2.out.mod hmr hgS
  have k1 : (wr.setCell ⟨g, 2, none⟩ lv).cell? ⟨g, 1, none⟩ = some (.int .i64 (s.last + 1)) := (hBr.set_ 2 lv).cellAt (i := 1) rfl
  clear hW hM hBr hmr hOr hv hp hK hE hb3 hO2 hm2 hB2
  go_wp2
  go_ret2
  exact ⟨rfl, HW.out, HM.out⟩
end Go.Proofs.Ytkfcdfcoiglieaa
