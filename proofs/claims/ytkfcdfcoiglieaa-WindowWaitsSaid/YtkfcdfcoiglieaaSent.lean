/- (*Window).sent, the iterator of Due: its contract, for every body that keeps the window. Conditions: the window is one, its numbers are in their ranges. -/
import Derived.Test.YtkfcdfcoiglieaaAck
import Derived.Test.YtkfcdfcoiglieaaQTail1
import Derived.RangeFuncNested
import Derived.RangeFuncBound
import Derived.RangeFuncCalls
import Derived.RangeFuncLeaves
import Derived.OwnWalkIn
import Derived.TacticsInMore
import Derived.LoopNIn
import Derived.LoopIn
namespace Go.Proofs.Ytkfcdfcoiglieaa
open Go.RowKit
attribute [local go_sem] Oper.semAt_some

/-- Is a packet due? -/
def isDue (s : Wn) (k : Pk) : Bool := decide (dueB k s.now ≤ s.now)
/-- What a packet is once it was sent. -/
def sendP (s : Wn) (k : Pk) : Pk := { k with times := k.times + 1, at_ := s.now, wait := waitW s (k.times + 1) }
def dueP (s : Wn) (k : Pk) : Pk := if isDue s k then sendP s k else k
/-- What Due leaves; what it tells. -/
def dueW (now : Int) (s : Wn) : Wn := { nowW s now with l := s.l.map (dueP (nowW s now)) }
def outW (now : Int) (s : Wn) : List Pk := s.l.filter (isDue (nowW s now))
/-- A window of which the first i packets were gone through. -/
def stageW (s : Wn) (i : Nat) : Wn := { s with l := (s.l.take i).map (dueP s) ++ s.l.drop i }
theorem stageW_zero (s : Wn) : stageW s 0 = s := by unfold stageW; simp
theorem stageW_all (s : Wn) : stageW s s.l.length = { s with l := s.l.map (dueP s) } := by unfold stageW; simp
theorem stageW_length (s : Wn) {i : Nat} (h : i ≤ s.l.length) : (stageW s i).l.length = s.l.length := by unfold stageW; simp; omega
theorem stageW_get (s : Wn) {i : Nat} (h : i < s.l.length) : (stageW s i).l[i]? = some s.l[i] := by
  unfold stageW
  have hl : ((s.l.take i).map (dueP s)).length = i := by simp; omega
  rw [List.getElem?_append_right (by rw [hl]; exact Nat.le_refl _), hl, Nat.sub_self, List.getElem?_drop, Nat.add_zero, List.getElem?_eq_getElem h]
theorem stageW_succ (s : Wn) {i : Nat} (h : i < s.l.length) : stageW s (i + 1) = { stageW s i with l := (stageW s i).l.set i (dueP s s.l[i]) } := by
  unfold stageW
  have hl : ((s.l.take i).map (dueP s)).length = i := by simp; omega
  rw [List.take_succ_eq_append_getElem h, List.map_append, List.set_append_right (h := by rw [hl]; exact Nat.le_refl _), hl, Nat.sub_self]
  have e : (s.l.drop i).set 0 (dueP s s.l[i]) = dueP s s.l[i] :: s.l.drop (i + 1) := by rw [List.drop_eq_getElem_cons h]; rfl
  rw [e]; simp
theorem out_succ (s : Wn) {i : Nat} (h : i < s.l.length) : (s.l.take (i + 1)).filter (isDue s) = (s.l.take i).filter (isDue s) ++ if isDue s s.l[i] then [s.l[i]] else [] := by
  rw [List.take_succ_eq_append_getElem h, List.filter_append]
  congr 1
  cases hd : isDue s s.l[i] <;> simp [hd]

theorem OwnF.keep' {Pr : Value → Prop} {w w' : World} {F : Nat → Prop} {e : TypeId} {v : Value} {xs : List Value} (h : OwnF Pr w F e v xs) (hk : ∀ k, v.ownBlock = some k → w'.heap[k]? = w.heap[k]?) : OwnF Pr w' F e v xs := ⟨h.1.keep hk, h.2⟩
theorem set_same {α : Type} {l : List α} {i : Nat} {k : α} (h : l[i]? = some k) : l.set i k = l := by
  apply List.ext_getElem?
  intro j
  rw [List.getElem?_set]
  split
  · rename_i e; subst e; rw [h]; simp [(List.getElem?_eq_some_iff.1 h).1]
  · rfl
/-- A window's packet i, and how to turn it. -/
theorem WinRep.at {w : World} {F : Nat → Prop} {g : Nat} {t : Wn} (h : WinRep w F g t) {A : Option Addr} {n c : Nat} (hA : w.cell? ⟨g, 2, none⟩ = some (.slice A n c)) {i : Nat} {k : Pk} (hk : t.l[i]? = some k) :
    n = t.l.length ∧ n ≤ c ∧ c ≤ 9223372036854775807 ∧ ∃ b o p v, A = some ⟨b, o, none⟩ ∧ w.cell? ⟨b, o + i, none⟩ = some (ptr p) ∧ F p ∧ p ≠ g ∧ Bk w g 93 (winCells t (.slice A n c)) ∧ Bk w p 129 (pkCells k v) ∧ OwnF isB w F 5 v (k.body.map bv) ∧
      ∀ (w' : World) (k' : Pk), k'.seq = k.seq → k'.body = k.body → (∀ j, j ≠ p → w'.heap[j]? = w.heap[j]?) → Bk w' p 129 (pkCells k' v) → WinRep w' F g { t with l := t.l.set i k' } := by
  obtain ⟨hFg, lv, ps, hB, hO, hnd, hP⟩ := h
  have hlv : lv = .slice A n c := by
    have := hB.cellAt (i := 2) (v := lv) rfl
    rw [hA] at this; injection this with this; exact this.symm
  subst hlv
  obtain ⟨A', c', e, h1, h2, h3⟩ := hO.1.rd
  injection e with e1 e2 e3
  subst e1; subst e3
  rw [List.length_map] at e2 h1
  subst e2
  have hil : i < t.l.length := (List.getElem?_eq_some_iff.1 hk).1
  have hi' : i < ps.length := by rw [hP.1]; exact hil
  obtain ⟨b, o, e, hx⟩ := h3 (by omega)
  subst e
  have hpi : ps[i]? = some ps[i] := List.getElem?_eq_getElem hi'
  obtain ⟨q1, v, q2, q3⟩ := hP.2 i ps[i] k hpi hk
  have pg : ps[i] ≠ g := by intro e; rw [e] at q2; unfold Bk at q2 hB; rw [q2] at hB; injection hB with hB; injection hB with _ hB; exact absurd hB (by decide)
  refine ⟨hP.1, h1, by unfold maxLen at h2; exact h2, b, o, ps[i], v, rfl, hx i (ptr ps[i]) (by simp [hi']), q1, pg, hB, q2, q3, fun w' k' hs hbd hsame hB' => ?_⟩
  refine ⟨hFg, _, ps, (hsame g (Ne.symm pg)).trans hB, ⟨hO.1.keep fun j hj => hsame j (fun e => own_ne hO.1 q2 (by decide) j hj e), hO.2⟩, hnd, by simp [hP.1], fun j q kk hq hkk => ?_⟩
  by_cases hji : j = i
  · subst hji
    have hq' : q = ps[j] := by rw [hpi] at hq; exact (Option.some.inj hq).symm
    have hkk' : kk = k' := by
      have : (t.l.set j k')[j]? = some k' := by rw [List.getElem?_set_self hil]
      rw [show ({ t with l := t.l.set j k' } : Wn).l = t.l.set j k' from rfl] at hkk
      rw [this] at hkk; exact (Option.some.inj hkk).symm
    subst hq'; subst hkk'
    refine ⟨q1, v, hB', ?_⟩
    rw [hbd]
    exact q3.keep' fun j' hj' => hsame j' (fun e => own_ne q3.1 q2 (by decide) j' hj' e)
  · have hkk' : t.l[j]? = some kk := by
      rw [show ({ t with l := t.l.set i k' } : Wn).l = t.l.set i k' from rfl, List.getElem?_set_ne (Ne.symm hji)] at hkk
      exact hkk
    obtain ⟨r1, v', r2, r3⟩ := hP.2 j q kk hq hkk'
    have hqp : q ≠ ps[i] := by
      intro e
      rw [e] at hq
      exact hji ((List.getElem?_inj (by rw [hP.1]; exact (List.getElem?_eq_some_iff.1 hkk').1) hnd).1 (hq.trans hpi.symm))
    exact ⟨r1, v', (hsame q hqp).trans r2, r3.keep' fun j' hj' => hsame j' (fun e => own_ne r3.1 q2 (by decide) j' hj' e)⟩

theorem hmx_own {w w' : World} {F : Nat → Prop} {p : Nat} {v : Value} {xs : List Value} {cs : Array Value} (hsame : ∀ j, j ≠ p → w'.heap[j]? = w.heap[j]?) (h : OwnF isB w F 5 v xs) (hB : Bk w p 129 cs) : ∀ j, v.ownBlock = some j → w'.heap[j]? = w.heap[j]? :=
  fun j hj => hsame j (own_ne h.1 hB (by decide) j hj)
set_option maxRecDepth 100000 in
set_option maxHeartbeats 3200000 in
/-- **(*Window).sent: for every loop body that keeps the window's blocks.** -/
theorem sent_in (m l g : Nat) (s : Wn) (F : Nat → Prop) (J : List Pk → World → Prop) (hk : WinOk s)
    (hJ : ∀ pre W W', J pre W → Mod F W W' → J pre W')
    (hY : ∀ (pre : List Pk) (k : Pk) (v : Value) (W : World), J pre W → OwnF isB W F 5 v (k.body.map bv) → k ∈ s.l → pre.length < s.l.length → YieldAt Fence.wide m Try.prog l #[.agg #[.int .i64 k.seq, v]] W fun e W' =>
      e = .returned (.bool true) ∧ (∀ j, F j → W'.heap[j]? = W.heap[j]?) ∧ J (pre ++ [k]) W')
    (W : World) (hW : WinRep W F g s) (h0 : J [] W) :
    CallsIn Fence.wide (m + 1) Try.prog 100 #[ptr g, .func (.yield l) #[] #[]] W fun e W' => (∃ v, e = .returned v) ∧ WinRep W' F g { s with l := s.l.map (dueP s) } ∧ J (s.l.filter (isDue s)) W' := by
  obtain ⟨A, c, ps, hB, hc1, hc2, _, _, _, _⟩ := hW.open
  unfold winCells at hB
  have k2 := hB.cellAt (i := 2) rfl
  refine callsIn_of_wp Try.func100 rfl trivial ?_ rfl
  simp only [Try.ntmps100, List.size_toArray, List.length_cons, List.length_nil, Nat.reduceAdd, Nat.reduceSub, Array.replicate_succ, Array.replicate_zero, List.push_toArray, List.append_toArray, List.nil_append, List.cons_append]
  have hs2 := hk.s2; have hlen := hk.len; have hn1 := hk.now1; have hn0 := hk.now0
  have HK := Lib.hid hk; have HW := Lib.hid hW; have HJ0 := Lib.hid h0; have K2 := Lib.hid k2
  clear hk hW hB h0
  gi_wp2
  gi_loopw [11] (fun u11 wr => ∃ (i : Nat), i ≤ s.l.length ∧ u11 = .int .i64 i ∧ WinRep wr F g (stageW s i) ∧ J ((s.l.take i).filter (isDue s)) wr ∧ wr.cell? ⟨g, 2, none⟩ = some (.slice A s.l.length c)) (fun u11 _ => s.l.length - (intOf u11).toNat)
  case atStart => exact ⟨0, Nat.zero_le _, rfl, by rw [stageW_zero]; exact HW.out, HJ0.out, K2.out⟩
  case round =>
    clear k2
    obtain ⟨i, hi, rfl, hWr, hJr, hcr⟩ := hrel
    by_cases hlt : i < s.l.length
    · have hik := stageW_get s hlt
      obtain ⟨hn, _, _, b, o, p, v, rfl, kp, hFp, hpg, hBg, hBp, hOv, hturn⟩ := hWr.at hcr hik
      have hko := HK.out.pk _ (List.getElem_mem hlt)
      unfold winCells at hBg
      have q5 : wr.cell? ⟨g, 5, none⟩ = some (.int .i64 s.now) := hBg.cellAt (i := 5) rfl
      have iI0 : (0 : Int) ≤ (i : Int) := by omega
      have iI1 : (i : Int) < (s.l.length : Int) := by omega
      have hmem : s.l[i] ∈ s.l := List.getElem_mem hlt
      have HBp := Lib.hid hBp
      have Hturn := Lib.hid hturn; have Hn := Lib.hid hn
      have Hcr := Lib.hid hcr
      have hpd := fun n => Calls.quiet_of (n := n) (pdue_any p s.l[i] v s.now s.now (wr.drewN n) (by exact hBp) hko hn1)
      have Hpd := Lib.hid hpd; have Hik := Lib.hid hik
      clear hpd hturn hn hcr hik
      generalize hke : s.l[i] = k at *
      have Hke := Lib.hid hke; clear hke
      by_cases hd : dueB k s.now ≤ s.now
      · gi_wp2
        refine wpIn_wide.2 ?_
        go_quiet ((go_at_call 101; exact Hpd.out _))
        unfold pkCells at hBp
        have r0 := hBp.cellAt (i := 2) rfl
        have rf := hBp.frozen 2
        have hkt0 := hko.t0; have hkt1 := hko.t1; have hka1 := hko.a1
        gi_wp2
        have hBp4 : Bk ((wr.drewN nq).setCell ⟨p, 2, none⟩ (.int .i64 (k.times + 1))) p 129 (pkCells { k with times := k.times + 1 } v) := (show Bk (wr.drewN nq) p _ _ from hBp).set_ 2 _
        have hW4 : WinRep ((wr.drewN nq).setCell ⟨p, 2, none⟩ (.int .i64 (k.times + 1))) F g _ := Hturn.out _ { k with times := k.times + 1 } rfl rfl (fun j hj => heap_setCell_other (wr.drewN nq) ⟨p, 2, none⟩ j _ hj) hBp4
        have hk4 : ∀ j, j ≠ p → ((wr.drewN nq).setCell ⟨p, 2, none⟩ (.int .i64 (k.times + 1))).heap[j]? = wr.heap[j]? := fun j hj => heap_setCell_other (wr.drewN nq) ⟨p, 2, none⟩ j _ hj
        have hs4 : ((wr.drewN nq).setCell ⟨p, 2, none⟩ (.int .i64 (k.times + 1))).heap.size = wr.heap.size := by simp
        have hos4 : ((wr.drewN nq).setCell ⟨p, 2, none⟩ (.int .i64 (k.times + 1))).os = wr.os ∧ ((wr.drewN nq).setCell ⟨p, 2, none⟩ (.int .i64 (k.times + 1))).tape = wr.tape ∧ ((wr.drewN nq).setCell ⟨p, 2, none⟩ (.int .i64 (k.times + 1))).output = wr.output := ⟨rfl, rfl, rfl⟩
        have hq5 : ((wr.drewN nq).setCell ⟨p, 2, none⟩ (.int .i64 (k.times + 1))).cell? ⟨g, 5, none⟩ = some (.int .i64 s.now) := by
          rw [World.cell?_setCell_other _ _ _ _ (fun e => hpg (by injection e))]; exact q5
        generalize (wr.drewN nq).setCell ⟨p, 2, none⟩ (.int .i64 (k.times + 1)) = w4 at hBp4 hW4 hk4 hs4 hos4 hq5 ⊢
        have Hk4 := Lib.hid hk4; have Hs4 := Lib.hid hs4; have Hos4 := Lib.hid hos4
        have hwt : ∀ n, Calls Try.prog 106 #[ptr g, .int .i64 (k.times + 1)] (w4.drewN n) fun e w'' => e = .returned (.int .i64 (waitW s (k.times + 1))) ∧ ∃ m, w'' = w4.drewN m := fun n => by
          have h := wwait_any g _ F (k.times + 1) (w4.drewN n) (hW4.new_ (drewN_new w4 n)) (by omega) (by omega)
          exact Calls.quiet_of h
        have Hwt := Lib.hid hwt; have HBp4 := Lib.hid hBp4
        clear hwt hk4 hs4 hos4 hW4 q5 r0 rf hBp kp hBg
        unfold pkCells at hBp4
        have r2 := hBp4.cellAt (i := 2) rfl
        have r3 := hBp4.cellAt (i := 3) rfl
        have r4 := hBp4.cellAt (i := 4) rfl
        have rf3 := hBp4.frozen 3
        have rf4 := hBp4.frozen 4
        clear hBp4
        refine wpIn_wide.2 ?_
        refine wp_region_quiet_tail1 12 1 (.tmp 5) _ rfl rfl (by kernel_rfl) (by kernel_rfl) (fun _ _ _ _ h => h) ?_
        simp only [List.take_succ_cons, List.take_zero, List.drop_succ_cons, List.drop_zero]
        repeat (go_big_quiet_step ((go_at_call 106; exact Hwt.out _)))
        refine wpQuiet_nil ?_
        intro _ hw'
        obtain ⟨nq2, hw''⟩ := hw'
        subst hw''
        have hmx : Mod F wr (((w4.drewN nq2).setCell ⟨p, 3, none⟩ (.int .i64 s.now)).setCell ⟨p, 4, none⟩ (.int .i64 (waitW s (k.times + 1)))) := by
          refine ⟨Hos4.out.1, Hos4.out.2.1, Hos4.out.2.2, by simpa using Nat.le_of_eq Hs4.out.symm, fun j _ hn => ?_⟩
          have hjp : j ≠ p := fun e => hn (by rw [e]; exact hFp)
          exact ((heap_setCell_other _ ⟨p, 4, none⟩ j _ hjp).trans (heap_setCell_other (w4.drewN nq2) ⟨p, 3, none⟩ j _ hjp)).trans (Hk4.out j hjp)
        have hBx : Bk (((w4.drewN nq2).setCell ⟨p, 3, none⟩ (.int .i64 s.now)).setCell ⟨p, 4, none⟩ (.int .i64 (waitW s (k.times + 1)))) p 129 (pkCells (sendP s k) v) :=
          ((show Bk (w4.drewN nq2) p _ _ from HBp4.out).set_ 3 (.int .i64 s.now)).set_ 4 (.int .i64 (waitW s (k.times + 1)))
        have hWx := Hturn.out _ (sendP s k) rfl rfl (fun j hj => ((heap_setCell_other _ ⟨p, 4, none⟩ j _ hj).trans (heap_setCell_other (w4.drewN nq2) ⟨p, 3, none⟩ j _ hj)).trans (Hk4.out j hj)) hBx
        have hcx : (((w4.drewN nq2).setCell ⟨p, 3, none⟩ (.int .i64 s.now)).setCell ⟨p, 4, none⟩ (.int .i64 (waitW s (k.times + 1)))).cell? ⟨g, 2, none⟩ = some (.slice (some ⟨b, o, none⟩) s.l.length c) :=
          (World.cell?_of_block (a := ⟨g, 2, none⟩) (((heap_setCell_other _ ⟨p, 4, none⟩ g _ (Ne.symm hpg)).trans (heap_setCell_other (w4.drewN nq2) ⟨p, 3, none⟩ g _ (Ne.symm hpg))).trans (Hk4.out g (Ne.symm hpg)))).trans Hcr.out
        have hst : { stageW s i with l := (stageW s i).l.set i (sendP s k) } = stageW s (i + 1) := by
          rw [stageW_succ s hlt, Hke.out]
          unfold dueP isDue
          rw [if_pos (decide_eq_true hd)]
        have hft : (s.l.take (i + 1)).filter (isDue s) = (s.l.take i).filter (isDue s) ++ [k] := by
          rw [out_succ s hlt, Hke.out]
          unfold isDue
          rw [if_pos (decide_eq_true hd)]
        rw [hst] at hWx
        obtain ⟨fn, tmps, assign, body, hy, hR⟩ := hY ((s.l.take i).filter (isDue s)) k v _ (hJ _ _ _ hJr hmx) (hOv.keep' (hmx_own (fun j hj => ((heap_setCell_other _ ⟨p, 4, none⟩ j _ hj).trans (heap_setCell_other (w4.drewN nq2) ⟨p, 3, none⟩ j _ hj)).trans (Hk4.out j hj)) hOv HBp.out)) hmem (by have := List.length_filter_le (isDue s) (s.l.take i); rw [List.length_take] at this; omega)
        have HWx := Lib.hid hWx; have Hft := Lib.hid hft; have Hcx := Lib.hid hcx
        have q0 := hBx.cellAt (i := 0) (v := .int .i64 k.seq) rfl
        have q1 := hBx.cellAt (i := 1) (v := v) rfl
        clear hWx hft hcx hmx hBx hst hJr
        go_wp2
        generalize ((w4.drewN nq2).setCell ⟨p, 3, none⟩ (.int .i64 s.now)).setCell ⟨p, 4, none⟩ (.int .i64 (waitW s (k.times + 1))) = wx at *
        gi_wp2
        refine hR.mono ?_
        rintro e W3 ⟨rfl, hkeep, hJ3⟩
        rw [← Hft.out] at hJ3
        gi_wp2
        go_roundw
        case rel =>
          refine ⟨i + 1, by omega, by go_num, HWx.out.keep hkeep (fun _ h => h), hJ3, ?_⟩
          exact (World.cell?_of_block (a := ⟨g, 2, none⟩) (hkeep g HWx.out.1)).trans Hcx.out
        case measure => simp [intOf]; omega
      · have Hft : Hid ((s.l.take (i + 1)).filter (isDue s) = (s.l.take i).filter (isDue s)) := by
          show _ = _
          rw [out_succ s hlt, Hke.out]
          unfold isDue
          rw [if_neg (by simp; omega), List.append_nil]
        have Hst : Hid (stageW s (i + 1) = stageW s i) := by
          show _ = _
          rw [stageW_succ s hlt, Hke.out]
          unfold dueP isDue
          rw [if_neg (by simp; omega)]
          have := set_same Hik.out
          show { stageW s i with l := (stageW s i).l.set i k } = stageW s i
          rw [this]
        have hd' : s.now < dueB k s.now := by omega
        gi_wp2
        refine wpIn_wide.2 ?_
        go_quiet ((go_at_call 101; exact Hpd.out _))
        gi_wp2
        go_roundw
        case rel =>
          refine ⟨i + 1, by omega, by go_num, ?_, ?_, Hcr.out⟩
          · rw [Hst.out]; exact hWr.new_ (drewN_new wr nq)
          · rw [Hft.out]; exact hJ _ _ _ hJr (Mod.of_new (drewN_new wr nq) F)
        case measure => simp [intOf]; omega
    · have hil : i = s.l.length := by omega
      subst hil
      rw [stageW_all, List.take_length] at *
      gi_wp2
      go_end0
      exact ⟨⟨_, rfl⟩, hWr, hJr⟩
end Go.Proofs.Ytkfcdfcoiglieaa
