/- WindowWhen, walked. Conditions: the sizes that a row lets in. -/
import Derived.Test.YtkfcdfcoiglieaaWLaw
import Derived.Test.YtkfcdfcoiglieaaQHead
namespace Go.Proofs.Ytkfcdfcoiglieaa
open Go.RowKit

theorem ackL_now (n : Int) : ∀ (x : List Pk) (s : Wn), (ackL n s x).1.now = s.now := fun x s => (ackL_same n x s).2.2.1
theorem ackW_now (s : Wn) (n now : Int) : (ackW n now s).1.now = max s.now now := ackL_now n s.l (nowW s now)
theorem ackW_last (s : Wn) (n now : Int) : (ackW n now s).1.last = s.last := (ackL_same n s.l (nowW s now)).2.1
theorem leastL_le {now : Int} : ∀ (l : List Pk) (m : Int), leastL now m l ≤ m ∧ (∀ k ∈ l, leastL now m l ≤ dueB k now) ∧ (leastL now m l = m ∨ ∃ k ∈ l, leastL now m l = dueB k now)
  | [], m => ⟨Int.le_refl _, fun k hk => by simp at hk, .inl rfl⟩
  | x :: l, m => by
    obtain ⟨h1, h2, h3⟩ := leastL_le (now := now) l (min m (dueB x now))
    have e : leastL now m (x :: l) = leastL now (min m (dueB x now)) l := rfl
    rw [e]
    refine ⟨by omega, fun k hk => ?_, ?_⟩
    · rcases List.mem_cons.1 hk with rfl | hk
      · omega
      · exact h2 k hk
    · rcases h3 with h3 | ⟨k, hk, h3⟩
      · by_cases h : m ≤ dueB x now
        · left; omega
        · right; exact ⟨x, List.mem_cons_self .., by omega⟩
      · right; exact ⟨k, List.mem_cons_of_mem _ hk, h3⟩
theorem when_nil {s : Wn} (h : s.l = []) : whenW s = .tuple #[.int .i64 0, .bool false] := by unfold whenW; rw [h]
theorem when_some {s : Wn} (h : s.l ≠ []) : ∃ t : Int, whenW s = .tuple #[.int .i64 t, .bool true] ∧ (∀ k ∈ s.l, t ≤ dueB k s.now) ∧ ∃ k ∈ s.l, dueB k s.now = t := by
  unfold whenW
  match hl : s.l, h with
  | k :: r, _ =>
    obtain ⟨_, h2, h3⟩ := leastL_le (now := s.now) (k :: r) (dueB k s.now)
    refine ⟨_, rfl, h2, ?_⟩
    rcases h3 with h3 | ⟨x, hx, h3⟩
    · exact ⟨k, List.mem_cons_self .., h3.symm⟩
    · exact ⟨x, hx, h3.symm⟩
/-- Ahead of that time nothing is due. -/
theorem when_ahead {s : Wn} {t : Int} (hle : ∀ k ∈ s.l, t ≤ dueB k s.now) (ht : s.now < t) : outW (t - 1) s = [] ∧ dueW (t - 1) s = { s with now := t - 1 } := by
  have hnow : (nowW s (t - 1)).now = t - 1 := by show max s.now (t - 1) = _; omega
  have hnot : ∀ k ∈ s.l, isDue (nowW s (t - 1)) k = false := by
    intro k hkm
    have h1 := hle k hkm
    unfold isDue
    rw [hnow]
    refine decide_eq_false fun h => ?_
    unfold dueB at h h1
    split at h
    · rename_i h0; rw [if_pos h0] at h1; omega
    · rename_i h0; rw [if_neg h0] at h1; omega
  constructor
  · unfold outW
    rw [List.filter_eq_nil_iff]
    intro k hkm
    rw [hnot k hkm]; decide
  · unfold dueW
    have : s.l.map (dueP (nowW s (t - 1))) = s.l := by
      conv => rhs; rw [← List.map_id s.l]
      exact List.map_congr_left fun k hkm => by unfold dueP; rw [hnot k hkm]; rfl
    rw [this]
    have e : max s.now (t - 1) = t - 1 := by omega
    show ({ s with now := max s.now (t - 1) } : Wn) = { s with now := t - 1 }
    rw [e]
/-- From then on something is. -/
theorem when_then {s s' : Wn} {t m : Int} (hl : s'.l = s.l) (hx : ∃ k ∈ s.l, dueB k s.now = t) (hm : t ≤ m) : outW m s' ≠ [] := by
  obtain ⟨k, hkm, hd⟩ := hx
  have : k ∈ outW m s' := by
    unfold outW
    rw [hl]
    refine List.mem_filter.2 ⟨hkm, ?_⟩
    unfold isDue
    refine decide_eq_true ?_
    show dueB k (max s'.now m) ≤ max s'.now m
    unfold dueB at hd ⊢
    split
    · exact Int.le_refl _
    · rename_i h0; rw [if_neg h0] at hd; omega
  intro e
  rw [e] at this; cases this
theorem when_top {s : Wn} {t : Int} (hk : WinOk s) (hx : ∃ k ∈ s.l, dueB k s.now = t) : 0 ≤ t ∧ t ≤ s.now + 60 := by
  obtain ⟨k, hkm, hd⟩ := hx
  have hp := hk.pk k hkm
  have := hk.now0; have := hp.a0; have := hp.a1; have := hp.w0; have := hp.w1
  unfold dueB at hd
  split at hd <;> omega

set_option maxRecDepth 100000 in
set_option maxHeartbeats 1600000 in
theorem when13 (size : Int) (v : Value) (acts : List AcT) (w : World) (hr : RA w v acts) (hb : ∀ a ∈ acts, a.b.length ≤ 140737488351232 ∧ I64 a.kind ∧ I64 a.n ∧ I64 a.now) :
    Calls Try.prog 20 #[.int .i64 size, v] w fun e w' => e = .returned (.bool true) ∧ New w w' := by
  obtain ⟨A, c, rfl, hc1, hc2, hx⟩ := hr
  have Hr : Hid (RA w (.slice A acts.length c) acts) := ⟨A, c, rfl, hc1, hc2, hx⟩
  have pe := beq_ptr
  have Hb := Lib.hid hb; clear hb hx
  by_cases hsz : 1 ≤ size ∧ size ≤ 64
  · obtain ⟨hs1, hs2⟩ := hsz
    cases hL : longA acts with
    | true =>
      have HL := Lib.hid hL; clear hL
      go_enter Try.func20, Try.ntmps20
      go_wp2_with fail
      refine (awake13 _).mono ?_
      rintro e w1 ⟨rfl, hn1⟩
      go_wp2_with fail
      refine (win_new size _ hs1 hs2).mono ?_
      rintro e w2 ⟨rfl, _, hn2⟩
      have hn12 := hn1.trans hn2
      go_wp2_with fail
      refine (long_any _ acts _ (Hr.out.new_ hn12) (fun a ha => (Hb.out a ha).1)).mono ?_
      rw [HL.out]
      rintro e w3 ⟨rfl, rfl⟩
      go_wp2
      go_ret
      exact ⟨rfl, hn12⟩
    | false =>
      obtain ⟨hlen, hbl⟩ := longA_not hL
      have Hbl := Lib.hid hbl
      have HL := Lib.hid hL; clear hL hbl
      go_enter Try.func20, Try.ntmps20
      go_wp2_with fail
      refine (awake13 _).mono ?_
      rintro e w1 ⟨rfl, hn1⟩
      go_wp2_with fail
      refine (win_new size _ hs1 hs2).mono ?_
      rintro e w2 ⟨rfl, hW2, hn2⟩
      have HW2 := Lib.hid hW2; clear hW2
      have hn12 := hn1.trans hn2
      go_wp2_with fail
      refine (long_any _ acts _ (Hr.out.new_ hn12) (fun a ha => (Hb.out a ha).1)).mono ?_
      rw [HL.out]
      rintro e w3 ⟨rfl, rfl⟩
      have Hn := Lib.hid hn12
      have hsz1 : w.heap.size ≤ w1.heap.size := New.size hn1
      clear hn1 hn2 hn12
      go_wp2_with fail
      generalize hg : w1.heap.size = g at *
      have Hg := Lib.hid hg; clear hg
      go_loopw [8, 9] (fun u8 u9 wr => ∃ (i : Nat) (s : Wn) (nw : Int) (F : Nat → Prop), i ≤ acts.length ∧ u9 = .int .i64 i ∧ u8 = .int .i64 nw ∧ 0 ≤ nw ∧ nw ≤ 1048576 + 60 * i ∧ Win wr F g s ∧ s.now ≤ nw ∧ s.last ≤ i ∧ (∀ k, F k → w.heap.size ≤ k) ∧ New w wr) (fun _ u9 _ => acts.length - (intOf u9).toNat)
      case atStart => exact ⟨0, newWn size, 0, _, Nat.zero_le _, rfl, rfl, by decide, by omega, HW2.out, (by decide : (0 : Int) ≤ 0), (by decide : (0 : Int) ≤ 0), fun k hk => by rw [hk]; exact hsz1, Hn.out⟩
      case round =>
        obtain ⟨i, s, nw, F, hi, rfl, rfl, hw0, hw1, hW, hsn, hsl, hF, hn⟩ := hrel
        by_cases hlt : i < acts.length
        · obtain ⟨A', c', e, _, _, hx⟩ := Hr.out
          injection e with e1 e2 e3
          subst e1; subst e3
          clear e2
          obtain ⟨b, o, rfl, hx2⟩ := hx (by omega)
          obtain ⟨u, d0, d1, d2, d3, hu⟩ := hx2 i acts[i] (List.getElem?_eq_getElem hlt)
          obtain ⟨hu1, hu2, hu3, hu4⟩ := Hb.out acts[i] (List.getElem_mem hlt)
          have hub := Hbl.out acts[i] (List.getElem_mem hlt)
          generalize acts[i] = a at *
          obtain ⟨A2, c22, rfl, _, _⟩ := hu.shape
          have c0 := hn.cell d0; have c1 := hn.cell d1; have c2 := hn.cell d2; have c3 := hn.cell d3
          replace hu := hu.new_ hn
          clear d0 d1 d2 d3
          have iI0 : (0 : Int) ≤ (i : Int) := by omega
          have iI1 : (i : Int) < (acts.length : Int) := by omega
          have Hu := Lib.hid hu; have HW := Lib.hid hW; have HF := Lib.hid hF; have HH := Lib.hid hn
          have h64 : i ≤ 150 := by omega
          clear hx hx2 hu hW hF hn
          by_cases hout : 0 ≤ a.now ∧ a.now ≤ 1048576
          · obtain ⟨ht0, ht1⟩ := hout
            go_upto_block 2 with fail
            go_cut [] (fun wx => ∃ (s1 : Wn) (F1 : Nat → Prop), Win wx F1 g s1 ∧ s1.now ≤ max nw a.now ∧ s1.last ≤ i + 1 ∧ (∀ k, F1 k → w.heap.size ≤ k) ∧ New w wx)
            case first =>
              have hkind : a.kind = 0 ∨ a.kind = 1 ∨ a.kind = 2 ∨ a.kind = 3 ∨ a.kind = 4 ∨ (a.kind ≠ 0 ∧ a.kind ≠ 1 ∧ a.kind ≠ 2 ∧ a.kind ≠ 3 ∧ a.kind ≠ 4) := by omega
              rcases hkind with hk | hk | hk | hk | hk | hk
              -- WAYS
              · -- kind 0
                have e0 : (a.kind == 0) = true := by rw [hk]; rfl
                have Hk := Lib.hid hk; clear hk
                by_cases hf : s.l.length < s.size
                · have Hf := Lib.hid hf; clear hf
                  go_wp2_with fail
                  refine (win_push g s F _ a.b _ HW.out Hf.out (by omega) Hu.out (by omega)).mono ?_
                  rintro e w4 ⟨rfl, hW4, hm4⟩
                  have HW4 := Lib.hid hW4; have HM4 := Lib.hid hm4; clear hW4 hm4
                  go_wp2_with fail
                  go_meet
                  exact ⟨pushW s a.b, Grown wr w4 F, HW4.out, by show s.now ≤ _; omega, by show s.last + 1 ≤ _; omega, fun k hk => by rcases hk.1 with h | h; exact HF.out k h; have := New.size HH.out; omega, HH.out.thenMod HM4.out HF.out⟩
                · have Hf := Lib.hid hf; clear hf
                  go_wp2_with fail
                  refine (win_full g s F _ _ HW.out (by have := Hf.out; omega)).mono ?_
                  rintro e w4 ⟨rfl, hn4⟩
                  have HN4 := Lib.hid hn4; clear hn4
                  go_wp2_with fail
                  go_meet
                  exact ⟨s, F, HW.out.new_ HN4.out, by omega, by omega, HF.out, HH.out.trans HN4.out⟩
              · -- kind 1
                have e0 : (a.kind == 0) = false := by rw [hk]; rfl
                have e1 : (a.kind == 1) = true := by rw [hk]; rfl
                have Hk := Lib.hid hk; clear hk
                by_cases hf : s.l.length < s.size
                · have Hf := Lib.hid hf; clear hf
                  go_wp2_with fail
                  refine (win_push g s F _ a.b _ HW.out Hf.out (by omega) Hu.out (by omega)).mono ?_
                  rintro e w4 ⟨rfl, hW4, hm4⟩
                  have HW4 := Lib.hid hW4; have HM4 := Lib.hid hm4; clear hW4 hm4
                  go_wp2_with fail
                  go_meet
                  exact ⟨pushW s a.b, Grown wr w4 F, HW4.out, by show s.now ≤ _; omega, by show s.last + 1 ≤ _; omega, fun k hk => by rcases hk.1 with h | h; exact HF.out k h; have := New.size HH.out; omega, HH.out.thenMod HM4.out HF.out⟩
                · have Hf := Lib.hid hf; clear hf
                  go_wp2_with fail
                  refine (win_full g s F _ _ HW.out (by have := Hf.out; omega)).mono ?_
                  rintro e w4 ⟨rfl, hn4⟩
                  have HN4 := Lib.hid hn4; clear hn4
                  go_wp2_with fail
                  go_meet
                  exact ⟨s, F, HW.out.new_ HN4.out, by omega, by omega, HF.out, HH.out.trans HN4.out⟩
              · -- kind 2
                have e0 : (a.kind == 0) = false := by rw [hk]; rfl
                have e1 : (a.kind == 1) = false := by rw [hk]; rfl
                have e2 : (a.kind == 2) = true := by rw [hk]; rfl
                have Hk := Lib.hid hk; clear hk
                by_cases hbd : ackBad s a.n a.now
                · have Hbd := Lib.hid hbd; clear hbd
                  go_wp2_with fail
                  refine wp_region_quiet_tail 11 (by kernel_rfl) (by kernel_rfl) (by kernel_rfl) ?_
                  simp only [List.take_succ_cons, List.take_zero, List.drop_succ_cons, List.drop_zero]
                  repeat (go_big_quiet_step (fail))
                  refine wpQuiet_nil ?_
                  intro wq hwq
                  have Hq := Lib.hid (drew_new hwq)
                  clear hwq c0 c1 c2 c3
                  go_wp2_with fail
                  refine (win_ack_bad g s F _ _ _ (HW.out.new_ Hq.out) Hbd.out).mono ?_
                  rintro e w4 ⟨rfl, rfl⟩
                  go_wp2_with fail
                  go_meet
                  exact ⟨s, F, HW.out.new_ Hq.out, by omega, by omega, HF.out, HH.out.trans Hq.out⟩
                · have hnb : 0 ≤ a.n ∧ a.n ≤ s.last ∧ 0 ≤ a.now ∧ a.now ≤ 2147483647 := by unfold ackBad at hbd; omega
                  obtain ⟨n0, n1, n2, n3⟩ := hnb
                  clear hbd
                  go_wp2_with fail
                  refine wp_region_quiet_tail 11 (by kernel_rfl) (by kernel_rfl) (by kernel_rfl) ?_
                  simp only [List.take_succ_cons, List.take_zero, List.drop_succ_cons, List.drop_zero]
                  repeat (go_big_quiet_step (fail))
                  refine wpQuiet_nil ?_
                  intro wq hwq
                  have Hq := Lib.hid (drew_new hwq)
                  clear hwq c0 c1 c2 c3
                  go_wp2_with fail
                  refine (win_ack g s F a.n a.now _ (HW.out.new_ Hq.out) n0 n1 n2 n3).mono ?_
                  rintro e w4 ⟨rfl, hW4, hm4⟩
                  have HW4 := Lib.hid hW4; have HM4 := Lib.hid hm4; clear hW4 hm4
                  go_wp2_with fail
                  go_meet
                  exact ⟨(ackW a.n a.now s).1, F, HW4.out, by rw [ackW_now]; omega, by rw [ackW_last]; omega, HF.out, (HH.out.trans Hq.out).thenMod HM4.out HF.out⟩
              · -- kind 3
                have e0 : (a.kind == 0) = false := by rw [hk]; rfl
                have e1 : (a.kind == 1) = false := by rw [hk]; rfl
                have e2 : (a.kind == 2) = false := by rw [hk]; rfl
                have e3 : (a.kind == 3) = true := by rw [hk]; rfl
                have Hk := Lib.hid hk; clear hk
                by_cases hbd : ackBad s a.n a.now
                · have Hbd := Lib.hid hbd; clear hbd
                  go_wp2_with fail
                  refine wp_region_quiet_tail 11 (by kernel_rfl) (by kernel_rfl) (by kernel_rfl) ?_
                  simp only [List.take_succ_cons, List.take_zero, List.drop_succ_cons, List.drop_zero]
                  repeat (go_big_quiet_step (fail))
                  refine wpQuiet_nil ?_
                  intro wq hwq
                  have Hq := Lib.hid (drew_new hwq)
                  clear hwq c0 c1 c2 c3
                  go_wp2_with fail
                  refine (win_ack_bad g s F _ _ _ (HW.out.new_ Hq.out) Hbd.out).mono ?_
                  rintro e w4 ⟨rfl, rfl⟩
                  go_wp2_with fail
                  go_meet
                  exact ⟨s, F, HW.out.new_ Hq.out, by omega, by omega, HF.out, HH.out.trans Hq.out⟩
                · have hnb : 0 ≤ a.n ∧ a.n ≤ s.last ∧ 0 ≤ a.now ∧ a.now ≤ 2147483647 := by unfold ackBad at hbd; omega
                  obtain ⟨n0, n1, n2, n3⟩ := hnb
                  clear hbd
                  go_wp2_with fail
                  refine wp_region_quiet_tail 11 (by kernel_rfl) (by kernel_rfl) (by kernel_rfl) ?_
                  simp only [List.take_succ_cons, List.take_zero, List.drop_succ_cons, List.drop_zero]
                  repeat (go_big_quiet_step (fail))
                  refine wpQuiet_nil ?_
                  intro wq hwq
                  have Hq := Lib.hid (drew_new hwq)
                  clear hwq c0 c1 c2 c3
                  go_wp2_with fail
                  refine (win_ack g s F a.n a.now _ (HW.out.new_ Hq.out) n0 n1 n2 n3).mono ?_
                  rintro e w4 ⟨rfl, hW4, hm4⟩
                  have HW4 := Lib.hid hW4; have HM4 := Lib.hid hm4; clear hW4 hm4
                  go_wp2_with fail
                  go_meet
                  exact ⟨(ackW a.n a.now s).1, F, HW4.out, by rw [ackW_now]; omega, by rw [ackW_last]; omega, HF.out, (HH.out.trans Hq.out).thenMod HM4.out HF.out⟩
              · -- kind 4
                have e0 : (a.kind == 0) = false := by rw [hk]; rfl
                have e1 : (a.kind == 1) = false := by rw [hk]; rfl
                have e2 : (a.kind == 2) = false := by rw [hk]; rfl
                have e3 : (a.kind == 3) = false := by rw [hk]; rfl
                have e4 : (a.kind == 4) = true := by rw [hk]; rfl
                have Hk := Lib.hid hk; clear hk
                go_wp2_with fail
                refine (win_due g s F a.now _ HW.out (by omega) (by omega)).mono ?_
                rintro e w4 ⟨v4, rfl, _, hW4, hm4⟩
                have HW4 := Lib.hid hW4; have HM4 := Lib.hid hm4; clear hW4 hm4
                go_wp2_with fail
                go_meet
                exact ⟨dueW a.now s, F, HW4.out, by show max s.now a.now ≤ _; omega, by show s.last ≤ _; omega, HF.out, HH.out.thenMod HM4.out HF.out⟩
              · -- kind else
                have e0 : (a.kind == 0) = false := beq_eq_false_iff_ne.2 (by omega)
                have e1 : (a.kind == 1) = false := beq_eq_false_iff_ne.2 (by omega)
                have e2 : (a.kind == 2) = false := beq_eq_false_iff_ne.2 (by omega)
                have e3 : (a.kind == 3) = false := beq_eq_false_iff_ne.2 (by omega)
                have e4 : (a.kind == 4) = false := beq_eq_false_iff_ne.2 (by omega)
                have Hk := Lib.hid hk; clear hk
                go_wp2_with fail
                go_meet
                exact ⟨s, F, HW.out, by omega, by omega, HF.out, HH.out⟩
              -- END OF WAYS
            case rest =>
              obtain ⟨s1, F1, hW1, hnow1, hlast1, hF1, hn1⟩ := hcut
              have HW1 := Lib.hid hW1; have HF1 := Lib.hid hF1; have HH1 := Lib.hid hn1
              clear hW1 hF1 hn1 c0 c1 c2 c3
              have hmx0 : 0 ≤ max nw a.now := by omega
              have hmx1 : max nw a.now ≤ 1048576 + 60 * i := by omega
              generalize hnv : max nw a.now = nv at *
              have Hnv := Lib.hid hnv; clear hnv
              by_cases hnil : s1.l = []
              · have hw := when_nil hnil
                have hl0 : (((s1.l.length : Nat) : Int)) = 0 := by rw [hnil]; rfl
                have Hnil := Lib.hid hnil; clear hnil
                go_wp2_with fail
                refine (win_when g s1 F1 _ HW1.out).mono ?_
                rw [hw]
                rintro e w5 ⟨rfl, hq⟩
                have Hq := Lib.hid (drew_new hq); clear hq hw
                go_wp2_with fail
                refine (wopen_nat g s1 F1 _ (HW1.out.new_ Hq.out)).mono ?_
                rw [hl0]
                rintro e wA ⟨rfl, rfl⟩
                clear hl0
                go_wp2
                all_goals
                  go_roundw
                  case rel => exact ⟨i + 1, s1, nv, F1, by omega, by go_num, rfl, by omega, by omega, HW1.out.new_ Hq.out, by omega, by omega, HF1.out, HH1.out.trans Hq.out⟩
                  case measure => simp [intOf]; omega
              · obtain ⟨t, hw, hle, hx⟩ := when_some hnil
                have hpos : 0 < s1.l.length := List.length_pos_iff.2 hnil
                obtain ⟨htop0, htop1⟩ := when_top HW1.out.ok hx
                have hn0 := HW1.out.ok.now0
                have Hle := Lib.hid hle; have Hx := Lib.hid hx; have Hnil := Lib.hid hnil
                clear hnil hle hx
                by_cases h4 : (i : Int) % 4 = 3
                · have h4b : ((i : Int) % 4 != 3) = false := by rw [h4]; rfl
                  have H4 := Lib.hid h4; clear h4
                  by_cases hat : nv < t
                  · have hah := when_ahead Hle.out (by omega : s1.now < t)
                    have Hah := Lib.hid hah; clear hah
                    have hmxt : max t nv = t := by omega
                    have hmxt2 : max nv t = t := by omega
                    have hthen := when_then (s := s1) (s' := dueW (t - 1) s1) (m := t) (by rw [Hah.out.2]) Hx.out (Int.le_refl _)
                    have hlen2 : (((((outW t (dueW (t - 1) s1)).length : Nat) : Int)) == 0) = false := by
                      have := List.length_pos_iff.2 hthen
                      exact beq_eq_false_iff_ne.2 (by omega)
                    clear hthen
                    go_wp2_with fail
                    refine (win_when g s1 F1 _ HW1.out).mono ?_
                    rw [hw]
                    rintro e w5 ⟨rfl, hq⟩
                    have Hq := Lib.hid (drew_new hq); clear hq hw
                    go_wp2_with fail
                    refine (wopen_nat g s1 F1 _ (HW1.out.new_ Hq.out)).mono ?_
                    rintro e wA ⟨rfl, rfl⟩
                    go_wp2_with fail
                    refine (win_due g s1 F1 (t - 1) _ (HW1.out.new_ Hq.out) (by omega) (by omega)).mono ?_
                    rw [Hah.out.1]
                    rintro e w6 ⟨v6, rfl, hp6, hW6, hm6⟩
                    obtain ⟨A6, c6, rfl, _, _, _⟩ := hp6.get
                    have HW6 := Lib.hid hW6
                    have HH6 := Lib.hid ((HH1.out.trans Hq.out).thenMod hm6 HF1.out)
                    clear hp6 hW6 hm6
                    go_wp2_with fail
                    refine (win_due g _ F1 t _ HW6.out (by omega) (by omega)).mono ?_
                    rintro e w7 ⟨v7, rfl, hp7, hW7, hm7⟩
                    obtain ⟨A7, c7, rfl, _, _, _⟩ := hp7.get
                    have HW7 := Lib.hid hW7
                    have HH7 := Lib.hid (HH6.out.thenMod hm7 HF1.out)
                    clear hp7 hW7 hm7
                    go_wp2
                    go_roundw
                    case rel => exact ⟨i + 1, _, t, F1, by omega, by go_num, rfl, by omega, by omega, HW7.out, by rw [Hah.out.2]; show max (t - 1) t ≤ t; omega, by show s1.last ≤ _; omega, HF1.out, HH7.out⟩
                    case measure => simp [intOf]; omega
                  · have hmxt : max t nv = nv := by omega
                    have hmxt2 : max nv t = nv := by omega
                    have hthen := when_then (s := s1) (s' := s1) (m := nv) rfl Hx.out (by omega)
                    have hlen2 : (((((outW nv s1).length : Nat) : Int)) == 0) = false := by
                      have := List.length_pos_iff.2 hthen
                      exact beq_eq_false_iff_ne.2 (by omega)
                    clear hthen
                    go_wp2_with fail
                    refine (win_when g s1 F1 _ HW1.out).mono ?_
                    rw [hw]
                    rintro e w5 ⟨rfl, hq⟩
                    have Hq := Lib.hid (drew_new hq); clear hq hw
                    go_wp2_with fail
                    refine (wopen_nat g s1 F1 _ (HW1.out.new_ Hq.out)).mono ?_
                    rintro e wA ⟨rfl, rfl⟩
                    go_wp2_with fail
                    refine (win_due g s1 F1 nv _ (HW1.out.new_ Hq.out) (by omega) (by omega)).mono ?_
                    rintro e w7 ⟨v7, rfl, hp7, hW7, hm7⟩
                    obtain ⟨A7, c7, rfl, _, _, _⟩ := hp7.get
                    have HW7 := Lib.hid hW7
                    have HH7 := Lib.hid ((HH1.out.trans Hq.out).thenMod hm7 HF1.out)
                    clear hp7 hW7 hm7
                    go_wp2
                    go_roundw
                    case rel => exact ⟨i + 1, _, nv, F1, by omega, by go_num, rfl, by omega, by omega, HW7.out, by show max s1.now nv ≤ nv; omega, by show s1.last ≤ _; omega, HF1.out, HH7.out⟩
                    case measure => simp [intOf]; omega
                · have h4b : ((i : Int) % 4 != 3) = true := by rw [bne_iff_ne]; exact h4
                  have H4 := Lib.hid h4; clear h4
                  go_wp2_with fail
                  refine (win_when g s1 F1 _ HW1.out).mono ?_
                  rw [hw]
                  rintro e w5 ⟨rfl, hq⟩
                  have Hq := Lib.hid (drew_new hq); clear hq hw
                  go_wp2_with fail
                  refine (wopen_nat g s1 F1 _ (HW1.out.new_ Hq.out)).mono ?_
                  rintro e wA ⟨rfl, rfl⟩
                  go_wp2
                  go_roundw
                  case rel => exact ⟨i + 1, s1, nv, F1, by omega, by go_num, rfl, by omega, by omega, HW1.out.new_ Hq.out, by omega, by omega, HF1.out, HH1.out.trans Hq.out⟩
                  case measure => simp [intOf]; omega
          · have Hw2 := HH
            by_cases hneg : a.now < 0
            · clear hout
              go_wp2
              go_ret
              exact ⟨rfl, HH.out⟩
            · have hbig : 1048576 < a.now := by omega
              clear hout
              go_wp2
              go_ret
              exact ⟨rfl, HH.out⟩
        · have Hn2 := Lib.hid hn
          clear hW hF hn
          go_wp2
          go_ret
          exact ⟨rfl, Hn2.out⟩
  · have hbad : size < 1 ∨ 64 < size := by omega
    clear hsz
    cases hL : longA acts with
    | true =>
      have HL := Lib.hid hL; clear hL
      go_enter Try.func20, Try.ntmps20
      go_wp2_with fail
      refine (awake13 _).mono ?_
      rintro e w1 ⟨rfl, hn1⟩
      go_wp2_with fail
      refine (wnew_bad size _ hbad).mono ?_
      rintro e w2 ⟨rfl, rfl⟩
      go_wp2_with fail
      refine (long_any _ acts _ (Hr.out.new_ hn1) (fun a ha => (Hb.out a ha).1)).mono ?_
      rw [HL.out]
      rintro e w3 ⟨rfl, rfl⟩
      go_wp2
      go_ret
      exact ⟨rfl, hn1⟩
    | false =>
      have HL := Lib.hid hL; clear hL
      go_enter Try.func20, Try.ntmps20
      go_wp2_with fail
      refine (awake13 _).mono ?_
      rintro e w1 ⟨rfl, hn1⟩
      go_wp2_with fail
      refine (wnew_bad size _ hbad).mono ?_
      rintro e w2 ⟨rfl, rfl⟩
      go_wp2_with fail
      refine (long_any _ acts _ (Hr.out.new_ hn1) (fun a ha => (Hb.out a ha).1)).mono ?_
      rw [HL.out]
      rintro e w3 ⟨rfl, rfl⟩
      go_wp2
      go_ret
      exact ⟨rfl, hn1⟩
end Go.Proofs.Ytkfcdfcoiglieaa
