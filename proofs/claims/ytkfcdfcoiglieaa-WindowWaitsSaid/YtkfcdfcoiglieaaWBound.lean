/- WindowBound, walked. Conditions: the sizes that a row lets in. -/
import Derived.Test.YtkfcdfcoiglieaaWLaw
import Derived.Test.YtkfcdfcoiglieaaQHead
namespace Go.Proofs.Ytkfcdfcoiglieaa
open Go.RowKit

/-- The packets are numbered one by one from acked on. -/
structure Num (s : Wn) (acked : Int) : Prop where
  a0 : 0 ≤ acked
  last : s.last = acked + s.l.length
  seq : ∀ (i : Nat) (k : Pk), s.l[i]? = some k → k.seq = acked + 1 + i
theorem num_new (n : Int) : Num (newWn n) 0 := ⟨by decide, rfl, fun i k h => by simp [newWn] at h⟩
theorem num_push {s : Wn} {acked : Int} {b : List UInt8} (h : Num s acked) : Num (pushW s b) acked := by
  refine ⟨h.a0, ?_, fun i k hk => ?_⟩
  · show s.last + 1 = acked + ((s.l ++ [_]).length : Nat); rw [h.last]; simp; omega
  · have hk' : (s.l ++ [⟨s.last + 1, b, 0, 0, 0⟩])[i]? = some k := hk
    rcases Nat.lt_or_ge i s.l.length with hi | hi
    · rw [List.getElem?_append_left hi] at hk'; exact h.seq i k hk'
    · rw [List.getElem?_append_right hi] at hk'
      have h0 : i - s.l.length = 0 := by have := (List.getElem?_eq_some_iff.1 hk').1; simp at this; omega
      rw [h0] at hk'
      have : k = ⟨s.last + 1, b, 0, 0, 0⟩ := by simpa using hk'.symm
      subst this
      show s.last + 1 = _
      rw [h.last]; omega
theorem ackL_count (n : Int) : ∀ (x : List Pk) (s : Wn) (acked : Int), (∀ (i : Nat) (k : Pk), x[i]? = some k → k.seq = acked + 1 + i) → n ≤ acked + x.length → ((ackL n s x).2 : Int) = max (n - acked) 0
  | [], s, acked, _, h => by simp [ackL] at h ⊢; omega
  | p :: r, s, acked, hs, h => by
    have hp := hs 0 p rfl
    unfold ackL
    split
    · rename_i hq
      have := ackL_count n r (tickW s p) (acked + 1) (fun i k hk => by have := hs (i + 1) k (by simpa using hk); rw [this]; omega) (by simp only [List.length_cons] at h; omega)
      show (((ackL n (tickW s p) r).2 + 1 : Nat) : Int) = _
      omega
    · rename_i hq
      show ((0 : Nat) : Int) = _
      omega
theorem num_ack {s : Wn} {acked n now : Int} (h : Num s acked) (hn : n ≤ s.last) : ((ackW n now s).2 : Int) = max (n - acked) 0 ∧ Num (ackW n now s).1 (acked + max (n - acked) 0) := by
  have hc : ((ackW n now s).2 : Int) = max (n - acked) 0 := ackL_count n s.l (nowW s now) acked h.seq (by rw [← h.last]; exact hn)
  obtain ⟨_, h2, _, h4, h5⟩ := ackL_same n s.l (nowW s now)
  refine ⟨hc, by have := h.a0; omega, ?_, fun i k hk => ?_⟩
  · have e : (ackW n now s).1.l.length = s.l.length - (ackW n now s).2 := by
      show (ackL n (nowW s now) s.l).1.l.length = _
      rw [h4, List.length_drop]; rfl
    have h5' : (ackW n now s).2 ≤ s.l.length := h5
    have e2 : (ackW n now s).1.last = s.last := h2
    rw [e2, h.last, e]; omega
  · have hk' : (s.l.drop (ackW n now s).2)[i]? = some k := by
      have := hk
      rw [show (ackW n now s).1.l = s.l.drop (ackW n now s).2 from h4] at this
      exact this
    rw [List.getElem?_drop] at hk'
    have := h.seq _ k hk'
    rw [this]; omega
theorem dueP_seq (s : Wn) (k : Pk) : (dueP s k).seq = k.seq := by unfold dueP; split <;> rfl
theorem num_due {s : Wn} {acked now : Int} (h : Num s acked) : Num (dueW now s) acked := by
  refine ⟨h.a0, ?_, fun i k hk => ?_⟩
  · show s.last = acked + ((s.l.map _).length : Nat); rw [List.length_map]; exact h.last
  · have hk' : (s.l.map (dueP (nowW s now)))[i]? = some k := hk
    rw [List.getElem?_map] at hk'
    obtain ⟨k0, hk0, rfl⟩ := Option.map_eq_some_iff.1 hk'
    rw [dueP_seq]; exact h.seq i k0 hk0
theorem ackW_size (s : Wn) (n now : Int) : (ackW n now s).1.size = s.size := (ackL_same n s.l (nowW s now)).1
theorem ackW_last (s : Wn) (n now : Int) : (ackW n now s).1.last = s.last := (ackL_same n s.l (nowW s now)).2.1

theorem wlast_nat (g : Nat) (s : Wn) (F : Nat → Prop) (w : World) (h : Win w F g s) : Calls Try.prog 70 #[ptr g] w fun e w' => e = .returned (.int .i64 s.last) ∧ w = w' := wlast_any g s F w h.rep h.ok.s1
set_option maxRecDepth 100000 in
set_option maxHeartbeats 1600000 in
theorem bound13 (size : Int) (v : Value) (acts : List AcT) (w : World) (hr : RA w v acts) (hb : ∀ a ∈ acts, a.b.length ≤ 140737488351232 ∧ I64 a.kind ∧ I64 a.n ∧ I64 a.now) :
    Calls Try.prog 19 #[.int .i64 size, v] w fun e w' => e = .returned (.bool true) ∧ New w w' := by
  obtain ⟨A, c, rfl, hc1, hc2, hx⟩ := hr
  have Hr : Hid (RA w (.slice A acts.length c) acts) := ⟨A, c, rfl, hc1, hc2, hx⟩
  have pe := beq_ptr
  have Hb := Lib.hid hb; clear hb hx
  by_cases hsz : 1 ≤ size ∧ size ≤ 64
  · obtain ⟨hs1, hs2⟩ := hsz
    cases hL : longA acts with
    | true =>
      have HL := Lib.hid hL; clear hL
      go_enter Try.func19, Try.ntmps19
      go_wp2_with fail
      refine (awake13 _).mono ?_
      rintro e w1 ⟨rfl, hn1⟩
      go_wp2_with fail
      refine (win_new size _ hs1 hs2).mono ?_
      rintro e w2 ⟨rfl, _, hn2⟩
      have hn12 := hn1.trans hn2
      go_wp2_with fail
      refine (long_any _ acts _ (Hr.out.new_ hn12) (fun a ha => (Hb.out a ha).1)).mono ?_
      rw [HL.out]
      rintro e w3 ⟨rfl, rfl⟩
      go_wp2
      go_ret
      exact ⟨rfl, hn12⟩
    | false =>
      obtain ⟨hlen, hbl⟩ := longA_not hL
      have Hbl := Lib.hid hbl
      have HL := Lib.hid hL; clear hL hbl
      go_enter Try.func19, Try.ntmps19
      go_wp2_with fail
      refine (awake13 _).mono ?_
      rintro e w1 ⟨rfl, hn1⟩
      go_wp2_with fail
      refine (win_new size _ hs1 hs2).mono ?_
      rintro e w2 ⟨rfl, hW2, hn2⟩
      have HW2 := Lib.hid hW2; clear hW2
      have hn12 := hn1.trans hn2
      go_wp2_with fail
      refine (long_any _ acts _ (Hr.out.new_ hn12) (fun a ha => (Hb.out a ha).1)).mono ?_
      rw [HL.out]
      rintro e w3 ⟨rfl, rfl⟩
      have Hn := Lib.hid hn12
      have hsz1 : w.heap.size ≤ w1.heap.size := New.size hn1
      clear hn1 hn2 hn12
      go_wp2_with fail
      generalize hg : w1.heap.size = g at *
      have Hg := Lib.hid hg; clear hg
      go_loopw [8, 9, 10] (fun u8 u9 u10 wr => ∃ (i : Nat) (s : Wn) (acked : Int) (F : Nat → Prop), i ≤ acts.length ∧ u10 = .int .i64 i ∧ u8 = .int .i64 s.last ∧ u9 = .int .i64 acked ∧ Win wr F g s ∧ Num s acked ∧ s.size = size ∧ s.last ≤ i ∧ (∀ k, F k → w.heap.size ≤ k) ∧ New w wr) (fun _ _ u10 _ => acts.length - (intOf u10).toNat)
      case atStart => exact ⟨0, newWn size, 0, _, Nat.zero_le _, rfl, rfl, rfl, HW2.out, num_new size, rfl, (by decide : (0 : Int) ≤ 0), fun k hk => by rw [hk]; exact hsz1, Hn.out⟩
      case round =>
        obtain ⟨i, s, acked, F, hi, rfl, rfl, rfl, hW, hN, hss, hsl, hF, hn⟩ := hrel
        by_cases hlt : i < acts.length
        · obtain ⟨A', c', e, _, _, hx⟩ := Hr.out
          injection e with e1 e2 e3
          subst e1; subst e3
          clear e2
          obtain ⟨b, o, rfl, hx2⟩ := hx (by omega)
          obtain ⟨u, d0, d1, d2, d3, hu⟩ := hx2 i acts[i] (List.getElem?_eq_getElem hlt)
          obtain ⟨hu1, hu2, hu3, hu4⟩ := Hb.out acts[i] (List.getElem_mem hlt)
          have hub := Hbl.out acts[i] (List.getElem_mem hlt)
          generalize acts[i] = a at *
          obtain ⟨A2, c22, rfl, _, _⟩ := hu.shape
          have D1 := Lib.hid d1
          have c0 := hn.cell d0; have c1 := hn.cell d1; have c2 := hn.cell d2; have c3 := hn.cell d3
          replace hu := hu.new_ hn
          clear d0 d1 d2 d3
          have iI0 : (0 : Int) ≤ (i : Int) := by omega
          have iI1 : (i : Int) < (acts.length : Int) := by omega
          have Hu := Lib.hid hu; have HW := Lib.hid hW; have HN := Lib.hid hN; have HF := Lib.hid hF; have HH := Lib.hid hn; have Hss := Lib.hid hss
          clear hx hx2 hu hW hN hF hn hss
          have hkind : a.kind = 0 ∨ a.kind = 1 ∨ a.kind = 2 ∨ a.kind = 3 ∨ a.kind = 4 ∨ (a.kind ≠ 0 ∧ a.kind ≠ 1 ∧ a.kind ≠ 2 ∧ a.kind ≠ 3 ∧ a.kind ≠ 4) := by omega
          rcases hkind with hk | hk | hk | hk | hk | hk
          -- WAYS
          · -- kind 0
            have e0 : (a.kind == 0) = true := by rw [hk]; rfl
            have Hk := Lib.hid hk; clear hk
            have hal : acked ≤ s.last := by have h1 := HN.out.last; omega
            by_cases hf : s.l.length < s.size
            · have hlt1 : s.last - acked < size := by have h1 := HN.out.last; have h2 := Hss.out; omega
              have ha0 := HN.out.a0
              have hl0 := HW.out.ok.last0
              have Hf := Lib.hid hf; clear hf
              go_wp2_with fail
              refine (win_push g s F _ a.b _ HW.out Hf.out (by omega) Hu.out (by omega)).mono ?_
              rintro e w4 ⟨rfl, hW4, hm4⟩
              have HW1 := Lib.hid hW4
              have HN1 := Lib.hid (num_push (b := a.b) HN.out)
              have Hss1 : Hid ((pushW s a.b).size = size) := Hss.out
              have Hl1 : Hid ((pushW s a.b).last = s.last + 1) := rfl
              have Hk1 : Hid (acked = acked) := rfl
              have HF1 : Hid (∀ k, Grown wr w4 F k → w.heap.size ≤ k) := fun k hk => by rcases hk.1 with h | h; exact HF.out k h; have := New.size HH.out; omega
              have Hn1 : Hid (New w w4) := HH.out.thenMod hm4 HF.out
              have hmx : max s.last (s.last + 1) = s.last + 1 := by omega
              clear hW4 hm4
              have t1 : ((((pushW s a.b).l.length : Nat) : Int) != (s.last + 1) - acked) = false := by have h1 := HN1.out.last; have h2 := Hl1.out; simp; omega
              have t2 : ((pushW s a.b).last != (s.last + 1)) = false := by have h2 := Hl1.out; simp; omega
              have t3 : (((pushW s a.b).l.length : Nat) : Int) ≤ size := by have h1 := HW1.out.ok.len; rw [Hss1.out] at h1; exact h1
              go_wp2_with fail
              refine (wopen_nat g (pushW s a.b) (Grown wr w4 F) _ HW1.out).mono ?_
              rintro e wA ⟨rfl, rfl⟩
              go_wp2_with fail
              refine (wlast_nat g (pushW s a.b) (Grown wr w4 F) _ HW1.out).mono ?_
              rintro e wA ⟨rfl, rfl⟩
              go_wp2_with fail
              refine (wopen_nat g (pushW s a.b) (Grown wr w4 F) _ HW1.out).mono ?_
              rintro e wA ⟨rfl, rfl⟩
              go_wp2
              go_roundw
              case rel => exact ⟨i + 1, (pushW s a.b), acked, (Grown wr w4 F), by omega, by go_num, by rw [Hl1.out], by first | rfl | rw [Hk1.out], HW1.out, HN1.out, Hss1.out, by have := Hl1.out; omega, HF1.out, Hn1.out⟩
              case measure => simp [intOf]; omega
            · have hlt1 : size ≤ s.last - acked := by have h1 := HN.out.last; have h2 := Hss.out; omega
              have ha0 := HN.out.a0
              have hl0 := HW.out.ok.last0
              have Hf := Lib.hid hf; clear hf
              go_wp2_with fail
              refine (win_full g s F _ _ HW.out (by have := Hf.out; omega)).mono ?_
              rintro e w4 ⟨rfl, hn4⟩
              have HW1 := Lib.hid (HW.out.new_ hn4)
              have HN1 := Lib.hid HN.out
              have Hss1 := Lib.hid Hss.out
              have Hl1 : Hid (s.last = s.last) := rfl
              have Hk1 : Hid (acked = acked) := rfl
              have HF1 := Lib.hid HF.out
              have Hn1 : Hid (New w w4) := HH.out.trans hn4
              have hmx : max s.last 0 = s.last := by omega
              clear hn4
              have t1 : ((((s).l.length : Nat) : Int) != s.last - acked) = false := by have h1 := HN1.out.last; simp; omega
              have t2 : ((s).last != s.last) = false := by simp
              have t3 : (((s).l.length : Nat) : Int) ≤ size := by have h1 := HW1.out.ok.len; rw [Hss1.out] at h1; exact h1
              go_wp2_with fail
              refine (wopen_nat g s F _ HW1.out).mono ?_
              rintro e wA ⟨rfl, rfl⟩
              go_wp2_with fail
              refine (wlast_nat g s F _ HW1.out).mono ?_
              rintro e wA ⟨rfl, rfl⟩
              go_wp2_with fail
              refine (wopen_nat g s F _ HW1.out).mono ?_
              rintro e wA ⟨rfl, rfl⟩
              go_wp2
              go_roundw
              case rel => exact ⟨i + 1, s, acked, F, by omega, by go_num, by rfl, by first | rfl | rw [Hk1.out], HW1.out, HN1.out, Hss1.out, by omega, HF1.out, Hn1.out⟩
              case measure => simp [intOf]; omega
          · -- kind 1
            have e0 : (a.kind == 0) = false := by rw [hk]; rfl
            have e1 : (a.kind == 1) = true := by rw [hk]; rfl
            have Hk := Lib.hid hk; clear hk
            have hal : acked ≤ s.last := by have h1 := HN.out.last; omega
            by_cases hf : s.l.length < s.size
            · have hlt1 : s.last - acked < size := by have h1 := HN.out.last; have h2 := Hss.out; omega
              have ha0 := HN.out.a0
              have hl0 := HW.out.ok.last0
              have Hf := Lib.hid hf; clear hf
              go_wp2_with fail
              refine (win_push g s F _ a.b _ HW.out Hf.out (by omega) Hu.out (by omega)).mono ?_
              rintro e w4 ⟨rfl, hW4, hm4⟩
              have HW1 := Lib.hid hW4
              have HN1 := Lib.hid (num_push (b := a.b) HN.out)
              have Hss1 : Hid ((pushW s a.b).size = size) := Hss.out
              have Hl1 : Hid ((pushW s a.b).last = s.last + 1) := rfl
              have Hk1 : Hid (acked = acked) := rfl
              have HF1 : Hid (∀ k, Grown wr w4 F k → w.heap.size ≤ k) := fun k hk => by rcases hk.1 with h | h; exact HF.out k h; have := New.size HH.out; omega
              have Hn1 : Hid (New w w4) := HH.out.thenMod hm4 HF.out
              have hmx : max s.last (s.last + 1) = s.last + 1 := by omega
              clear hW4 hm4
              have t1 : ((((pushW s a.b).l.length : Nat) : Int) != (s.last + 1) - acked) = false := by have h1 := HN1.out.last; have h2 := Hl1.out; simp; omega
              have t2 : ((pushW s a.b).last != (s.last + 1)) = false := by have h2 := Hl1.out; simp; omega
              have t3 : (((pushW s a.b).l.length : Nat) : Int) ≤ size := by have h1 := HW1.out.ok.len; rw [Hss1.out] at h1; exact h1
              go_wp2_with fail
              refine (wopen_nat g (pushW s a.b) (Grown wr w4 F) _ HW1.out).mono ?_
              rintro e wA ⟨rfl, rfl⟩
              go_wp2_with fail
              refine (wlast_nat g (pushW s a.b) (Grown wr w4 F) _ HW1.out).mono ?_
              rintro e wA ⟨rfl, rfl⟩
              go_wp2_with fail
              refine (wopen_nat g (pushW s a.b) (Grown wr w4 F) _ HW1.out).mono ?_
              rintro e wA ⟨rfl, rfl⟩
              go_wp2
              go_roundw
              case rel => exact ⟨i + 1, (pushW s a.b), acked, (Grown wr w4 F), by omega, by go_num, by rw [Hl1.out], by first | rfl | rw [Hk1.out], HW1.out, HN1.out, Hss1.out, by have := Hl1.out; omega, HF1.out, Hn1.out⟩
              case measure => simp [intOf]; omega
            · have hlt1 : size ≤ s.last - acked := by have h1 := HN.out.last; have h2 := Hss.out; omega
              have ha0 := HN.out.a0
              have hl0 := HW.out.ok.last0
              have Hf := Lib.hid hf; clear hf
              go_wp2_with fail
              refine (win_full g s F _ _ HW.out (by have := Hf.out; omega)).mono ?_
              rintro e w4 ⟨rfl, hn4⟩
              have HW1 := Lib.hid (HW.out.new_ hn4)
              have HN1 := Lib.hid HN.out
              have Hss1 := Lib.hid Hss.out
              have Hl1 : Hid (s.last = s.last) := rfl
              have Hk1 : Hid (acked = acked) := rfl
              have HF1 := Lib.hid HF.out
              have Hn1 : Hid (New w w4) := HH.out.trans hn4
              have hmx : max s.last 0 = s.last := by omega
              clear hn4
              have t1 : ((((s).l.length : Nat) : Int) != s.last - acked) = false := by have h1 := HN1.out.last; simp; omega
              have t2 : ((s).last != s.last) = false := by simp
              have t3 : (((s).l.length : Nat) : Int) ≤ size := by have h1 := HW1.out.ok.len; rw [Hss1.out] at h1; exact h1
              go_wp2_with fail
              refine (wopen_nat g s F _ HW1.out).mono ?_
              rintro e wA ⟨rfl, rfl⟩
              go_wp2_with fail
              refine (wlast_nat g s F _ HW1.out).mono ?_
              rintro e wA ⟨rfl, rfl⟩
              go_wp2_with fail
              refine (wopen_nat g s F _ HW1.out).mono ?_
              rintro e wA ⟨rfl, rfl⟩
              go_wp2
              go_roundw
              case rel => exact ⟨i + 1, s, acked, F, by omega, by go_num, by rfl, by first | rfl | rw [Hk1.out], HW1.out, HN1.out, Hss1.out, by omega, HF1.out, Hn1.out⟩
              case measure => simp [intOf]; omega
          · -- kind 2
            have e0 : (a.kind == 0) = false := by rw [hk]; rfl
            have e1 : (a.kind == 1) = false := by rw [hk]; rfl
            have e2 : (a.kind == 2) = true := by rw [hk]; rfl
            have Hk := Lib.hid hk; clear hk
            have ha0 := HN.out.a0
            have hl0 := HW.out.ok.last0
            have hal : acked ≤ s.last := by have h1 := HN.out.last; omega
            have hna : IntKind.i64.wrap (a.n - acked) = a.n - acked ∨ ackBad s a.n a.now := by
              by_cases h : a.n < 0
              · right; exact .inl h
              · left; unfold I64 at hu3; exact IntWalk.i64_in _ (by omega)
            by_cases hbd : ackBad s a.n a.now
            · have Hbd := Lib.hid hbd; clear hbd hna
              go_wp2_with fail
              refine wp_region_quiet_call 11 5 _ (by kernel_rfl) rfl rfl rfl (by kernel_rfl) ?_
              simp only [List.take_succ_cons, List.take_zero, List.drop_succ_cons, List.drop_zero]
              repeat (go_big_quiet_step (fail))
              refine wpQuiet_nil ?_
              intro wq hwq K hK
              have Hq : Hid (New wr wq) := drew_new hwq
              clear hwq c0 c1 c2 c3
              go_simp
              refine (win_ack_bad g s F _ _ _ (HW.out.new_ Hq.out) Hbd.out).mono ?_
              rintro e w4 ⟨rfl, rfl⟩
              refine hK _ _ ?_
              clear hK K
              repeat (go_big_quiet_step (fail))
              refine wpQuiet_nil ?_
              intro wx hwx
              have Hq2 := Lib.hid (drew_new hwx)
              clear hwx
              have Hq3 : Hid (New wr wx) := Hq.out.trans Hq2.out
              have HW1 := Lib.hid (HW.out.new_ Hq3.out)
              have HN1 := Lib.hid HN.out
              have Hss1 := Lib.hid Hss.out
              have Hl1 : Hid (s.last = s.last) := rfl
              have Hk1 : Hid (acked + 0 = acked) := Int.add_zero _
              have HF1 := Lib.hid HF.out
              have Hn1 := Lib.hid (HH.out.trans Hq3.out)
              have d1 := Hn1.out.cell D1.out
              have t1 : ((((s).l.length : Nat) : Int) != s.last - acked) = false := by have h1 := HN1.out.last; simp; omega
              have t2 : ((s).last != s.last) = false := by simp
              have t3 : (((s).l.length : Nat) : Int) ≤ size := by have h1 := HW1.out.ok.len; rw [Hss1.out] at h1; exact h1
              go_wp2_with fail
              refine (wopen_nat g s F _ HW1.out).mono ?_
              rintro e wA ⟨rfl, rfl⟩
              go_wp2_with fail
              refine (wlast_nat g s F _ HW1.out).mono ?_
              rintro e wA ⟨rfl, rfl⟩
              go_wp2_with fail
              refine (wopen_nat g s F _ HW1.out).mono ?_
              rintro e wA ⟨rfl, rfl⟩
              go_wp2
              go_roundw
              case rel => exact ⟨i + 1, s, acked, F, by omega, by go_num, by rfl, by first | rfl | rw [Hk1.out], HW1.out, HN1.out, Hss1.out, by omega, HF1.out, Hn1.out⟩
              case measure => simp [intOf]; omega
            · have hnb : 0 ≤ a.n ∧ a.n ≤ s.last ∧ 0 ≤ a.now ∧ a.now ≤ 2147483647 := by unfold ackBad at hbd; omega
              obtain ⟨n0, n1, n2, n3⟩ := hnb
              have hwr := hna.resolve_right hbd
              clear hna hbd
              have hnum := num_ack (now := a.now) HN.out n1
              have Hnum := Lib.hid hnum; clear hnum
              go_wp2_with fail
              refine wp_region_quiet_call 11 5 _ (by kernel_rfl) rfl rfl rfl (by kernel_rfl) ?_
              simp only [List.take_succ_cons, List.take_zero, List.drop_succ_cons, List.drop_zero]
              repeat (go_big_quiet_step (fail))
              refine wpQuiet_nil ?_
              intro wq hwq K hK
              have Hq : Hid (New wr wq) := drew_new hwq
              clear hwq c0 c1 c2 c3
              go_simp
              refine (win_ack g s F a.n a.now _ (HW.out.new_ Hq.out) n0 n1 n2 n3).mono ?_
              rw [Hnum.out.1]
              rintro e w4 ⟨rfl, hW4, hm4⟩
              have Hn4 : Hid (New w w4) := (HH.out.trans Hq.out).thenMod hm4 HF.out
              have HW4 := Lib.hid hW4; clear hW4 hm4
              refine hK _ _ ?_
              clear hK K
              repeat (go_big_quiet_step (fail))
              refine wpQuiet_nil ?_
              intro wx hwx
              have Hq2 := Lib.hid (drew_new hwx)
              clear hwx
              have HW1 := Lib.hid (HW4.out.new_ Hq2.out)
              have HN1 := Lib.hid Hnum.out.2
              have Hss1 : Hid ((ackW a.n a.now s).1.size = size) := (ackW_size s a.n a.now).trans Hss.out
              have Hl1 : Hid ((ackW a.n a.now s).1.last = s.last) := ackW_last s a.n a.now
              have Hk1 : Hid (acked + max (a.n - acked) 0 = acked + max (a.n - acked) 0) := rfl
              have HF1 := Lib.hid HF.out
              have Hn1 : Hid (New w wx) := Hn4.out.trans Hq2.out
              have d1 := Hn1.out.cell D1.out
              have t1 : (((((ackW a.n a.now s).1).l.length : Nat) : Int) != s.last - (acked + max (a.n - acked) 0)) = false := by have h1 := HN1.out.last; have h2 := Hl1.out; simp; omega
              have t2 : (((ackW a.n a.now s).1).last != s.last) = false := by have h2 := Hl1.out; simp; omega
              have t3 : ((((ackW a.n a.now s).1).l.length : Nat) : Int) ≤ size := by have h1 := HW1.out.ok.len; rw [Hss1.out] at h1; exact h1
              go_wp2_with fail
              refine (wopen_nat g (ackW a.n a.now s).1 F _ HW1.out).mono ?_
              rintro e wA ⟨rfl, rfl⟩
              go_wp2_with fail
              refine (wlast_nat g (ackW a.n a.now s).1 F _ HW1.out).mono ?_
              rintro e wA ⟨rfl, rfl⟩
              go_wp2_with fail
              refine (wopen_nat g (ackW a.n a.now s).1 F _ HW1.out).mono ?_
              rintro e wA ⟨rfl, rfl⟩
              go_wp2
              go_roundw
              case rel => exact ⟨i + 1, (ackW a.n a.now s).1, (acked + max (a.n - acked) 0), F, by omega, by go_num, by rw [Hl1.out], by first | rfl | rw [Hk1.out], HW1.out, HN1.out, Hss1.out, by have := Hl1.out; omega, HF1.out, Hn1.out⟩
              case measure => simp [intOf]; omega
          · -- kind 3
            have e0 : (a.kind == 0) = false := by rw [hk]; rfl
            have e1 : (a.kind == 1) = false := by rw [hk]; rfl
            have e2 : (a.kind == 2) = false := by rw [hk]; rfl
            have e3 : (a.kind == 3) = true := by rw [hk]; rfl
            have Hk := Lib.hid hk; clear hk
            have ha0 := HN.out.a0
            have hl0 := HW.out.ok.last0
            have hal : acked ≤ s.last := by have h1 := HN.out.last; omega
            have hna : IntKind.i64.wrap (a.n - acked) = a.n - acked ∨ ackBad s a.n a.now := by
              by_cases h : a.n < 0
              · right; exact .inl h
              · left; unfold I64 at hu3; exact IntWalk.i64_in _ (by omega)
            by_cases hbd : ackBad s a.n a.now
            · have Hbd := Lib.hid hbd; clear hbd hna
              go_wp2_with fail
              refine wp_region_quiet_call 11 5 _ (by kernel_rfl) rfl rfl rfl (by kernel_rfl) ?_
              simp only [List.take_succ_cons, List.take_zero, List.drop_succ_cons, List.drop_zero]
              repeat (go_big_quiet_step (fail))
              refine wpQuiet_nil ?_
              intro wq hwq K hK
              have Hq : Hid (New wr wq) := drew_new hwq
              clear hwq c0 c1 c2 c3
              go_simp
              refine (win_ack_bad g s F _ _ _ (HW.out.new_ Hq.out) Hbd.out).mono ?_
              rintro e w4 ⟨rfl, rfl⟩
              refine hK _ _ ?_
              clear hK K
              repeat (go_big_quiet_step (fail))
              refine wpQuiet_nil ?_
              intro wx hwx
              have Hq2 := Lib.hid (drew_new hwx)
              clear hwx
              have Hq3 : Hid (New wr wx) := Hq.out.trans Hq2.out
              have HW1 := Lib.hid (HW.out.new_ Hq3.out)
              have HN1 := Lib.hid HN.out
              have Hss1 := Lib.hid Hss.out
              have Hl1 : Hid (s.last = s.last) := rfl
              have Hk1 : Hid (acked + 0 = acked) := Int.add_zero _
              have HF1 := Lib.hid HF.out
              have Hn1 := Lib.hid (HH.out.trans Hq3.out)
              have d1 := Hn1.out.cell D1.out
              have t1 : ((((s).l.length : Nat) : Int) != s.last - acked) = false := by have h1 := HN1.out.last; simp; omega
              have t2 : ((s).last != s.last) = false := by simp
              have t3 : (((s).l.length : Nat) : Int) ≤ size := by have h1 := HW1.out.ok.len; rw [Hss1.out] at h1; exact h1
              go_wp2_with fail
              refine (wopen_nat g s F _ HW1.out).mono ?_
              rintro e wA ⟨rfl, rfl⟩
              go_wp2_with fail
              refine (wlast_nat g s F _ HW1.out).mono ?_
              rintro e wA ⟨rfl, rfl⟩
              go_wp2_with fail
              refine (wopen_nat g s F _ HW1.out).mono ?_
              rintro e wA ⟨rfl, rfl⟩
              go_wp2
              go_roundw
              case rel => exact ⟨i + 1, s, acked, F, by omega, by go_num, by rfl, by first | rfl | rw [Hk1.out], HW1.out, HN1.out, Hss1.out, by omega, HF1.out, Hn1.out⟩
              case measure => simp [intOf]; omega
            · have hnb : 0 ≤ a.n ∧ a.n ≤ s.last ∧ 0 ≤ a.now ∧ a.now ≤ 2147483647 := by unfold ackBad at hbd; omega
              obtain ⟨n0, n1, n2, n3⟩ := hnb
              have hwr := hna.resolve_right hbd
              clear hna hbd
              have hnum := num_ack (now := a.now) HN.out n1
              have Hnum := Lib.hid hnum; clear hnum
              go_wp2_with fail
              refine wp_region_quiet_call 11 5 _ (by kernel_rfl) rfl rfl rfl (by kernel_rfl) ?_
              simp only [List.take_succ_cons, List.take_zero, List.drop_succ_cons, List.drop_zero]
              repeat (go_big_quiet_step (fail))
              refine wpQuiet_nil ?_
              intro wq hwq K hK
              have Hq : Hid (New wr wq) := drew_new hwq
              clear hwq c0 c1 c2 c3
              go_simp
              refine (win_ack g s F a.n a.now _ (HW.out.new_ Hq.out) n0 n1 n2 n3).mono ?_
              rw [Hnum.out.1]
              rintro e w4 ⟨rfl, hW4, hm4⟩
              have Hn4 : Hid (New w w4) := (HH.out.trans Hq.out).thenMod hm4 HF.out
              have HW4 := Lib.hid hW4; clear hW4 hm4
              refine hK _ _ ?_
              clear hK K
              repeat (go_big_quiet_step (fail))
              refine wpQuiet_nil ?_
              intro wx hwx
              have Hq2 := Lib.hid (drew_new hwx)
              clear hwx
              have HW1 := Lib.hid (HW4.out.new_ Hq2.out)
              have HN1 := Lib.hid Hnum.out.2
              have Hss1 : Hid ((ackW a.n a.now s).1.size = size) := (ackW_size s a.n a.now).trans Hss.out
              have Hl1 : Hid ((ackW a.n a.now s).1.last = s.last) := ackW_last s a.n a.now
              have Hk1 : Hid (acked + max (a.n - acked) 0 = acked + max (a.n - acked) 0) := rfl
              have HF1 := Lib.hid HF.out
              have Hn1 : Hid (New w wx) := Hn4.out.trans Hq2.out
              have d1 := Hn1.out.cell D1.out
              have t1 : (((((ackW a.n a.now s).1).l.length : Nat) : Int) != s.last - (acked + max (a.n - acked) 0)) = false := by have h1 := HN1.out.last; have h2 := Hl1.out; simp; omega
              have t2 : (((ackW a.n a.now s).1).last != s.last) = false := by have h2 := Hl1.out; simp; omega
              have t3 : ((((ackW a.n a.now s).1).l.length : Nat) : Int) ≤ size := by have h1 := HW1.out.ok.len; rw [Hss1.out] at h1; exact h1
              go_wp2_with fail
              refine (wopen_nat g (ackW a.n a.now s).1 F _ HW1.out).mono ?_
              rintro e wA ⟨rfl, rfl⟩
              go_wp2_with fail
              refine (wlast_nat g (ackW a.n a.now s).1 F _ HW1.out).mono ?_
              rintro e wA ⟨rfl, rfl⟩
              go_wp2_with fail
              refine (wopen_nat g (ackW a.n a.now s).1 F _ HW1.out).mono ?_
              rintro e wA ⟨rfl, rfl⟩
              go_wp2
              go_roundw
              case rel => exact ⟨i + 1, (ackW a.n a.now s).1, (acked + max (a.n - acked) 0), F, by omega, by go_num, by rw [Hl1.out], by first | rfl | rw [Hk1.out], HW1.out, HN1.out, Hss1.out, by have := Hl1.out; omega, HF1.out, Hn1.out⟩
              case measure => simp [intOf]; omega
          · -- kind 4
            have e0 : (a.kind == 0) = false := by rw [hk]; rfl
            have e1 : (a.kind == 1) = false := by rw [hk]; rfl
            have e2 : (a.kind == 2) = false := by rw [hk]; rfl
            have e3 : (a.kind == 3) = false := by rw [hk]; rfl
            have e4 : (a.kind == 4) = true := by rw [hk]; rfl
            have Hk := Lib.hid hk; clear hk
            have ha0 := HN.out.a0
            have hl0 := HW.out.ok.last0
            have hal : acked ≤ s.last := by have h1 := HN.out.last; omega
            by_cases ht : a.now < 0 ∨ 2147483647 < a.now
            · have Ht := Lib.hid ht; clear ht
              go_wp2_with fail
              refine (win_due_bad g s F _ _ HW.out Ht.out).mono ?_
              rintro e w4 ⟨rfl, rfl⟩
              have HW1 := Lib.hid HW.out
              have HN1 := Lib.hid HN.out
              have Hss1 := Lib.hid Hss.out
              have Hl1 : Hid (s.last = s.last) := rfl
              have Hk1 : Hid (acked = acked) := rfl
              have HF1 := Lib.hid HF.out
              have Hn1 := Lib.hid HH.out
              have t1 : ((((s).l.length : Nat) : Int) != s.last - acked) = false := by have h1 := HN1.out.last; simp; omega
              have t2 : ((s).last != s.last) = false := by simp
              have t3 : (((s).l.length : Nat) : Int) ≤ size := by have h1 := HW1.out.ok.len; rw [Hss1.out] at h1; exact h1
              go_wp2_with fail
              refine (wopen_nat g s F _ HW1.out).mono ?_
              rintro e wA ⟨rfl, rfl⟩
              go_wp2_with fail
              refine (wlast_nat g s F _ HW1.out).mono ?_
              rintro e wA ⟨rfl, rfl⟩
              go_wp2_with fail
              refine (wopen_nat g s F _ HW1.out).mono ?_
              rintro e wA ⟨rfl, rfl⟩
              go_wp2
              go_roundw
              case rel => exact ⟨i + 1, s, acked, F, by omega, by go_num, by rfl, by first | rfl | rw [Hk1.out], HW1.out, HN1.out, Hss1.out, by omega, HF1.out, Hn1.out⟩
              case measure => simp [intOf]; omega
            · have hnb : 0 ≤ a.now ∧ a.now ≤ 2147483647 := by omega
              obtain ⟨n2, n3⟩ := hnb
              clear ht
              go_wp2_with fail
              refine (win_due g s F a.now _ HW.out n2 n3).mono ?_
              rintro e w4 ⟨v4, rfl, _, hW4, hm4⟩
              have HW1 := Lib.hid hW4
              have HN1 := Lib.hid (num_due (now := a.now) HN.out)
              have Hss1 : Hid ((dueW a.now s).size = size) := Hss.out
              have Hl1 : Hid ((dueW a.now s).last = s.last) := rfl
              have Hk1 : Hid (acked = acked) := rfl
              have HF1 := Lib.hid HF.out
              have Hn1 : Hid (New w w4) := HH.out.thenMod hm4 HF.out
              clear hW4 hm4
              have t1 : (((((dueW a.now s)).l.length : Nat) : Int) != s.last - acked) = false := by have h1 := HN1.out.last; have h2 := Hl1.out; simp; omega
              have t2 : (((dueW a.now s)).last != s.last) = false := by have h2 := Hl1.out; simp; omega
              have t3 : ((((dueW a.now s)).l.length : Nat) : Int) ≤ size := by have h1 := HW1.out.ok.len; rw [Hss1.out] at h1; exact h1
              go_wp2_with fail
              refine (wopen_nat g (dueW a.now s) F _ HW1.out).mono ?_
              rintro e wA ⟨rfl, rfl⟩
              go_wp2_with fail
              refine (wlast_nat g (dueW a.now s) F _ HW1.out).mono ?_
              rintro e wA ⟨rfl, rfl⟩
              go_wp2_with fail
              refine (wopen_nat g (dueW a.now s) F _ HW1.out).mono ?_
              rintro e wA ⟨rfl, rfl⟩
              go_wp2
              go_roundw
              case rel => exact ⟨i + 1, (dueW a.now s), acked, F, by omega, by go_num, by rw [Hl1.out], by first | rfl | rw [Hk1.out], HW1.out, HN1.out, Hss1.out, by have := Hl1.out; omega, HF1.out, Hn1.out⟩
              case measure => simp [intOf]; omega
          · -- kind else
            have e0 : (a.kind == 0) = false := beq_eq_false_iff_ne.2 (by omega)
            have e1 : (a.kind == 1) = false := beq_eq_false_iff_ne.2 (by omega)
            have e2 : (a.kind == 2) = false := beq_eq_false_iff_ne.2 (by omega)
            have e3 : (a.kind == 3) = false := beq_eq_false_iff_ne.2 (by omega)
            have e4 : (a.kind == 4) = false := beq_eq_false_iff_ne.2 (by omega)
            have Hk := Lib.hid hk; clear hk
            have ha0 := HN.out.a0
            have hl0 := HW.out.ok.last0
            have hal : acked ≤ s.last := by have h1 := HN.out.last; omega
            have HW1 := Lib.hid HW.out
            have HN1 := Lib.hid HN.out
            have Hss1 := Lib.hid Hss.out
            have Hl1 : Hid (s.last = s.last) := rfl
            have Hk1 : Hid (acked = acked) := rfl
            have HF1 := Lib.hid HF.out
            have Hn1 := Lib.hid HH.out
            have t1 : ((((s).l.length : Nat) : Int) != s.last - acked) = false := by have h1 := HN1.out.last; simp; omega
            have t2 : ((s).last != s.last) = false := by simp
            have t3 : (((s).l.length : Nat) : Int) ≤ size := by have h1 := HW1.out.ok.len; rw [Hss1.out] at h1; exact h1
            go_wp2_with fail
            refine (wopen_nat g s F _ HW1.out).mono ?_
            rintro e wA ⟨rfl, rfl⟩
            go_wp2_with fail
            refine (wlast_nat g s F _ HW1.out).mono ?_
            rintro e wA ⟨rfl, rfl⟩
            go_wp2_with fail
            refine (wopen_nat g s F _ HW1.out).mono ?_
            rintro e wA ⟨rfl, rfl⟩
            go_wp2
            go_roundw
            case rel => exact ⟨i + 1, s, acked, F, by omega, by go_num, by rfl, by first | rfl | rw [Hk1.out], HW1.out, HN1.out, Hss1.out, by omega, HF1.out, Hn1.out⟩
            case measure => simp [intOf]; omega
          -- END OF WAYS
        · have Hn2 := Lib.hid hn
          clear hW hN hF hn hss
          go_wp2
          go_ret
          exact ⟨rfl, Hn2.out⟩
  · have hbad : size < 1 ∨ 64 < size := by omega
    clear hsz
    cases hL : longA acts with
    | true =>
      have HL := Lib.hid hL; clear hL
      go_enter Try.func19, Try.ntmps19
      go_wp2_with fail
      refine (awake13 _).mono ?_
      rintro e w1 ⟨rfl, hn1⟩
      go_wp2_with fail
      refine (wnew_bad size _ hbad).mono ?_
      rintro e w2 ⟨rfl, rfl⟩
      go_wp2_with fail
      refine (long_any _ acts _ (Hr.out.new_ hn1) (fun a ha => (Hb.out a ha).1)).mono ?_
      rw [HL.out]
      rintro e w3 ⟨rfl, rfl⟩
      go_wp2
      go_ret
      exact ⟨rfl, hn1⟩
    | false =>
      have HL := Lib.hid hL; clear hL
      go_enter Try.func19, Try.ntmps19
      go_wp2_with fail
      refine (awake13 _).mono ?_
      rintro e w1 ⟨rfl, hn1⟩
      go_wp2_with fail
      refine (wnew_bad size _ hbad).mono ?_
      rintro e w2 ⟨rfl, rfl⟩
      go_wp2_with fail
      refine (long_any _ acts _ (Hr.out.new_ hn1) (fun a ha => (Hb.out a ha).1)).mono ?_
      rw [HL.out]
      rintro e w3 ⟨rfl, rfl⟩
      go_wp2
      go_ret
      exact ⟨rfl, hn1⟩
end Go.Proofs.Ytkfcdfcoiglieaa
