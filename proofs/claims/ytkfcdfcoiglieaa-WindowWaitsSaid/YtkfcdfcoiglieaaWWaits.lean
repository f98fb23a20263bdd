/- WindowWaits, walked. No condition but that the arguments are numbers. -/
import Derived.Test.YtkfcdfcoiglieaaWaitL
namespace Go.Proofs.Ytkfcdfcoiglieaa
open Go.RowKit

theorem Mod.cell {F : Nat → Prop} {w w' : World} (hm : Mod F w w') {p : Addr} {x : Value} (h : w.cell? p = some x) (hF : ¬ F p.block) : w'.cell? p = some x :=
  (World.cell?_of_block (hm.block p.block (World.block_lt_of_cell? w _ h) hF)).trans h
theorem dec_refl (l : List UInt8) : decide (l = l) = true := decide_eq_true rfl
theorem info_int : (Try.prog.info? 3).map (fun i => (i.zero, i.size, i.bytes)) = some (some (.int .i64 0), 1, 8) := by kernel_rfl
theorem mk_ints (m : Nat) (hm : m ≤ 64) (w : World) : (Instr.makeSlice 70 (.int .i64 ((m : Int) + 1)) (.int .i64 ((m : Int) + 1))).run Try.prog w = .ok (.slice (some ⟨w.heap.size, 0, none⟩) (m + 1) (m + 1)) (w.alloc (.cells (Array.replicate (m + 1) (.int .i64 0)) 3)) := by
  obtain ⟨i0, hi0, hz0, hz1, hz2⟩ := info_parts info_int
  have hr := run_make (P := Try.prog) w 70 3 i0 _ Try.underlying70 hi0 hz0 .i64 .i64 ((m : Int) + 1) ((m : Int) + 1) (by omega) (Int.le_refl _) (by rw [hz2]; omega) (by omega)
  rw [hr, hz1, show ((m : Int) + 1).toNat = m + 1 from by omega, Nat.mul_one]
  have : madeCells (Value.int .i64 0).cells (m + 1) = Array.replicate (m + 1) (.int .i64 0) := by
    apply Array.toList_inj.1
    show (madeCells #[Value.int .i64 0] (m + 1)).toList = _
    rw [toList_madeCells_one, Array.toList_replicate]
  rw [this]
theorem rb_byte (w : World) (n : Nat) (h : n ≤ 64) : RB (w.alloc (.cells #[.int .u8 (n : Int)] 5)) (.slice (some ⟨w.heap.size, 0, none⟩) 1 1) [UInt8.ofNat n] :=
  rb_new w [UInt8.ofNat n] _ (by
    show [Value.int .u8 (n : Int)] = [Value.int .u8 (((UInt8.ofNat n).toNat : Nat) : Int)]
    rw [UInt8.toNat_ofNat_of_lt' (by show _ < 256; omega)]) 1 rfl (by decide)

set_option maxRecDepth 100000 in
set_option maxHeartbeats 6400000 in
theorem waits13 (size many ticks upto wn : Int) (w : World) :
    Calls Try.prog 18 #[.int .i64 size, .int .i64 many, .int .i64 ticks, .int .i64 upto, .int .i64 wn] w fun e w' => e = .returned (.bool true) ∧ New w w' := by
  have pe := beq_ptr
  obtain ⟨q1, q2⟩ := pick_range size 64 (by decide)
  generalize h1 : pick size 64 = p1 at *
  obtain ⟨q3, q4⟩ := pick_range many (1 + p1) (by omega)
  generalize h2 : pick many (1 + p1) = p2 at *
  obtain ⟨q5, q6⟩ := pick_range ticks 300 (by decide)
  generalize h3 : pick ticks 300 = p3 at *
  obtain ⟨m, hm⟩ : ∃ m : Nat, 1 + p2 = m := ⟨(1 + p2).toNat, by omega⟩
  obtain ⟨q7, q8⟩ := pick_range upto ((m : Int) + 1) (by omega)
  generalize h4 : pick upto ((m : Int) + 1) = p4 at *
  obtain ⟨q9, q10⟩ := pick_range wn 300 (by decide)
  generalize h5 : pick wn 300 = p5 at *
  have hm1 : 1 ≤ m := by omega
  have hm2 : (m : Int) ≤ 1 + p1 := by omega
  have hm3 : m ≤ 64 := by omega
  have H1 := Lib.hid h1; have H2 := Lib.hid h2; have H3 := Lib.hid h3; have H4 := Lib.hid h4; have H5 := Lib.hid h5; have HM := Lib.hid hm
  clear h1 h2 h3 h4 h5 hm
  have hmk := mk_ints m hm3
  have Hmk := Lib.hid hmk; clear hmk
  go_enter Try.func18, Try.ntmps18
  go_wp2_with fail
  refine (awake13 _).mono ?_
  rintro e w1 ⟨rfl, hn1⟩
  go_wp2_with fail
  refine (pick_any size 64 _ (by decide)).mono ?_
  rw [H1.out]
  rintro e w2 ⟨rfl, rfl⟩
  go_wp2_with fail
  refine (pick_any ticks 300 _ (by decide)).mono ?_
  rw [H3.out]
  rintro e w2 ⟨rfl, rfl⟩
  go_wp2_with fail
  refine (pick_any many (1 + p1) _ (by omega)).mono ?_
  rw [H2.out]
  rintro e w2 ⟨rfl, rfl⟩
  go_wp2_with fail
  rw [HM.out]
  refine (pick_any upto ((m : Int) + 1) _ (by omega)).mono ?_
  rw [H4.out]
  rintro e w2 ⟨rfl, rfl⟩
  go_wp2_with fail
  refine (pick_any wn 300 _ (by decide)).mono ?_
  rw [H5.out]
  rintro e w2 ⟨rfl, rfl⟩
  go_wp2_with fail
  refine (win_new (1 + p1) _ (by omega) (by omega)).mono ?_
  rintro e w2 ⟨rfl, hW2, hn2⟩
  have HW2 := Lib.hid hW2; clear hW2
  have Hn := Lib.hid (hn1.trans hn2)
  have hsz1 : w.heap.size ≤ w1.heap.size := New.size hn1
  have hlt1 : w1.heap.size < w2.heap.size := HW2.out.lt _ rfl
  clear hn1 hn2
  go_upto_region 8 with fail
  generalize hg : w1.heap.size = g at *
  have Hg := Lib.hid hg; clear hg
  go_cut [14, 15] (fun u14 u15 wx => ∃ b1 b2 : Nat, u14 = .slice (some ⟨b1, 0, none⟩) (m + 1) (m + 1) ∧ u15 = .slice (some ⟨b2, 0, none⟩) (m + 1) (m + 1) ∧ b1 ≠ b2 ∧ Arr wx b1 (m + 1) (fun _ => 0) ∧ Arr wx b2 (m + 1) (fun _ => 0) ∧ w2.heap.size ≤ b1 ∧ w2.heap.size ≤ b2 ∧ New w2 wx)
  case first =>
    as_aux_lemma =>
      have hmk := Hmk.out
      go_region
      all_goals
        go_wp2_with fail
        go_meet
        have hn12 : New w2 ((w2.alloc (.cells (Array.replicate (m + 1) (.int .i64 0)) 3)).alloc (.cells (Array.replicate (m + 1) (.int .i64 0)) 3)) := (New.alloc _ _).trans (New.alloc _ _)
        have z1 : Arr ((w2.alloc (.cells (Array.replicate (m + 1) (.int .i64 0)) 3)).alloc (.cells (Array.replicate (m + 1) (.int .i64 0)) 3)).drew w2.heap.size (m + 1) (fun _ => 0) := (arr_zero (Bk.ofNew w2 3 _)).new_ ((New.alloc _ _).trans (New.drew _))
        have z2 : Arr ((w2.alloc (.cells (Array.replicate (m + 1) (.int .i64 0)) 3)).alloc (.cells (Array.replicate (m + 1) (.int .i64 0)) 3)).drew (w2.heap.size + 1) (m + 1) (fun _ => 0) := by
          have := (arr_zero (Bk.ofNew (w2.alloc (.cells (Array.replicate (m + 1) (.int .i64 0)) 3)) 3 (Array.replicate (m + 1) (.int .i64 0)))).new_ (New.drew _)
          rwa [World.size_alloc] at this
        first
        | exact ⟨w2.heap.size, w2.heap.size + 1, rfl, rfl, by omega, z1, z2, by omega, by omega, hn12.trans (New.drew _)⟩
        | exact ⟨w2.heap.size + 1, w2.heap.size, rfl, rfl, by omega, z2, z1, by omega, by omega, hn12.trans (New.drew _)⟩
  case rest =>
    obtain ⟨b1, b2, rfl, rfl, hb12, hA1, hA2, hb1, hb2, hn3⟩ := hcut
    have HA1 := Lib.hid hA1; have HA2 := Lib.hid hA2; have HN3 := Lib.hid hn3
    clear hA1 hA2 hn3
    go_wp2_with fail
    go_loopw [16] (fun u16 wr => ∃ (j : Nat) (s : Wn) (F : Nat → Prop) (S : Nat → Int), 1 ≤ j ∧ j ≤ m + 1 ∧ u16 = .int .i64 j ∧ Win wr F g s ∧ Wt s (j - 1) 0 0 S (fun _ => 0) ∧ s.size = 1 + p1 ∧ Arr wr b1 (m + 1) S ∧ Arr wr b2 (m + 1) (fun _ => 0) ∧ (∀ k, F k → w.heap.size ≤ k ∧ k ≠ b1 ∧ k ≠ b2) ∧ New w wr) (fun u16 _ => m + 1 - (intOf u16).toNat)
    case atStart => exact ⟨1, newWn (1 + p1), _, _, Nat.le_refl _, by omega, rfl, HW2.out.new_ HN3.out, wt_new _ _ _, rfl, HA1.out, HA2.out, fun k hk => by subst hk; omega, Hn.out.trans HN3.out⟩
    case round =>
      obtain ⟨j, s, F, S, hj1, hj2, rfl, hW, hT, hss, ha1, ha2, hF, hn⟩ := hrel
      have HW := Lib.hid hW; have HT := Lib.hid hT; have Hss := Lib.hid hss; have Ha1 := Lib.hid ha1; have Ha2 := Lib.hid ha2; have HF := Lib.hid hF; have HH := Lib.hid hn
      clear hW hT hss ha1 ha2 hF hn
      have hbw1 := Ha1.out.lt; have hbw2 := Ha2.out.lt
      by_cases hlt : j ≤ m
      · as_aux_lemma =>
          obtain ⟨i, hij⟩ : ∃ i, i + 1 = j := ⟨j - 1, by omega⟩
          have hT : Wt s i 0 0 S (fun _ => 0) := by have := HT.out; rwa [show j - 1 = i from by omega] at this
          have hln : s.last = (i : Int) := hT.last
          have hle : s.last = 0 + s.l.length := hT.num.last
          have hsz2 : (s.l.length : Int) < s.size := by rw [Hss.out]; omega
          have hnum : (j : Int) = s.last + 1 := by omega
          have hlast : s.last ≤ 2147483647 := by omega
          have Hln := Lib.hid hln; have Hsz2 := Lib.hid hsz2; have Hnum := Lib.hid hnum; have Hlast := Lib.hid hlast; have HT1 := Lib.hid hT; have Hij := Lib.hid hij
          clear hln hle hsz2 hnum hlast hT hij
          have hw8 : IntKind.u8.wrap (j : Int) = (j : Int) := by rw [IntKind.wrap_u8]; omega
          go_wp2_with fail
          refine (win_push1 (j : Int) g s F _ [UInt8.ofNat j] _ (HW.out.new_ (New.alloc wr _)) Hsz2.out Hlast.out (rb_byte wr j (by omega)) (Nat.le_of_ble_eq_true rfl) Hnum.out).mono ?_
          rintro e w4 ⟨rfl, hW4, hm4⟩
          have a1 := (Ha1.out.new_ (New.alloc wr (.cells #[.int .u8 (j : Int)] 5))).mod hm4 (fun h => (HF.out _ h).2.1 rfl)
          have a2 := (Ha2.out.new_ (New.alloc wr (.cells #[.int .u8 (j : Int)] 5))).mod hm4 (fun h => (HF.out _ h).2.2 rfl)
          have hn4 : New w w4 := (HH.out.trans (New.alloc wr _)).thenMod hm4 (fun k hk => (HF.out k hk).1)
          have hG : ∀ k, Grown (wr.alloc (.cells #[.int .u8 (j : Int)] 5)) w4 F k → w.heap.size ≤ k ∧ k ≠ b1 ∧ k ≠ b2 := fun k hk => by
            rcases hk.1 with h | h
            · exact HF.out k h
            · rw [World.size_alloc] at h; have := New.size HH.out; omega
          have c0 := a1.cell (i := j) (by omega)
          have f0 := a1.frozen j
          have HW4 := Lib.hid hW4; have HM4 := Lib.hid hm4; have HA1 := Lib.hid a1; have HA2 := Lib.hid a2; have HN4 := Lib.hid hn4; have HG := Lib.hid hG
          clear hW4 hm4 a1 a2 hn4 hG
          go_wp2
          go_roundw
          case rel => exact ⟨j + 1, _, _, upd S j (-1), by omega, by omega, by go_num, HW4.out.mod (mod_set _ b1 j _) (fun k hk e => (HG.out k hk).2.1 e), by have := wt_push HT1.out; rw [Hij.out] at this; exact this, Hss.out, HA1.out.set (by omega) _, HA2.out.far (fun e => hb12 e.symm) _, HG.out, HN4.out.thenMod (mod_set _ b1 j _) (fun k hk => by rw [hk]; omega)⟩
          case measure => simp [intOf]; omega
      · obtain rfl : j = m + 1 := by omega
        have HT1 : Hid (Wt s m 0 0 S (fun _ => 0)) := HT.out
        clear HT
        go_wp2_with fail
        have hnw0 : s.now ≤ 0 := HT1.out.nw
        go_loopw [19, 20] (fun u19 u20 wr => ∃ (now acked : Nat) (s : Wn) (F : Nat → Prop) (S D : Nat → Int), (now : Int) ≤ p3 ∧ u20 = .int .i64 now ∧ u19 = .int .i64 acked ∧ Win wr F g s ∧ Wt s m acked now S D ∧ ((now : Int) ≤ p5 → acked = 0) ∧ Arr wr b1 (m + 1) S ∧ Arr wr b2 (m + 1) D ∧ (∀ k, F k → w.heap.size ≤ k ∧ k ≠ b1 ∧ k ≠ b2) ∧ New w wr) (fun _ u20 _ => (p3 - intOf u20).toNat)
        case atStart => exact ⟨0, 0, s, F, S, _, by omega, rfl, rfl, HW.out, HT1.out, fun _ => rfl, Ha1.out, Ha2.out, HF.out, HH.out⟩
        case round =>
          clear HW HT1 Ha1 Ha2 HF HH Hss hnw0
          obtain ⟨now, acked, s, F, S, D, hp3, rfl, rfl, hW, hT, hak, ha1, ha2, hF, hn⟩ := hrel
          have HW := Lib.hid hW; have HT := Lib.hid hT; have Hak := Lib.hid hak; have Ha1 := Lib.hid ha1; have Ha2 := Lib.hid ha2; have HF := Lib.hid hF; have HH := Lib.hid hn
          clear hW hT hak ha1 ha2 hF hn
          by_cases hlt : (now : Int) < p3
          · go_upto_if 90 with fail
            go_cut [19] (fun u19 wx => ∃ (s1 : Wn) (ac : Nat), u19 = .int .i64 ac ∧ Win wx F g s1 ∧ Wt s1 m ac now S D ∧ ((now : Int) + 1 ≤ p5 → ac = 0) ∧ Mod F wr wx)
            case first =>
              as_aux_lemma =>
                by_cases hw : (now : Int) = p5
                · obtain rfl : acked = 0 := Hak.out (by omega)
                  obtain ⟨up, hup⟩ : ∃ up : Nat, p4 = up := ⟨p4.toNat, by omega⟩
                  subst hup
                  have hT0 : Wt s m ((0 : Nat) : Int) now S D := HT.out
                  obtain ⟨n1, hT1⟩ := wt_ack hT0 (upto := (up : Int)) (by omega) (by omega)
                  have hlast : (up : Int) ≤ s.last := by rw [hT0.last]; omega
                  have Hlast := Lib.hid hlast; have HT1 := Lib.hid hT1; have N1 := Lib.hid n1
                  clear hT0 hT1 hlast n1
                  have hb : ((now : Int) == p5) = true := by rw [hw]; exact beq_self_eq_true _
                  have Hw := Lib.hid hw; clear hw
                  go_wp2_with fail
                  refine (win_ack g s F up now _ HW.out (by omega) Hlast.out (by omega) (by omega)).mono ?_
                  rw [N1.out]
                  rintro e w4 ⟨rfl, hW4, hm4⟩
                  have HW4 := Lib.hid hW4; have HM4 := Lib.hid hm4; clear hW4 hm4
                  go_wp2_with fail
                  go_meet
                  exact ⟨_, up, rfl, HW4.out, HT1.out, fun h => by have := Hw.out; omega, HM4.out⟩
                · have hb : ((now : Int) == p5) = false := beq_eq_false_iff_ne.2 hw
                  go_wp2_with fail
                  go_meet
                  exact ⟨s, acked, rfl, HW.out, HT.out, fun h => Hak.out (by omega), Mod.refl _ _⟩
            case rest =>
              obtain ⟨s1, ac, rfl, hW, hT, hak, hm4⟩ := hcut
              have Ha1 := Lib.hid (Ha1.out.mod hm4 (fun h => (HF.out _ h).2.1 rfl)); have Ha2 := Lib.hid (Ha2.out.mod hm4 (fun h => (HF.out _ h).2.2 rfl))
              have HW := Lib.hid hW; have HT := Lib.hid hT; have Hak := Lib.hid hak; have HH := Lib.hid (HH.out.thenMod hm4 (fun k hk => (HF.out k hk).1))
              clear hW hT hak hm4
              have hacm : ac ≤ m := by have h1 := HT.out.last; have h2 := HT.out.num.last; omega
              go_wp2_with fail
              refine (win_due g s1 F now _ HW.out (by omega) (by omega)).mono ?_
              rintro e wd ⟨v, rfl, hp, hWd, hmd⟩
              obtain ⟨A, c, rfl, hc1, hc2, hx⟩ := hp.get
              have ha1 := Ha1.out.mod hmd (fun h => (HF.out _ h).2.1 rfl); have ha2 := Ha2.out.mod hmd (fun h => (HF.out _ h).2.2 rfl)
              have hbx1 := Ha1.out.lt; have hbx2 := Ha2.out.lt
              have hhd : New w wd := HH.out.thenMod hmd (fun k hk => (HF.out k hk).1)
              have heach := wt_each HT.out HW.out.ok
              have hend := fun S' D' => stg_end (S' := S') (D' := D') HT.out HW.out.ok (Int.natCast_nonneg now)
              have hstg := stg_zero (outW now s1) now S D
              generalize hout : outW now s1 = out at *
              have Hx := Lib.hid hx; have Ha1d := Lib.hid ha1; have Ha2d := Lib.hid ha2; have Hhd := Lib.hid hhd; have Heach := Lib.hid heach; have Hend := Lib.hid hend; have Hstg := Lib.hid hstg; have HWd := Lib.hid hWd
              have hl9 : out.length ≤ 9223372036854775807 := by omega
              clear hp hmd hx ha1 ha2 hhd heach hend hstg hWd hout
              go_wp2_with fail
              go_loopw [24] (fun u24 wr => ∃ (i : Nat) (S' D' : Nat → Int), i ≤ out.length ∧ u24 = .int .i64 i ∧ Stg out now i S D S' D' ∧ Arr wr b1 (m + 1) S' ∧ Arr wr b2 (m + 1) D' ∧ Mod (fun k => k = b1 ∨ k = b2) wd wr) (fun u24 _ => out.length - (intOf u24).toNat)
              case atStart => exact ⟨0, S, D, Nat.zero_le _, rfl, Hstg.out, Ha1d.out, Ha2d.out, Mod.refl _ _⟩
              case round =>
                obtain ⟨i, S', D', hi, rfl, hst, ha1, ha2, hmr⟩ := hrel
                have HS := Lib.hid hst; have HA1 := Lib.hid ha1; have HA2 := Lib.hid ha2; have HMR := Lib.hid hmr
                clear hst ha1 ha2 hmr
                by_cases hlt3 : i < out.length
                · obtain ⟨q, hq, hq1, hq2, hbody, hcase, hprev, hnext⟩ := Heach.out i out[i] (List.getElem?_eq_getElem hlt3)
                  obtain ⟨e1, e2, hn1, hn2⟩ := hnext S' D' HS.out
                  obtain ⟨b, rfl, hbb, hcell⟩ := Hx.out (fun e => by rw [e] at hlt3; simp at hlt3)
                  obtain ⟨k1, u, k2, hu⟩ := hcell i _ (List.getElem?_eq_getElem hlt3)
                  rw [hq] at k1; rw [hbody] at hu
                  have hru : RB _ u [UInt8.ofNat q] := rd_keep (OwnP.rd hu) HMR.out (fun k hk h => by have := (OwnP.lt hu) k hk; omega)
                  obtain ⟨A4, c4, rfl, hcc1, hcc2⟩ := hru.shape
                  have hbn1 : b ≠ b1 := by omega
                  have hbn2 : b ≠ b2 := by omega
                  replace k1 := HMR.out.cell k1 (fun h => by rcases h with h | h; exact hbn1 h; exact hbn2 h)
                  replace k2 := HMR.out.cell k2 (fun h => by rcases h with h | h; exact hbn1 h; exact hbn2 h)
                  have hpv : ∀ j, j + 1 = i → ∃ y : Int, y < q ∧ wr.cell? ⟨b, j * 2, none⟩ = some (.int .i64 y) := fun j hj => by
                    have hj3 : j < out.length := by omega
                    obtain ⟨z1, _⟩ := hcell j _ (List.getElem?_eq_getElem hj3)
                    exact ⟨_, hprev j _ (by omega) (List.getElem?_eq_getElem hj3), HMR.out.cell z1 (fun h => by rcases h with h | h; exact hbn1 h; exact hbn2 h)⟩
                  have Hpv := Lib.hid hpv; have Hru := Lib.hid hru; have Hn1 := Lib.hid hn1; have Hn2 := Lib.hid hn2; have Hcase := Lib.hid hcase; have E1 := Lib.hid e1; have E2 := Lib.hid e2
                  clear hpv hru hn1 hn2 hcase e1 e2 hcell hu hprev hnext hq hbody
                  have iI0 : (0 : Int) ≤ (i : Int) := by omega
                  have iI1 : (i : Int) < (out.length : Int) := by omega
                  have nq1 : ¬ (q ≤ ac) := by omega
                  have nq2 : ¬ (m < q) := by omega
                  go_upto_region 30 with fail
                  go_cut [153] (fun u153 wx => u153 = .bool false ∧ New wr wx)
                  case first =>
                    as_aux_lemma =>
                      have hw8 : IntKind.u8.wrap (q : Int) = (q : Int) := by rw [IntKind.wrap_u8]; omega
                      by_cases h0 : i = 0
                      · subst h0
                        simp only [Nat.zero_mul, Nat.zero_add] at k1 k2
                        go_wp2_with fail
                        refine (same_any _ _ [UInt8.ofNat q] [UInt8.ofNat q] _ (Hru.out.new_ (New.alloc wr _)) (rb_byte wr q (by omega))).mono ?_
                        rw [dec_refl]
                        rintro e wy ⟨rfl, rfl⟩
                        go_wp2_with fail
                        go_meet
                        exact ⟨rfl, New.alloc _ _⟩
                      · obtain ⟨j, hj⟩ : ∃ j, j + 1 = i := ⟨i - 1, by omega⟩
                        obtain ⟨y, hy1, hy2⟩ := Hpv.out j hj
                        have hsub : (i : Int) - 1 = (j : Int) := by omega
                        have jI1 : (j : Int) < (out.length : Int) := by omega
                        have hpos : 0 < i := by omega
                        have hqy : ¬ ((q : Int) ≤ y) := by omega
                        have Hj := Lib.hid hj; clear hj h0
                        go_wp2_with fail
                        refine (same_any _ _ [UInt8.ofNat q] [UInt8.ofNat q] _ (Hru.out.new_ (New.alloc wr _)) (rb_byte wr q (by omega))).mono ?_
                        rw [dec_refl]
                        rintro e wy ⟨rfl, rfl⟩
                        go_wp2_with fail
                        go_meet
                        exact ⟨rfl, New.alloc _ _⟩
                  case rest =>
                    obtain ⟨rfl, hn5⟩ := hcut
                    have HN5 := Lib.hid hn5
                    have c1 := (HA1.out.new_ hn5).cell (i := q) (by omega)
                    have c2 := (HA2.out.new_ hn5).cell (i := q) (by omega)
                    rw [E1.out] at c1; rw [E2.out] at c2
                    have hcase := Hcase.out; have hn1 := Hn1.out; have hn2 := Hn2.out
                    clear k1 k2 hn5 Hpv Hru Hn1 Hn2 Hcase
                    generalize S q = a at *
                    generalize D q = dd at *
                    have Hn1 := Lib.hid hn1; have Hn2 := Lib.hid hn2; have Hcase := Lib.hid hcase
                    clear hn1 hn2 hcase
                    go_upto_region 32 with fail
                    go_cut [184] (fun u184 wx => u184 = .bool false ∧ New wr wx)
                    case first =>
                      as_aux_lemma =>
                        rcases Hcase.out with rfl | ⟨ha0, ha1, ha2⟩
                        · go_quiet (fail)
                          go_wp2_with fail
                          go_meet
                          exact ⟨rfl, HN5.out.trans (drewN_new _ _)⟩
                        · have g1 : decide ((0 : Int) ≤ a) = true := decide_eq_true ha0
                          have g2 : decide ((now : Int) - a < 2) = false := decide_eq_false (by omega)
                          by_cases hac : ac = 0
                          · have ha3 := ha2 (by omega)
                            have g4 : decide ((now : Int) - a < dd) = false := decide_eq_false (by omega)
                            have g3 : ((ac : Int) == 0) = true := by rw [hac]; rfl
                            clear ha2 hac
                            go_quiet (fail)
                            go_wp2_with fail
                            go_meet
                            exact ⟨rfl, HN5.out.trans (drewN_new _ _)⟩
                          · have g3 : ((ac : Int) == 0) = false := beq_eq_false_iff_ne.2 (by omega)
                            clear ha2 hac
                            go_quiet (fail)
                            go_wp2_with fail
                            go_meet
                            exact ⟨rfl, HN5.out.trans (drewN_new _ _)⟩
                    case rest =>
                      obtain ⟨rfl, hn6⟩ := hcut
                      have HB1 := Lib.hid (HA1.out.new_ hn6); have HB2 := Lib.hid (HA2.out.new_ hn6); have HMB := Lib.hid (HMR.out.trans (Mod.of_new hn6 (fun k => k = b1 ∨ k = b2)) (fun _ h _ => h))
                      have f1 := HB1.out.frozen q; have f2 := HB2.out.frozen q
                      have d1 := HB1.out.cell (i := q) (by omega)
                      have d2 := HB2.out.cell (i := q) (by omega)
                      rw [E1.out] at d1; rw [E2.out] at d2
                      clear c1 c2
                      rcases Hcase.out with rfl | ⟨ha0, ha1, _⟩
                      · as_aux_lemma =>
                          have ht := Hn2.out rfl
                          have Ht := Lib.hid ht; clear ht
                          go_wp2
                          go_roundw
                          case rel => exact ⟨i + 1, _, _, by omega, by go_num, Ht.out, HB1.out.set (by omega) _, HB2.out.far (fun e => hb12 e.symm) _, HMB.out.trans (mod_set _ b1 q _) (fun _ h _ => .inl h)⟩
                          case measure => simp [intOf]; omega
                      · as_aux_lemma =>
                          have ht := Hn1.out ha0
                          have Ht := Lib.hid ht; clear ht
                          go_wp2
                          go_roundw
                          case rel => exact ⟨i + 1, _, _, by omega, by go_num, Ht.out, (HB1.out.far hb12 _).set (by omega) _, (HB2.out.set (by omega) _).far (fun e => hb12 e.symm) _, (HMB.out.trans (mod_set _ b2 q _) (fun _ h _ => .inr h)).trans (mod_set _ b1 q _) (fun _ h _ => .inl h)⟩
                          case measure => simp [intOf]; omega
                · as_aux_lemma =>
                    obtain rfl : i = out.length := by omega
                    obtain ⟨hT9, hrg⟩ := Hend.out S' D' HS.out
                    rw [show ((now : Nat) : Int) + 1 = ((now + 1 : Nat) : Int) from by omega] at hT9
                    have HT9 := Lib.hid hT9; have Hrg := Lib.hid hrg
                    have HW9 := Lib.hid (HWd.out.mod HMR.out (fun k hk h => by rcases h with h | h; exact (HF.out k hk).2.1 h; exact (HF.out k hk).2.2 h))
                    have HH9 := Lib.hid (Hhd.out.thenMod HMR.out (fun k hk => by rcases hk with h | h <;> omega))
                    clear hT9 hrg
                    go_wp2_with fail
                    go_loop [26] (fun u26 => ∃ n : Nat, ac < n ∧ n ≤ m + 1 ∧ u26 = .int .i64 n) (fun u26 => m + 1 - (intOf u26).toNat)
                    case atStart => exact ⟨ac + 1, by omega, by omega, by go_num⟩
                    case round =>
                      obtain ⟨n, hn0, hn1, rfl⟩ := hrel
                      by_cases hnm : n ≤ m
                      · obtain ⟨r1, r3, r2⟩ := Hrg.out n (by omega) hnm
                        have c0 := HA1.out.cell (i := n) (by omega)
                        generalize S' n = a at c0 r1 r2 r3
                        go_wp2
                        go_round
                        case rel => exact ⟨n + 1, by omega, by omega, by go_num⟩
                        case measure => simp [intOf]; omega
                      · go_wp2
                        go_roundw
                        case rel =>
                          (repeat apply Exists.intro)
                          refine ⟨?_, rfl⟩
                          exact ⟨now + 1, ac, dueW now s1, F, S', D', by omega, by go_num, rfl, HW9.out, HT9.out, fun h => Hak.out (by omega), HA1.out, HA2.out, HF.out, HH9.out⟩
                        case measure => simp [intOf]; omega
          · as_aux_lemma =>
              have hln := HT.out.last; have hle := HT.out.num.last
              have hb : ((s.l.length : Int) == (m : Int) - (acked : Int)) = true := by
                have : (s.l.length : Int) = (m : Int) - (acked : Int) := by omega
                rw [this]; exact beq_self_eq_true _
              have Hb := Lib.hid hb
              have hacm : acked ≤ m := by omega
              clear hln hle hb
              go_wp2_with fail
              refine (wopen_nat g s F _ HW.out).mono ?_
              rintro e wA ⟨rfl, rfl⟩
              have hb := Hb.out
              go_wp2
              go_ret
              exact ⟨rfl, HH.out⟩
end Go.Proofs.Ytkfcdfcoiglieaa
