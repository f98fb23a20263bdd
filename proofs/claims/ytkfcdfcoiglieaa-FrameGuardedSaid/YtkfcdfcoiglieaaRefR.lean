/- satchelref11.Read returns what the plain law says (under way). -/
import Derived.Test.YtkfcdfcoiglieaaRefR8
import Derived.BigQuiet
namespace Go.Proofs.Ytkfcdfcoiglieaa
open Go.RowKit

theorem errR_mid {b : List UInt8} (h1 : ¬ 1426 < b.length) (h2 : ¬ b.length < 26) : (checkL b = none → errR b = 210) ∧ ∀ x, checkL b = some x → errR b = errX x := by
  refine ⟨fun hc => ?_, fun x hc => ?_⟩ <;> (unfold errR; rw [if_neg h1, if_neg h2, hc])

def RReadPost (w : World) (b : List UInt8) (e : Ending) (w' : World) : Prop :=
  ∃ v', e = .returned (.tuple #[fv (readF b) v', .int .i64 (errR b)]) ∧ OwnE isB w' w.heap.size 5 v' ((readF b).body.map bv) ∧ New w w'
theorem rreadPost_bad {w w' : World} {b : List UInt8} {n : Int} (h : errR b = n) (h0 : n ≠ 0) (hn : New w w') :
    RReadPost w b (.returned (.tuple #[.agg #[.int .i64 0, .int .i64 0, .int .i64 0, .int .i64 0, .int .i64 0, .slice none 0 0], .int .i64 n])) w' := by
  have hr : readF b = Frm.zero := by unfold readF; rw [h, if_neg h0]
  exact ⟨.slice none 0 0, by rw [hr, h]; rfl, by rw [hr]; exact .inl (OwnP.nil _ _ _ _), hn⟩
theorem rreadPost_ok {w w' : World} {b x : List UInt8} {v : Value} (h : errR b = 0) (hx : x = b.take (b.length - 4)) (ho : OwnE isB w' w.heap.size 5 v ((frmOf x).body.map bv)) (hn : New w w') :
    RReadPost w b (.returned (.tuple #[fv (frmOf x) v, .int .i64 0])) w' := by
  have hr : readF b = frmOf x := by unfold readF; rw [h, if_pos rfl, hx]
  exact ⟨v, by rw [hr, h], by rw [hr]; exact ho, hn⟩
theorem inId_nat {n : Nat} : inId (n : Int) = true ↔ ¬ 2147483647 < n := by unfold inId; simp; omega
theorem errZ_n5 {x : List UInt8} (i : Nat) (h : inId ([(frmOf x).ses, (frmOf x).boot, (frmOf x).seq, (frmOf x).ack].getD i 0) = false) : errZ x = 5 := by
  have hz : ∀ n : Nat, inId (n : Int) = false → 2147483647 < n := fun n hn => by
    by_cases hc : 2147483647 < n
    · exact hc
    · rw [inId_nat.2 hc] at hn; cases hn
  unfold errZ
  match i, h with
  | 0, h => rw [if_pos (.inl (hz _ h))]
  | 1, h => rw [if_pos (.inr (.inl (hz _ h)))]
  | 2, h => rw [if_pos (.inr (.inr (.inl (hz _ h))))]
  | 3, h => rw [if_pos (.inr (.inr (.inr (hz _ h))))]
  | n + 4, h => exact absurd h (by simp [inId])
theorem in_mx {x : List UInt8} (h0 : inId (frmOf x).ses = true) (h1 : inId (frmOf x).boot = true) (h2 : inId (frmOf x).seq = true) (h3 : inId (frmOf x).ack = true) : ¬ 2147483647 < mx4 (frmOf x).ses (frmOf x).boot (frmOf x).seq (frmOf x).ack := by
  rw [mx4_lt]
  rintro (h | h | h | h)
  · exact inId_nat.1 h0 h
  · exact inId_nat.1 h1 h
  · exact inId_nat.1 h2 h
  · exact inId_nat.1 h3 h
theorem or2 (x : List UInt8) (hx : 22 ≤ x.length) : bits .or .i64 (((at_ x 20).toNat : Int) * 256) ((at_ x 21).toNat : Int) = ((num_ x 20 22 : Nat) : Int) := by
  have ha := (at_ x 20).toNat_lt; have hb := (at_ x 21).toNat_lt
  rw [show ((at_ x 20).toNat : Int) * 256 = (((at_ x 20).toNat * 256 : Nat) : Int) by omega, i64_or_nat _ _ (by omega) (by omega)]
  have := Nat.shiftLeft_add_eq_or_of_lt (a := (at_ x 20).toNat) (b := (at_ x 21).toNat) (i := 8) (by simp only [Nat.reducePow]; omega)
  rw [Nat.shiftLeft_eq] at this
  simp only [Nat.reducePow] at this
  rw [← this]
  have hd : (x.drop 20).take 2 = [at_ x 20, at_ x 21] := by
    rw [List.drop_eq_getElem_cons (by omega), List.take_succ_cons, List.drop_eq_getElem_cons (by omega), List.take_succ_cons, List.take_zero]
    simp [at_, show 20 < x.length by omega, show 21 < x.length by omega]
  unfold num_
  rw [hd]
  simp [numF]

set_option maxRecDepth 100000 in
set_option maxHeartbeats 3200000 in
theorem rreadf_any (v : Value) (b : List UInt8) (w : World) (h : RB w v b) (hb : b.length ≤ 1000000000) :
    Calls Try.prog 58 #[v] w (RReadPost w b) := by
  obtain ⟨A, c, rfl, hl1, hc1⟩ := h.shape
  have hN0 := New.alloc w (.cells #[.int .i64 0, .int .i64 0, .int .i64 0, .int .i64 0, .int .i64 0, .slice none 0 0] 47)
  have hB0 := Bk.ofNew w 47 #[.int .i64 0, .int .i64 0, .int .i64 0, .int .i64 0, .int .i64 0, .slice none 0 0]
  by_cases hlong : 1426 < b.length
  · have Hr : Hid (errR b = 3) := Lib.hid (by unfold errR; rw [if_pos hlong])
    go_enter Try.func58, Try.ntmps58
    go_wp2
    refine bodyPost_ret (results_read Try.results58 (f := Frm.zero) hB0 rfl rfl) rfl ?_
    exact rreadPost_bad Hr.out (by decide) hN0
  · by_cases hshort : b.length < 26
    · have Hr : Hid (errR b = 4) := Lib.hid (by unfold errR; rw [if_neg hlong, if_pos hshort])
      go_enter Try.func58, Try.ntmps58
      go_wp2
      refine bodyPost_ret (results_read Try.results58 (f := Frm.zero) hB0 rfl rfl) rfl ?_
      exact rreadPost_bad Hr.out (by decide) hN0
    · have herr := errR_mid hlong hshort
      have hgs : w.heap.size < (w.alloc (.cells #[.int .i64 0, .int .i64 0, .int .i64 0, .int .i64 0, .int .i64 0, .slice none 0 0] 47)).heap.size := by simp
      have hchk := rcheck_any (.slice A b.length c) b (w.alloc (.cells #[.int .i64 0, .int .i64 0, .int .i64 0, .int .i64 0, .int .i64 0, .slice none 0 0] 47)) (h.new_ hN0) hb
      unfold CheckPost at hchk
      cases hc : checkL b with
      | none =>
        rw [hc] at hchk
        have herr := herr.1 hc
        have Hr := Lib.hid herr; clear herr
        have Hchk := Lib.hid hchk; clear hchk
        clear hc
        go_enter Try.func58, Try.ntmps58
        go_wp2_with fail
        refine Hchk.out.mono ?_
        rintro e w1 ⟨v1, rfl, hown1, hn1⟩
        have hB1 := hB0.new_ hn1
        have hlt1 := hB1.lt
        have k0 := hB1.cellAt (i := 0) rfl
        have k1 := hB1.cellAt (i := 1) rfl
        have k2 := hB1.cellAt (i := 2) rfl
        have k3 := hB1.cellAt (i := 3) rfl
        have k4 := hB1.cellAt (i := 4) rfl
        have k5 := hB1.cellAt (i := 5) rfl
        have kf := hB1.frozen
        simp only [errOf, Option.isSome]
        go_wp2
        refine bodyPost_ret (results_read Try.results58 (f := Frm.zero) (bk6 hB1 _ _ _ _ _ _) rfl rfl) rfl ?_
        exact rreadPost_bad Hr.out (by decide) (new6 (hN0.trans hn1) (Nat.le_refl _) _ _ _ _ _ _)
      | some x =>
        rw [hc] at hchk
        have herr := herr.2 x hc
        have hxl : x.length = b.length - 4 ∧ x = b.take (b.length - 4) := checkL_len hc
        obtain ⟨hxl, hxe⟩ := hxl
        have Hxe := Lib.hid hxe; clear hxe
        have Hr := Lib.hid herr; clear herr
        have Hchk := Lib.hid hchk; clear hchk
        clear hc
        have hx1 : 22 ≤ x.length := by omega
        have hx2 : x.length ≤ 1422 := by omega
        clear hxl
        go_enter Try.func58, Try.ntmps58
        go_wp2_with fail
        refine Hchk.out.mono ?_
        rintro e w1 ⟨v1, rfl, hown1, hn1⟩
        have hB1 := hB0.new_ hn1
        have hlt1 := hB1.lt
        have k0 := hB1.cellAt (i := 0) rfl
        have k1 := hB1.cellAt (i := 1) rfl
        have k2 := hB1.cellAt (i := 2) rfl
        have k3 := hB1.cellAt (i := 3) rfl
        have k4 := hB1.cellAt (i := 4) rfl
        have k5 := hB1.cellAt (i := 5) rfl
        have kf := hB1.frozen
        have hN1 := hN0.trans hn1
        simp only [errOf, Option.isSome]
        have hown := hown1
        simp only [Option.getD_some] at hown
        clear hown1 Hchk
        obtain ⟨A1, c1, rfl, hl1, hc1, hxo⟩ := hown.rb.open
        obtain ⟨bk, o, rfl, hxs⟩ := hxo (by omega)
        have x0 : w1.cell? ⟨bk, o, none⟩ = some (bv (at_ x 0)) := by simpa using hxs 0 _ (at_get (x := x) (i := 0) (by omega))
        have x1 := hxs 1 _ (at_get (x := x) (i := 1) (by omega))
        have x2 := hxs 2 _ (at_get (x := x) (i := 2) (by omega))
        have x3 := hxs 3 _ (at_get (x := x) (i := 3) (by omega))
        have y20 := hxs 20 _ (at_get (x := x) (i := 20) (by omega))
        have y21 := hxs 21 _ (at_get (x := x) (i := 21) (by omega))
        clear hxs hxo
        have hS := hown.rb
        go_upto_region 8 with fail
        have HB1 := Lib.hid hB1
        clear k0 k1 k2 k3 k4 k5 kf hB1 hB0
        go_cut [6] (fun s6 wx => ∃ (g : Nat) (v' : Value), s6 = .pointer (some ⟨g, 0, none⟩) ∧ Bk wx g 47 #[.int .i64 (frmOf x).typ, .int .i64 (frmOf x).ses, .int .i64 (frmOf x).boot, .int .i64 (frmOf x).seq, .int .i64 (frmOf x).ack, v'] ∧ OwnE isB wx w.heap.size 5 v' ((frmOf x).body.map bv) ∧ New w1 wx)
        case first =>
          refine region588 x bk o c1 w.heap.size _ (by rfl) w1 (by rfl) hS x3 hx1 hx2 hl1 hc1 hN1.size ?_
          intro vals wr g A2 c2 e21 hBg hE hnr
          simp only [fillAll, B588, List.foldl_cons, List.foldl_nil, Act.put, List.setIfInBounds_toArray, List.set_cons_zero, List.set_cons_succ]
          rw [e21]
          clear e21
          go_wp2_with fail
          go_meet
          exact ⟨_, _, rfl, hBg, hE, hnr⟩
        case rest =>
          obtain ⟨g, v', rfl, hB2, hE2, hN2⟩ := hcut
          have hB3 := HB1.out.new_ hN2
          have hN3 := hN1.trans hN2
          have x0' := hN2.cell x0
          have x1' := hN2.cell x1
          have x2' := hN2.cell x2
          clear x0 x1 x2 x3 hlt1 HB1
          have k0 := hB3.cellAt (i := 0) rfl
          have k1 := hB3.cellAt (i := 1) rfl
          have k2 := hB3.cellAt (i := 2) rfl
          have k3 := hB3.cellAt (i := 3) rfl
          have k4 := hB3.cellAt (i := 4) rfl
          have k5 := hB3.cellAt (i := 5) rfl
          have kf := hB3.frozen
          have m0 := hB2.cellAt (i := 0) rfl
          have m1 := hB2.cellAt (i := 1) rfl
          have m2 := hB2.cellAt (i := 2) rfl
          have m3 := hB2.cellAt (i := 3) rfl
          have m4 := hB2.cellAt (i := 4) rfl
          have m5 := hB2.cellAt (i := 5) rfl
          by_cases h0 : at_ x 0 = 83
          rotate_left
          · have Hx := Lib.hid (errX_211 (x := x) (.inl h0))
            have b0 : (((at_ x 0).toNat : Int) != 83) = true := ne_u8 h0
            clear h0
            go_wp2
            refine bodyPost_ret (results_read Try.results58 (f := Frm.zero) (bk6 hB3 _ _ _ _ _ _) rfl rfl) rfl ?_
            exact rreadPost_bad (Hr.out.trans Hx.out) (by decide) (new6 hN3 (Nat.le_refl _) _ _ _ _ _ _)
          have b0 : (((at_ x 0).toNat : Int) != 83) = false := by rw [h0]; rfl
          by_cases h1 : at_ x 1 = 75
          rotate_left
          · have Hx := Lib.hid (errX_211 (x := x) (.inr h1))
            have b1 : (((at_ x 1).toNat : Int) != 75) = true := ne_u8 h1
            clear h0 h1
            go_wp2
            refine bodyPost_ret (results_read Try.results58 (f := Frm.zero) (bk6 hB3 _ _ _ _ _ _) rfl rfl) rfl ?_
            exact rreadPost_bad (Hr.out.trans Hx.out) (by decide) (new6 hN3 (Nat.le_refl _) _ _ _ _ _ _)
          have b1 : (((at_ x 1).toNat : Int) != 75) = false := by rw [h1]; rfl
          by_cases h2 : at_ x 2 = 1
          rotate_left
          · have Hx := Lib.hid (errX_212 h0 h1 h2)
            have b2 : (((at_ x 2).toNat : Int) != 1) = true := ne_u8 h2
            clear h0 h1 h2
            go_wp2
            refine bodyPost_ret (results_read Try.results58 (f := Frm.zero) (bk6 hB3 _ _ _ _ _ _) rfl rfl) rfl ?_
            exact rreadPost_bad (Hr.out.trans Hx.out) (by decide) (new6 hN3 (Nat.le_refl _) _ _ _ _ _ _)
          have b2 : (((at_ x 2).toNat : Int) != 1) = false := by rw [h2]; rfl
          have Hx := Lib.hid (errX_ok h0 h1 h2); clear h0 h1 h2
          go_wp2_with fail
          refine (typed_any _ _).mono ?_
          rintro e w4 ⟨rfl, rfl⟩
          cases ht : knownB (frmOf x).typ with
          | false =>
            have Hy := Lib.hid (errY_213 ht)
            go_wp2
            refine bodyPost_ret (results_read Try.results58 (f := Frm.zero) (bk6 hB3 _ _ _ _ _ _) rfl rfl) rfl ?_
            exact rreadPost_bad ((Hr.out.trans Hx.out).trans Hy.out) (by decide) (new6 hN3 (Nat.le_refl _) _ _ _ _ _ _)
          | true =>
          have Hy := Lib.hid (errY_ok ht)
          have Ht := Lib.hid ht
          clear ht
          go_wp2_with fail
          refine (within_any _ _).mono ?_
          rintro e wt0 ⟨rfl, rfl⟩
          cases t0 : inId (frmOf x).ses with
          | false =>
            have Hz := Lib.hid (errZ_n5 0 t0)
            clear t0
            go_wp2
            refine bodyPost_ret (results_read Try.results58 (f := Frm.zero) (bk6 hB3 _ _ _ _ _ _) rfl rfl) rfl ?_
            exact rreadPost_bad (((Hr.out.trans Hx.out).trans Hy.out).trans Hz.out) (by decide) (new6 hN3 (Nat.le_refl _) _ _ _ _ _ _)
          | true =>
          go_wp2_with fail
          refine (within_any _ _).mono ?_
          rintro e wt1 ⟨rfl, rfl⟩
          cases t1 : inId (frmOf x).boot with
          | false =>
            have Hz := Lib.hid (errZ_n5 1 t1)
            clear t1
            go_wp2
            refine bodyPost_ret (results_read Try.results58 (f := Frm.zero) (bk6 hB3 _ _ _ _ _ _) rfl rfl) rfl ?_
            exact rreadPost_bad (((Hr.out.trans Hx.out).trans Hy.out).trans Hz.out) (by decide) (new6 hN3 (Nat.le_refl _) _ _ _ _ _ _)
          | true =>
          go_wp2_with fail
          refine (within_any _ _).mono ?_
          rintro e wt2 ⟨rfl, rfl⟩
          cases t2 : inId (frmOf x).seq with
          | false =>
            have Hz := Lib.hid (errZ_n5 2 t2)
            clear t2
            go_wp2
            refine bodyPost_ret (results_read Try.results58 (f := Frm.zero) (bk6 hB3 _ _ _ _ _ _) rfl rfl) rfl ?_
            exact rreadPost_bad (((Hr.out.trans Hx.out).trans Hy.out).trans Hz.out) (by decide) (new6 hN3 (Nat.le_refl _) _ _ _ _ _ _)
          | true =>
          go_wp2_with fail
          refine (within_any _ _).mono ?_
          rintro e wt3 ⟨rfl, rfl⟩
          cases t3 : inId (frmOf x).ack with
          | false =>
            have Hz := Lib.hid (errZ_n5 3 t3)
            clear t3
            go_wp2
            refine bodyPost_ret (results_read Try.results58 (f := Frm.zero) (bk6 hB3 _ _ _ _ _ _) rfl rfl) rfl ?_
            exact rreadPost_bad (((Hr.out.trans Hx.out).trans Hy.out).trans Hz.out) (by decide) (new6 hN3 (Nat.le_refl _) _ _ _ _ _ _)
          | true =>
          have Hin := Lib.hid (in_mx t0 t1 t2 t3)
          have hq : 0 ≤ (frmOf x).seq := by show (0 : Int) ≤ ((num_ x 12 16 : Nat) : Int); omega
          have c20 := (hN2.cell y20)
          have c21 := (hN2.cell y21)
          clear t0 t1 t2 t3 y20 y21
          have i20 : (20 : Int) < (x.length : Int) := by omega
          have i21 : (21 : Int) < (x.length : Int) := by omega
          have t20 : (at_ x 20).toNat < 256 := (at_ x 20).toNat_lt
          have t21 : (at_ x 21).toNat < 256 := (at_ x 21).toNat_lt
          obtain ⟨A2, c2, rfl⟩ := hE2.shape
          go_upto_region 17 with fail
          go_quiet (fail)
          rw [or2 x hx1]
          have hNq := drewN_new wc nq
          generalize wc.drewN nq = wy at hNq ⊢
          have hlen : ((frmOf x).body.map bv).length = x.length - 22 := by rw [List.length_map]; unfold frmOf; simp
          have hlen2 : (frmOf x).body.length = x.length - 22 := by unfold frmOf; simp
          rw [hlen2]
          clear hlen2
          clear k0 k1 k2 k3 k4 k5 kf m0 m1 m2 m3 m4 m5 x0' x1' x2' c20 c21
          have hB4 := hB3.new_ hNq
          have hB5 := hB2.new_ hNq
          have hN4 := hN3.trans hNq
          have hE4 := hE2.new_ hNq
          rw [hlen] at hB5 hE4
          clear hlen
          clear hB2 hB3 hE2
          have k0 := hB4.cellAt (i := 0) rfl
          have k1 := hB4.cellAt (i := 1) rfl
          have k2 := hB4.cellAt (i := 2) rfl
          have k3 := hB4.cellAt (i := 3) rfl
          have k4 := hB4.cellAt (i := 4) rfl
          have k5 := hB4.cellAt (i := 5) rfl
          have kf := hB4.frozen
          have m0 := hB5.cellAt (i := 0) rfl
          have m1 := hB5.cellAt (i := 1) rfl
          have m2 := hB5.cellAt (i := 2) rfl
          have m3 := hB5.cellAt (i := 3) rfl
          have m4 := hB5.cellAt (i := 4) rfl
          have m5 := hB5.cellAt (i := 5) rfl
          by_cases h20 : num_ x 20 22 = x.length - 22
          rotate_left
          · have Hz := Lib.hid (errZ_214 (Int.not_lt.2 Hin.out) h20)
            have b20 : (((x.length - 22 : Nat) : Int) != ((num_ x 20 22 : Nat) : Int)) = true := by rw [bne_iff_ne]; omega
            clear h20
            go_wp2
            refine bodyPost_ret (results_read Try.results58 (f := Frm.zero) (bk6 hB4 _ _ _ _ _ _) rfl rfl) rfl ?_
            exact rreadPost_bad (((Hr.out.trans Hx.out).trans Hy.out).trans Hz.out) (by decide) (new6 hN4 (Nat.le_refl _) _ _ _ _ _ _)
          have b20 : (((x.length - 22 : Nat) : Int) != ((num_ x 20 22 : Nat) : Int)) = false := by rw [h20]; simp
          have H20 := Lib.hid h20; clear h20
          have hRB4 : RB wy (.slice A2 (x.length - 22) c2) (frmOf x).body := hE4.rd
          go_wp2_with fail
          refine (says_any (frmOf x) _ _ hRB4 Ht.out hq).mono ?_
          rintro e w5 ⟨rfl, hn5⟩
          clear k0 k1 k2 k3 k4 k5 kf m0 m1 m2 m3 m4 m5
          have hB6 := hB4.new_ hn5
          have hB7 := hB5.new_ hn5
          have hN5 := hN4.trans hn5
          have hE5 := hE4.new_ hn5
          have k0 := hB6.cellAt (i := 0) rfl
          have k1 := hB6.cellAt (i := 1) rfl
          have k2 := hB6.cellAt (i := 2) rfl
          have k3 := hB6.cellAt (i := 3) rfl
          have k4 := hB6.cellAt (i := 4) rfl
          have k5 := hB6.cellAt (i := 5) rfl
          have kf := hB6.frozen
          have m0 := hB7.cellAt (i := 0) rfl
          have m1 := hB7.cellAt (i := 1) rfl
          have m2 := hB7.cellAt (i := 2) rfl
          have m3 := hB7.cellAt (i := 3) rfl
          have m4 := hB7.cellAt (i := 4) rfl
          have m5 := hB7.cellAt (i := 5) rfl
          cases has : asF (frmOf x) with
          | true =>
            have Hz := Lib.hid (errZ_0 (Int.not_lt.2 Hin.out) H20.out has)
            clear has
            go_wp2
            refine bodyPost_ret (results_read Try.results58 (f := frmOf x) (bk6 hB6 _ _ _ _ _ _) rfl rfl) rfl ?_
            exact rreadPost_ok (((Hr.out.trans Hx.out).trans Hy.out).trans Hz.out) Hxe.out (keepE6 hE5 hB6 _ _ _ _ _ _) (new6 hN5 (Nat.le_refl _) _ _ _ _ _ _)
          | false =>
            have Hz := Lib.hid (errZ_2 (Int.not_lt.2 Hin.out) H20.out has)
            clear has
            go_wp2
            refine bodyPost_ret (results_read Try.results58 (f := Frm.zero) (bk6 hB6 _ _ _ _ _ _) rfl rfl) rfl ?_
            exact rreadPost_bad (((Hr.out.trans Hx.out).trans Hy.out).trans Hz.out) (by decide) (new6 hN5 (Nat.le_refl _) _ _ _ _ _ _)
end Go.Proofs.Ytkfcdfcoiglieaa
