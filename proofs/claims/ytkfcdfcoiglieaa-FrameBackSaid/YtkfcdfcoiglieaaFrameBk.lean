/- satchellaw11.FrameBack returns true. Conditions: the frame's body and the bytes read as bytes. -/
import Derived.Test.YtkfcdfcoiglieaaFrameQ
namespace Go.Proofs.Ytkfcdfcoiglieaa
open Go.RowKit

theorem read_ok {b : List UInt8} (h : errR b = 0) (v : Value) (w : World) (hr : RB w v b) (hl : b.length ≤ 1000000000) :
    Calls Try.prog 57 #[v] w fun e w' => ∃ v', e = .returned (.tuple #[fv (readF b) v', .int .i64 0]) ∧ RB w' v' (readF b).body ∧ New w w' :=
  (readf_any v b w hr hl).mono fun e w' ⟨v', he, ho, hn⟩ => ⟨v', by rw [he, h], ho.rb, hn⟩

set_option maxRecDepth 100000 in
set_option maxHeartbeats 4000000 in
theorem back_law (f : Frm) (vb v1 : Value) (b : List UInt8) (w : World) (hf : RB w vb f.body) (hb : RB w v1 b) :
    Calls Try.prog 14 #[fv f vb, v1] w fun e w' => e = .returned (.bool true) ∧ New w w' := by
  obtain ⟨A0, c0, rfl, h01, h02⟩ := hf.shape
  obtain ⟨A1, c1, rfl, h11, h12⟩ := hb.shape
  have hB0 := Bk.ofNew w 47 #[.int .i64 f.typ, .int .i64 f.ses, .int .i64 f.boot, .int .i64 f.seq, .int .i64 f.ack, .slice A0 f.body.length c0]
  have hN0 := New.alloc w (.cells #[.int .i64 f.typ, .int .i64 f.ses, .int .i64 f.boot, .int .i64 f.seq, .int .i64 f.ack, .slice A0 f.body.length c0] 47)
  by_cases hlf : (2000 : Int) < (f.body.length : Int)
  · go_enter Try.func14, Try.ntmps14
    go_wp2_with fail
    refine (awake11 _).mono ?_
    rintro e w1 ⟨rfl, hn1⟩
    have m5 := (hB0.new_ hn1).cellAt (i := 5) rfl
    go_wp2
    go_ret
    exact ⟨rfl, hN0.trans hn1⟩
  by_cases hlb : (2000 : Int) < (b.length : Int)
  · go_enter Try.func14, Try.ntmps14
    go_wp2_with fail
    refine (awake11 _).mono ?_
    rintro e w1 ⟨rfl, hn1⟩
    have m5 := (hB0.new_ hn1).cellAt (i := 5) rfl
    go_wp2
    go_ret
    exact ⟨rfl, hN0.trans hn1⟩
  go_enter Try.func14, Try.ntmps14
  go_wp2_with fail
  refine (awake11 _).mono ?_
  rintro e w1 ⟨rfl, hn1⟩
  have hB1 := hB0.new_ hn1
  have hm1 := hN0.trans hn1
  have hf1 := hf.new_ hm1
  have m0 := hB1.cellAt (i := 0) rfl
  have m1 := hB1.cellAt (i := 1) rfl
  have m2 := hB1.cellAt (i := 2) rfl
  have m3 := hB1.cellAt (i := 3) rfl
  have m4 := hB1.cellAt (i := 4) rfl
  have m5 := hB1.cellAt (i := 5) rfl
  go_wp2_with fail
  by_cases hok : checkF f = 0
  · have hl := checkF_ok hok
    have Hl2 := Lib.hid (length_putL (headOf f))
    have Hl1 := Lib.hid (length_headOf f)
    have Hread := Lib.hid (fun (v : Value) (w : World) (h : RB w v (putL (headOf f))) => read_ok (errR_lay hok) v w h (by rw [length_putL, length_headOf]; omega))
    rw [readF_lay hok] at Hread
    have Hok := Lib.hid hok
    refine (put_ok hok _ _ hf1).mono ?_
    rintro e w2 ⟨v2, rfl, ho2, hn2⟩
    clear m0 m1 m2 m3 m4 m5 hok
    obtain ⟨A2, c2, rfl, h21, h22⟩ := ho2.shape (n := 26 + f.body.length) (by rw [Hl2.out, Hl1.out]; omega)
    have hB2 := hB1.new_ hn2
    have hm2 := hm1.trans hn2
    have m0 := hB2.cellAt (i := 0) rfl
    have m1 := hB2.cellAt (i := 1) rfl
    have m2 := hB2.cellAt (i := 2) rfl
    have m3 := hB2.cellAt (i := 3) rfl
    have m4 := hB2.cellAt (i := 4) rfl
    have m5 := hB2.cellAt (i := 5) rfl
    go_wp2_with fail
    refine (checkf_any f _ _ (hf1.new_ hn2)).mono ?_
    rintro e w3 ⟨rfl, hn3⟩
    rw [Hok.out]
    clear m0 m1 m2 m3 m4 m5
    have hB3 := hB2.new_ hn3
    have hm3 := hm2.trans hn3
    have ho3 := ho2.new_ hn3
    go_wp2_with fail
    refine (Hread.out _ _ ho3.rb).mono ?_
    rintro e w4 ⟨v4, rfl, hr4, hn4⟩
    obtain ⟨A4, c4, rfl, _, _⟩ := hr4.shape
    have hB4 := (hB3.new_ hn4).alloc (.cells #[.int .i64 f.typ, .int .i64 f.ses, .int .i64 f.boot, .int .i64 f.seq, .int .i64 f.ack, .slice A4 f.body.length c4] 47)
    have hC4 := Bk.ofNew w4 47 #[.int .i64 f.typ, .int .i64 f.ses, .int .i64 f.boot, .int .i64 f.seq, .int .i64 f.ack, .slice A4 f.body.length c4]
    have hn4' := hn4.trans (New.alloc w4 (.cells #[.int .i64 f.typ, .int .i64 f.ses, .int .i64 f.boot, .int .i64 f.seq, .int .i64 f.ack, .slice A4 f.body.length c4] 47))
    have hr4' := hr4.new_ (New.alloc w4 (.cells #[.int .i64 f.typ, .int .i64 f.ses, .int .i64 f.boot, .int .i64 f.seq, .int .i64 f.ack, .slice A4 f.body.length c4] 47))
    go_wp2_with fail
    refine (check_put _ (headOf f) _ (ho3.new_ hn4').rb (by rw [Hl1.out]; omega)).mono ?_
    rintro e w5 ⟨v5, rfl, ho5, hn5⟩
    obtain ⟨A5, c5, rfl, h51, h52⟩ := ho5.shape (n := 22 + f.body.length) Hl1.out
    have hB5 := hB4.new_ hn5
    have hC5 := hC4.new_ hn5
    have hm5 := (hm3.trans hn4').trans hn5
    have m0 := hB5.cellAt (i := 0) rfl
    have m1 := hB5.cellAt (i := 1) rfl
    have m2 := hB5.cellAt (i := 2) rfl
    have m3 := hB5.cellAt (i := 3) rfl
    have m4 := hB5.cellAt (i := 4) rfl
    have m5 := hB5.cellAt (i := 5) rfl
    have k0 := hC5.cellAt (i := 0) rfl
    have k1 := hC5.cellAt (i := 1) rfl
    have k2 := hC5.cellAt (i := 2) rfl
    have k3 := hC5.cellAt (i := 3) rfl
    have k4 := hC5.cellAt (i := 4) rfl
    have k5 := hC5.cellAt (i := 5) rfl
    go_wp2_with fail
    refine (samef_any f f _ _ _ (hr4'.new_ hn5) (hf.new_ hm5)).mono ?_
    rintro e w6 ⟨rfl, hn6⟩
    rw [sameF_refl]
    clear m0 m1 m2 m3 m4 m5 k0 k1 k2 k3 k4 k5
    have hB6 := hB5.new_ hn6
    have hm6 := hm5.trans hn6
    have m5 := hB6.cellAt (i := 5) rfl
    go_upto_region 12 with fail
    cases hr : decide (errR b = 0) with
    | true =>
      have hr0 : errR b = 0 := of_decide_eq_true hr
      obtain ⟨hc0, hp0⟩ := back hr0
      have Hread := Lib.hid (read_ok hr0 (.slice A1 b.length c1))
      have Hput := Lib.hid (fun (v : Value) (w : World) => put_ok hc0 v w)
      rw [hp0] at Hput
      generalize readF b = y at Hread Hput
      clear hr hr0 hc0 hp0
      have hb9 := hb.new_ hm6
      go_wp2_with fail
      refine (Hread.out _ hb9 (by omega)).mono ?_
      rintro e w10 ⟨v10, rfl, hr10, hn10⟩
      obtain ⟨A10, c10, rfl, _, _⟩ := hr10.shape
      have hn11 := hn10.trans (New.alloc w10 (.cells #[.int .i64 y.typ, .int .i64 y.ses, .int .i64 y.boot, .int .i64 y.seq, .int .i64 y.ack, .slice A10 y.body.length c10] 47))
      go_wp2_with fail
      refine (Hput.out (.slice A10 y.body.length c10) _ (hr10.new_ (New.alloc w10 _))).mono ?_
      rintro e w12 ⟨v12, rfl, ho12, hn12⟩
      go_wp2_with fail
      refine (same_any _ _ b b _ ho12.rb ((hb9.new_ hn11).new_ hn12)).mono ?_
      rintro e w13 ⟨rfl, rfl⟩
      go_wp2
      go_ret
      exact ⟨by simp, (hm6.trans hn11).trans hn12⟩
    | false =>
      have hr0 : errR b ≠ 0 := of_decide_eq_false hr
      have Hread := Lib.hid (readf_bad (b := b) rfl hr0 (.slice A1 b.length c1))
      have hbn : (errR b != 0) = true := bne_iff_ne.2 hr0
      generalize errR b = n at Hread hbn
      clear hr hr0
      have hb9 := hb.new_ hm6
      go_wp2_with fail
      refine (Hread.out _ hb9 (by omega)).mono ?_
      rintro e w10 ⟨v10, rfl, hr10, hn10⟩
      obtain ⟨A10, c10, rfl, _, _⟩ := hr10.shape
      go_wp2_with fail
      refine (samef_any Frm.zero Frm.zero (.slice A10 0 c10) (.slice none 0 0) _ (hr10.new_ (New.alloc w10 _)) (RB.nil _)).mono ?_
      rintro e w11 ⟨rfl, hn11⟩
      rw [sameF_refl]
      go_wp2
      go_ret
      exact ⟨rfl, ((hm6.trans hn10).trans (New.alloc w10 _)).trans hn11⟩
  · have hne : (checkF f == 0) = false := beq_eq_false_iff_ne.2 hok
    refine (put_bad rfl hok _ _ hf1).mono ?_
    rintro e w2 ⟨v2, rfl, hr2, hn2⟩
    clear m0 m1 m2 m3 m4 m5
    have hB2 := hB1.new_ hn2
    have hm2 := hm1.trans hn2
    have m0 := hB2.cellAt (i := 0) rfl
    have m1 := hB2.cellAt (i := 1) rfl
    have m2 := hB2.cellAt (i := 2) rfl
    have m3 := hB2.cellAt (i := 3) rfl
    have m4 := hB2.cellAt (i := 4) rfl
    have m5 := hB2.cellAt (i := 5) rfl
    go_wp2_with fail
    refine (checkf_any f _ _ (hf1.new_ hn2)).mono ?_
    rintro e w3 ⟨rfl, hn3⟩
    have hm3 := hm2.trans hn3
    clear m0 m1 m2 m3 m4 m5
    generalize checkF f = k at hne hok ⊢
    go_upto_region 12 with fail
    cases hr : decide (errR b = 0) with
    | true =>
      have hr0 : errR b = 0 := of_decide_eq_true hr
      obtain ⟨hc0, hp0⟩ := back hr0
      have Hread := Lib.hid (read_ok hr0 (.slice A1 b.length c1))
      have Hput := Lib.hid (fun (v : Value) (w : World) => put_ok hc0 v w)
      rw [hp0] at Hput
      generalize readF b = y at Hread Hput
      clear hr hr0 hc0 hp0
      have hb9 := hb.new_ hm3
      go_wp2_with fail
      refine (Hread.out _ hb9 (by omega)).mono ?_
      rintro e w10 ⟨v10, rfl, hr10, hn10⟩
      obtain ⟨A10, c10, rfl, _, _⟩ := hr10.shape
      have hn11 := hn10.trans (New.alloc w10 (.cells #[.int .i64 y.typ, .int .i64 y.ses, .int .i64 y.boot, .int .i64 y.seq, .int .i64 y.ack, .slice A10 y.body.length c10] 47))
      go_wp2_with fail
      refine (Hput.out (.slice A10 y.body.length c10) _ (hr10.new_ (New.alloc w10 _))).mono ?_
      rintro e w12 ⟨v12, rfl, ho12, hn12⟩
      go_wp2_with fail
      refine (same_any _ _ b b _ ho12.rb ((hb9.new_ hn11).new_ hn12)).mono ?_
      rintro e w13 ⟨rfl, rfl⟩
      go_wp2
      go_ret
      exact ⟨by simp, (hm3.trans hn11).trans hn12⟩
    | false =>
      have hr0 : errR b ≠ 0 := of_decide_eq_false hr
      have Hread := Lib.hid (readf_bad (b := b) rfl hr0 (.slice A1 b.length c1))
      have hbn : (errR b != 0) = true := bne_iff_ne.2 hr0
      generalize errR b = n at Hread hbn
      clear hr hr0
      have hb9 := hb.new_ hm3
      go_wp2_with fail
      refine (Hread.out _ hb9 (by omega)).mono ?_
      rintro e w10 ⟨v10, rfl, hr10, hn10⟩
      obtain ⟨A10, c10, rfl, _, _⟩ := hr10.shape
      go_wp2_with fail
      refine (samef_any Frm.zero Frm.zero (.slice A10 0 c10) (.slice none 0 0) _ (hr10.new_ (New.alloc w10 _)) (RB.nil _)).mono ?_
      rintro e w11 ⟨rfl, hn11⟩
      rw [sameF_refl]
      go_wp2
      go_ret
      exact ⟨rfl, ((hm3.trans hn10).trans (New.alloc w10 _)).trans hn11⟩
end Go.Proofs.Ytkfcdfcoiglieaa
