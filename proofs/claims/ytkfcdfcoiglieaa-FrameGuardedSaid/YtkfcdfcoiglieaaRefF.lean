/- satchelref11.typed, within, says return what the plain law says. Conditions: a frame's body reads as bytes; its number is from 0 on. -/
import Derived.Test.YtkfcdfcoiglieaaFrameC
namespace Go.Proofs.Ytkfcdfcoiglieaa
open Go.RowKit

set_option maxRecDepth 100000 in
set_option maxHeartbeats 400000 in
theorem typed_any (t : Int) (w : World) : Calls Try.prog 89 #[.int .i64 t] w fun e w' => e = .returned (.bool (knownB t)) ∧ w = w' := by
  by_cases h1 : 1 ≤ t
  · by_cases h2 : t ≤ 5
    · have hd : Hid (knownB t = true) := decide_eq_true ⟨h1, h2⟩
      go_enter Try.func89, Try.ntmps89
      go_wp2
      go_ret
      exact ⟨by rw [hd.out]; rfl, rfl⟩
    · have hd : Hid (knownB t = false) := decide_eq_false (fun h => h2 h.2)
      go_enter Try.func89, Try.ntmps89
      go_wp2
      go_ret
      exact ⟨by rw [hd.out]; rfl, rfl⟩
  · have hd : Hid (knownB t = false) := decide_eq_false (fun h => h1 h.1)
    go_enter Try.func89, Try.ntmps89
    go_wp2
    go_ret
    exact ⟨by rw [hd.out]; rfl, rfl⟩
set_option maxRecDepth 100000 in
set_option maxHeartbeats 400000 in
theorem within_any (t : Int) (w : World) : Calls Try.prog 90 #[.int .i64 t] w fun e w' => e = .returned (.bool (inId t)) ∧ w = w' := by
  by_cases h1 : 0 ≤ t
  · by_cases h2 : t ≤ 2147483647
    · have hd : Hid (inId t = true) := by simp [Hid, inId, h1, h2]
      go_enter Try.func90, Try.ntmps90
      go_wp2
      go_ret
      exact ⟨by rw [hd.out]; rfl, rfl⟩
    · have hd : Hid (inId t = false) := by simp [Hid, inId, h1, h2]
      go_enter Try.func90, Try.ntmps90
      go_wp2
      go_ret
      exact ⟨by rw [hd.out]; rfl, rfl⟩
  · have hd : Hid (inId t = false) := by simp [Hid, inId, h1]
    go_enter Try.func90, Try.ntmps90
    go_wp2
    go_ret
    exact ⟨by rw [hd.out]; rfl, rfl⟩

set_option maxRecDepth 100000 in
set_option maxHeartbeats 1600000 in
theorem says_1 (s b q a : Int) (vb : Value) (l : List UInt8) (w : World) (h : RB w vb l) (hq : 0 ≤ q) :
    Calls Try.prog 91 #[.agg #[.int .i64 1, .int .i64 s, .int .i64 b, .int .i64 q, .int .i64 a, vb]] w (AsPost w ⟨1, s, b, q, a, l⟩) := by
  obtain ⟨A, c, rfl, hl, hc⟩ := h.shape
  have hN0 := New.alloc w (.cells #[.int .i64 1, .int .i64 s, .int .i64 b, .int .i64 q, .int .i64 a, .slice A l.length c] 47)
  have hB := Bk.ofNew w 47 #[.int .i64 1, .int .i64 s, .int .i64 b, .int .i64 q, .int .i64 a, .slice A l.length c]
  go_enter Try.func91, Try.ntmps91
  go_upto_region 1 with fail
  generalize w.alloc (.cells #[.int .i64 1, .int .i64 s, .int .i64 b, .int .i64 q, .int .i64 a, .slice A l.length c] 47) = w1 at hB hN0 ⊢
  have m0 := hB.cellAt (i := 0) rfl
  have m1 := hB.cellAt (i := 1) rfl
  have m2 := hB.cellAt (i := 2) rfl
  have m3 := hB.cellAt (i := 3) rfl
  have m4 := hB.cellAt (i := 4) rfl
  have m5 := hB.cellAt (i := 5) rfl
  go_wp2
  all_goals
    go_ret
    refine asPost ?_ hN0
    clear hN0 h hB m0 m1 m2 m3 m4 m5
    simp_all [asF] <;> first | omega | (rintro rfl; simp_all) | (rw [Bool.eq_iff_iff]; simp; omega) | (rw [Bool.eq_iff_iff]; simp; exact ⟨fun h => h.2.2, fun h => ⟨by omega, by omega, h⟩⟩)

set_option maxRecDepth 100000 in
set_option maxHeartbeats 1600000 in
theorem says_2 (s b q a : Int) (vb : Value) (l : List UInt8) (w : World) (h : RB w vb l) (hq : 0 ≤ q) :
    Calls Try.prog 91 #[.agg #[.int .i64 2, .int .i64 s, .int .i64 b, .int .i64 q, .int .i64 a, vb]] w (AsPost w ⟨2, s, b, q, a, l⟩) := by
  obtain ⟨A, c, rfl, hl, hc⟩ := h.shape
  have hN0 := New.alloc w (.cells #[.int .i64 2, .int .i64 s, .int .i64 b, .int .i64 q, .int .i64 a, .slice A l.length c] 47)
  have hB := Bk.ofNew w 47 #[.int .i64 2, .int .i64 s, .int .i64 b, .int .i64 q, .int .i64 a, .slice A l.length c]
  go_enter Try.func91, Try.ntmps91
  go_upto_region 1 with fail
  generalize w.alloc (.cells #[.int .i64 2, .int .i64 s, .int .i64 b, .int .i64 q, .int .i64 a, .slice A l.length c] 47) = w1 at hB hN0 ⊢
  have m0 := hB.cellAt (i := 0) rfl
  have m1 := hB.cellAt (i := 1) rfl
  have m2 := hB.cellAt (i := 2) rfl
  have m3 := hB.cellAt (i := 3) rfl
  have m4 := hB.cellAt (i := 4) rfl
  have m5 := hB.cellAt (i := 5) rfl
  go_wp2
  all_goals
    go_ret
    refine asPost ?_ hN0
    clear hN0 h hB m0 m1 m2 m3 m4 m5
    simp_all [asF] <;> first | omega | (rintro rfl; simp_all) | (rw [Bool.eq_iff_iff]; simp; omega) | (rw [Bool.eq_iff_iff]; simp; exact ⟨fun h => h.2.2, fun h => ⟨by omega, by omega, h⟩⟩)

set_option maxRecDepth 100000 in
set_option maxHeartbeats 1600000 in
theorem says_3 (s b q a : Int) (vb : Value) (l : List UInt8) (w : World) (h : RB w vb l) (_hq : 0 ≤ q) :
    Calls Try.prog 91 #[.agg #[.int .i64 3, .int .i64 s, .int .i64 b, .int .i64 q, .int .i64 a, vb]] w (AsPost w ⟨3, s, b, q, a, l⟩) := by
  obtain ⟨A, c, rfl, hl, hc⟩ := h.shape
  have hN0 := New.alloc w (.cells #[.int .i64 3, .int .i64 s, .int .i64 b, .int .i64 q, .int .i64 a, .slice A l.length c] 47)
  have hB := Bk.ofNew w 47 #[.int .i64 3, .int .i64 s, .int .i64 b, .int .i64 q, .int .i64 a, .slice A l.length c]
  go_enter Try.func91, Try.ntmps91
  go_upto_region 1 with fail
  generalize w.alloc (.cells #[.int .i64 3, .int .i64 s, .int .i64 b, .int .i64 q, .int .i64 a, .slice A l.length c] 47) = w1 at hB hN0 ⊢
  have m0 := hB.cellAt (i := 0) rfl
  have m1 := hB.cellAt (i := 1) rfl
  have m2 := hB.cellAt (i := 2) rfl
  have m3 := hB.cellAt (i := 3) rfl
  have m4 := hB.cellAt (i := 4) rfl
  have m5 := hB.cellAt (i := 5) rfl
  go_wp2
  all_goals
    go_ret
    refine asPost ?_ hN0
    clear hN0 h hB m0 m1 m2 m3 m4 m5
    simp_all [asF] <;> first | omega | (rintro rfl; simp_all) | (rw [Bool.eq_iff_iff]; simp; omega) | (rw [Bool.eq_iff_iff]; simp; exact ⟨fun h => h.2.2, fun h => ⟨by omega, by omega, h⟩⟩)

set_option maxRecDepth 100000 in
set_option maxHeartbeats 1600000 in
theorem says_4 (s b q a : Int) (vb : Value) (l : List UInt8) (w : World) (h : RB w vb l) (hq : 0 ≤ q) :
    Calls Try.prog 91 #[.agg #[.int .i64 4, .int .i64 s, .int .i64 b, .int .i64 q, .int .i64 a, vb]] w (AsPost w ⟨4, s, b, q, a, l⟩) := by
  obtain ⟨A, c, rfl, hl, hc⟩ := h.shape
  have hN0 := New.alloc w (.cells #[.int .i64 4, .int .i64 s, .int .i64 b, .int .i64 q, .int .i64 a, .slice A l.length c] 47)
  have hB := Bk.ofNew w 47 #[.int .i64 4, .int .i64 s, .int .i64 b, .int .i64 q, .int .i64 a, .slice A l.length c]
  go_enter Try.func91, Try.ntmps91
  go_upto_region 1 with fail
  generalize w.alloc (.cells #[.int .i64 4, .int .i64 s, .int .i64 b, .int .i64 q, .int .i64 a, .slice A l.length c] 47) = w1 at hB hN0 ⊢
  have m0 := hB.cellAt (i := 0) rfl
  have m1 := hB.cellAt (i := 1) rfl
  have m2 := hB.cellAt (i := 2) rfl
  have m3 := hB.cellAt (i := 3) rfl
  have m4 := hB.cellAt (i := 4) rfl
  have m5 := hB.cellAt (i := 5) rfl
  go_wp2
  all_goals
    go_ret
    refine asPost ?_ hN0
    clear hN0 h hB m0 m1 m2 m3 m4 m5
    simp_all [asF] <;> first | omega | (rintro rfl; simp_all) | (rw [Bool.eq_iff_iff]; simp; omega) | (rw [Bool.eq_iff_iff]; simp; exact ⟨fun h => h.2.2, fun h => ⟨by omega, by omega, h⟩⟩)

set_option maxRecDepth 100000 in
set_option maxHeartbeats 1600000 in
theorem says_5 (s b q a : Int) (vb : Value) (l : List UInt8) (w : World) (h : RB w vb l) (hq : 0 ≤ q) :
    Calls Try.prog 91 #[.agg #[.int .i64 5, .int .i64 s, .int .i64 b, .int .i64 q, .int .i64 a, vb]] w (AsPost w ⟨5, s, b, q, a, l⟩) := by
  obtain ⟨A, c, rfl, hl, hc⟩ := h.shape
  have hN0 := New.alloc w (.cells #[.int .i64 5, .int .i64 s, .int .i64 b, .int .i64 q, .int .i64 a, .slice A l.length c] 47)
  have hB := Bk.ofNew w 47 #[.int .i64 5, .int .i64 s, .int .i64 b, .int .i64 q, .int .i64 a, .slice A l.length c]
  go_enter Try.func91, Try.ntmps91
  go_upto_region 1 with fail
  generalize w.alloc (.cells #[.int .i64 5, .int .i64 s, .int .i64 b, .int .i64 q, .int .i64 a, .slice A l.length c] 47) = w1 at hB hN0 ⊢
  have m0 := hB.cellAt (i := 0) rfl
  have m1 := hB.cellAt (i := 1) rfl
  have m2 := hB.cellAt (i := 2) rfl
  have m3 := hB.cellAt (i := 3) rfl
  have m4 := hB.cellAt (i := 4) rfl
  have m5 := hB.cellAt (i := 5) rfl
  go_wp2
  all_goals
    go_ret
    refine asPost ?_ hN0
    clear hN0 h hB m0 m1 m2 m3 m4 m5
    simp_all [asF] <;> first | omega | (rintro rfl; simp_all) | (rw [Bool.eq_iff_iff]; simp; omega) | (rw [Bool.eq_iff_iff]; simp; exact ⟨fun h => h.2.2, fun h => ⟨by omega, by omega, h⟩⟩)
theorem says_any (f : Frm) (vb : Value) (w : World) (h : RB w vb f.body) (ht : knownB f.typ = true) (hq : 0 ≤ f.seq) :
    Calls Try.prog 91 #[fv f vb] w fun e w' => e = .returned (.bool (asF f)) ∧ New w w' := by
  obtain ⟨t, s, b, q, a, l⟩ := f
  have ht' : 1 ≤ t ∧ t ≤ 5 := of_decide_eq_true ht
  have h5 : t = 1 ∨ t = 2 ∨ t = 3 ∨ t = 4 ∨ t = 5 := by omega
  rcases h5 with rfl | rfl | rfl | rfl | rfl
  · exact says_1 s b q a vb l w h hq
  · exact says_2 s b q a vb l w h hq
  · exact says_3 s b q a vb l w h hq
  · exact says_4 s b q a vb l w h hq
  · exact says_5 s b q a vb l w h hq

set_option maxRecDepth 100000 in
set_option maxHeartbeats 1600000 in
theorem rcheckf_any (f : Frm) (vb : Value) (w : World) (h : RB w vb f.body) :
    Calls Try.prog 55 #[fv f vb] w (ChkPost w f) := by
  obtain ⟨A, c, rfl, hl, hc⟩ := h.shape
  have hB := Bk.ofNew w 47 #[.int .i64 f.typ, .int .i64 f.ses, .int .i64 f.boot, .int .i64 f.seq, .int .i64 f.ack, .slice A f.body.length c]
  have hN0 := New.alloc w (.cells #[.int .i64 f.typ, .int .i64 f.ses, .int .i64 f.boot, .int .i64 f.seq, .int .i64 f.ack, .slice A f.body.length c] 47)
  have h1 := h.new_ hN0
  go_enter Try.func55, Try.ntmps55
  go_upto_region 1 with fail
  generalize w.alloc (.cells #[.int .i64 f.typ, .int .i64 f.ses, .int .i64 f.boot, .int .i64 f.seq, .int .i64 f.ack, .slice A f.body.length c] 47) = w1 at hB hN0 h1 ⊢
  have m0 := hB.cellAt (i := 0) rfl
  have m1 := hB.cellAt (i := 1) rfl
  have m2 := hB.cellAt (i := 2) rfl
  have m3 := hB.cellAt (i := 3) rfl
  have m4 := hB.cellAt (i := 4) rfl
  have m5 := hB.cellAt (i := 5) rfl
  go_wp2_with fail
  refine (typed_any _ _).mono ?_
  rintro e w2 ⟨rfl, rfl⟩
  cases ht : knownB f.typ with
  | false =>
    have Hr := Lib.hid (checkF_type ht)
    go_wp2
    go_ret
    exact chkPost Hr.out hN0
  | true =>
  go_wp2_with fail
  refine (within_any _ _).mono ?_
  rintro e w2 ⟨rfl, rfl⟩
  cases t1 : inId f.ses with
  | false =>
    have Hr := Lib.hid (checkF_range ht 0 (by omega) t1)
    go_wp2
    go_ret
    exact chkPost Hr.out hN0
  | true =>
  go_wp2_with fail
  refine (within_any _ _).mono ?_
  rintro e w2 ⟨rfl, rfl⟩
  cases t2 : inId f.boot with
  | false =>
    have Hr := Lib.hid (checkF_range ht 1 (by omega) t2)
    go_wp2
    go_ret
    exact chkPost Hr.out hN0
  | true =>
  go_wp2_with fail
  refine (within_any _ _).mono ?_
  rintro e w2 ⟨rfl, rfl⟩
  cases t3 : inId f.seq with
  | false =>
    have Hr := Lib.hid (checkF_range ht 2 (by omega) t3)
    go_wp2
    go_ret
    exact chkPost Hr.out hN0
  | true =>
  go_wp2_with fail
  refine (within_any _ _).mono ?_
  rintro e w2 ⟨rfl, rfl⟩
  cases t4 : inId f.ack with
  | false =>
    have Hr := Lib.hid (checkF_range ht 3 (by omega) t4)
    go_wp2
    go_ret
    exact chkPost Hr.out hN0
  | true =>
  have hq : 0 ≤ f.seq := by simp [inId] at t3; exact t3.1
  have Hrest := Lib.hid (checkF_rest ht (fun i hi => by
    match i, hi with
    | 0, _ => exact t1
    | 1, _ => exact t2
    | 2, _ => exact t3
    | 3, _ => exact t4))
  by_cases hlong : 1400 < f.body.length
  · go_wp2
    go_ret
    exact chkPost (by rw [Hrest.out, if_pos hlong]) hN0
  · go_wp2_with fail
    refine (says_any f _ _ h1 ht hq).mono ?_
    rintro e w3 ⟨rfl, hn3⟩
    cases has : asF f with
    | false =>
      go_wp2
      go_ret
      exact chkPost (by rw [Hrest.out, if_neg hlong, has]; rfl) (hN0.trans hn3)
    | true =>
      go_wp2
      go_ret
      exact chkPost (by rw [Hrest.out, if_neg hlong, has]; rfl) (hN0.trans hn3)
end Go.Proofs.Ytkfcdfcoiglieaa
