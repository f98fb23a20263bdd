/- frame.as at the types 4 and 5 returns what the plain law says. Conditions: a frame's body reads as bytes. -/
import Derived.Test.YtkfcdfcoiglieaaFrameW
namespace Go.Proofs.Ytkfcdfcoiglieaa
open Go.RowKit

set_option maxRecDepth 100000 in
set_option maxHeartbeats 1600000 in
theorem as_4 (s b q a : Int) (vb : Value) (l : List UInt8) (w : World) (h : RB w vb l) :
    Calls Try.prog 88 #[.agg #[.int .i64 4, .int .i64 s, .int .i64 b, .int .i64 q, .int .i64 a, vb]] w (AsPost w ⟨4, s, b, q, a, l⟩) := by
  obtain ⟨A, c, rfl, hl, hc⟩ := h.shape
  have hB0 := Bk.ofNew w 47 #[.int .i64 4, .int .i64 s, .int .i64 b, .int .i64 q, .int .i64 a, .slice A l.length c]
  have hN0 := New.alloc w (.cells #[.int .i64 4, .int .i64 s, .int .i64 b, .int .i64 q, .int .i64 a, .slice A l.length c] 47)
  go_enter Try.func88, Try.ntmps88
  go_upto_region 1 with fail
  go_cut [3] (fun s3 wx => ∃ g : Nat, s3 = .pointer (some ⟨g, 0, none⟩) ∧ Bk wx g 140 #[Value.bool true, Value.bool false, Value.bool true, Value.bool false, Value.bool true] ∧ Bk wx w.heap.size 47 #[.int .i64 4, .int .i64 s, .int .i64 b, .int .i64 q, .int .i64 a, .slice A l.length c] ∧ New w wx)
  case first =>
    go_region_with (go_at_call 104; refine (types_any _).mono ?_; rintro e w1 ⟨rfl, rfl⟩)
    all_goals
      go_wp2_with fail
      go_meet
      exact ⟨_, rfl, by first | exact bk_last _ _ _ _ _ | exact bk_mid _ _ _ _ _, bk_first _ _ _ _ _, new3 _ _ _ _⟩
  case rest =>
    obtain ⟨g, rfl, hB1, hB2, hN⟩ := hcut
    have k0 := hB1.cellAt (i := 0) rfl
    have k1 := hB1.cellAt (i := 1) rfl
    have k2 := hB1.cellAt (i := 2) rfl
    have k3 := hB1.cellAt (i := 3) rfl
    have k4 := hB1.cellAt (i := 4) rfl
    have m0 := hB2.cellAt (i := 0) rfl
    have m1 := hB2.cellAt (i := 1) rfl
    have m2 := hB2.cellAt (i := 2) rfl
    have m3 := hB2.cellAt (i := 3) rfl
    have m4 := hB2.cellAt (i := 4) rfl
    have m5 := hB2.cellAt (i := 5) rfl
    clear hB1 hB2
    go_wp2
    all_goals
      go_ret
      exact asPost (by clear k0 k1 k2 k3 k4 m0 m1 m2 m3 m4 m5; simp_all [asF] <;> first | omega | (rintro rfl; simp_all)) hN

set_option maxRecDepth 100000 in
set_option maxHeartbeats 1600000 in
theorem as_5 (s b q a : Int) (vb : Value) (l : List UInt8) (w : World) (h : RB w vb l) :
    Calls Try.prog 88 #[.agg #[.int .i64 5, .int .i64 s, .int .i64 b, .int .i64 q, .int .i64 a, vb]] w (AsPost w ⟨5, s, b, q, a, l⟩) := by
  obtain ⟨A, c, rfl, hl, hc⟩ := h.shape
  have hB0 := Bk.ofNew w 47 #[.int .i64 5, .int .i64 s, .int .i64 b, .int .i64 q, .int .i64 a, .slice A l.length c]
  have hN0 := New.alloc w (.cells #[.int .i64 5, .int .i64 s, .int .i64 b, .int .i64 q, .int .i64 a, .slice A l.length c] 47)
  go_enter Try.func88, Try.ntmps88
  go_upto_region 1 with fail
  go_cut [3] (fun s3 wx => ∃ g : Nat, s3 = .pointer (some ⟨g, 0, none⟩) ∧ Bk wx g 140 #[Value.bool false, Value.bool false, Value.bool false, Value.bool false, Value.bool true] ∧ Bk wx w.heap.size 47 #[.int .i64 5, .int .i64 s, .int .i64 b, .int .i64 q, .int .i64 a, .slice A l.length c] ∧ New w wx)
  case first =>
    go_region_with (go_at_call 104; refine (types_any _).mono ?_; rintro e w1 ⟨rfl, rfl⟩)
    all_goals
      go_wp2_with fail
      go_meet
      exact ⟨_, rfl, by first | exact bk_last _ _ _ _ _ | exact bk_mid _ _ _ _ _, bk_first _ _ _ _ _, new3 _ _ _ _⟩
  case rest =>
    obtain ⟨g, rfl, hB1, hB2, hN⟩ := hcut
    have k0 := hB1.cellAt (i := 0) rfl
    have k1 := hB1.cellAt (i := 1) rfl
    have k2 := hB1.cellAt (i := 2) rfl
    have k3 := hB1.cellAt (i := 3) rfl
    have k4 := hB1.cellAt (i := 4) rfl
    have m0 := hB2.cellAt (i := 0) rfl
    have m1 := hB2.cellAt (i := 1) rfl
    have m2 := hB2.cellAt (i := 2) rfl
    have m3 := hB2.cellAt (i := 3) rfl
    have m4 := hB2.cellAt (i := 4) rfl
    have m5 := hB2.cellAt (i := 5) rfl
    clear hB1 hB2
    go_wp2
    all_goals
      go_ret
      exact asPost (by clear k0 k1 k2 k3 k4 m0 m1 m2 m3 m4 m5; simp_all [asF] <;> first | omega | (rintro rfl; simp_all)) hN

end Go.Proofs.Ytkfcdfcoiglieaa
