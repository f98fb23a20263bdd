/- satchellaw11.FrameTypes at type 3: it returns true. Conditions: the frame may be. -/
import Derived.Test.YtkfcdfcoiglieaaFrameK
namespace Go.Proofs.Ytkfcdfcoiglieaa
open Go.RowKit

set_option maxRecDepth 100000 in
set_option maxHeartbeats 4000000 in
theorem types_3 (s b q a o : Int) (l : List UInt8) (vb : Value) (w : World) (h : RB w vb l) (hs1 : 1 ≤ s) (hs2 : s ≤ 2147483647) (hb1 : 1 ≤ b) (hb2 : b ≤ 2147483647) (hq1 : 1 ≤ q) (hq2 : q ≤ 2147483647) (ha1 : 0 ≤ a) (ha2 : a ≤ 2147483647) (hll : l.length ≤ 1400) :
    Calls Try.prog 16 #[fv ⟨3, s, b, q, a, l⟩ vb, .int .i64 o] w fun e w' => e = .returned (.bool true) ∧ New w w' := by
  have Hc : Hid (checkF ⟨3, s, b, q, a, l⟩ = 0) := Lib.hid (by (first | (simp [checkF, inId, asF]; done) | (simp [checkF, inId, asF]; omega)))
  have hb0 : (b == 0) = false := beq_eq_false_iff_ne.2 (by omega)
  have hq0 : (q == 0) = false := beq_eq_false_iff_ne.2 (by omega)
  obtain ⟨A, c, rfl, hl, hc⟩ := h.shape
  have hB0 := Bk.ofNew w 47 #[.int .i64 3, .int .i64 s, .int .i64 b, .int .i64 q, .int .i64 a, .slice A l.length c]
  have hN0 := New.alloc w (.cells #[.int .i64 3, .int .i64 s, .int .i64 b, .int .i64 q, .int .i64 a, .slice A l.length c] 47)
  have h0 := h.new_ hN0
  go_enter Try.func16, Try.ntmps16
  go_wp2_with fail
  refine (awake11 _).mono ?_
  rintro e w1 ⟨rfl, hn1⟩
  have hB1 := hB0.new_ hn1
  have m0 := hB1.cellAt (i := 0) rfl
  have m1 := hB1.cellAt (i := 1) rfl
  have m2 := hB1.cellAt (i := 2) rfl
  have m3 := hB1.cellAt (i := 3) rfl
  have m4 := hB1.cellAt (i := 4) rfl
  have m5 := hB1.cellAt (i := 5) rfl
  have h1 := h0.new_ hn1
  go_wp2_with fail
  refine (checkf_any ⟨3, s, b, q, a, l⟩ (.slice A l.length c) _ h1).mono ?_
  rintro e w2 ⟨rfl, hn2⟩
  rw [Hc.out]
  clear m0 m1 m2 m3 m4 m5
  have hB2 := hB1.new_ hn2
  have h2 := h1.new_ hn2
  have m0 := hB2.cellAt (i := 0) rfl
  have m1 := hB2.cellAt (i := 1) rfl
  have m2 := hB2.cellAt (i := 2) rfl
  have m3 := hB2.cellAt (i := 3) rfl
  have m4 := hB2.cellAt (i := 4) rfl
  have m5 := hB2.cellAt (i := 5) rfl
  have hlt := hB2.lt
  go_wp2_with fail
  have hN3 := ((hN0.trans hn1).trans hn2).trans (New.alloc w2 (.cells #[.int .i64 o, .int .i64 s, .int .i64 b, .int .i64 q, .int .i64 a, .slice A l.length c] 47))
  have hB3 := hB2.alloc (.cells #[.int .i64 o, .int .i64 s, .int .i64 b, .int .i64 q, .int .i64 a, .slice A l.length c] 47)
  have h3 := h2.new_ (New.alloc w2 (.cells #[.int .i64 o, .int .i64 s, .int .i64 b, .int .i64 q, .int .i64 a, .slice A l.length c] 47))
  generalize w2.alloc (.cells #[.int .i64 o, .int .i64 s, .int .i64 b, .int .i64 q, .int .i64 a, .slice A l.length c] 47) = w3 at hN3 hB3 h3 ⊢
  clear m0 m1 m2 m3 m4 m5 hB0 hB1 hB2 h0 h1 h2 hlt
  by_cases o1 : o < 1
  · have Hg : Hid (checkF ⟨o, s, b, q, a, l⟩ = 213) := Lib.hid (by unfold checkF; rw [if_pos (by show ¬ (1 ≤ o ∧ o ≤ 5); omega)])
    refine (checkf_any ⟨o, s, b, q, a, l⟩ (.slice A l.length c) _ h3).mono ?_
    rintro e w4 ⟨rfl, hn4⟩
    rw [Hg.out]
    have hB4 := hB3.new_ hn4
    have m0 := hB4.cellAt (i := 0) rfl
    have m1 := hB4.cellAt (i := 1) rfl
    have m2 := hB4.cellAt (i := 2) rfl
    have m3 := hB4.cellAt (i := 3) rfl
    have m4 := hB4.cellAt (i := 4) rfl
    have m5 := hB4.cellAt (i := 5) rfl
    go_wp2
    go_ret
    exact ⟨rfl, hN3.trans hn4⟩
  by_cases o5 : 5 < o
  · have Hg : Hid (checkF ⟨o, s, b, q, a, l⟩ = 213) := Lib.hid (by unfold checkF; rw [if_pos (by show ¬ (1 ≤ o ∧ o ≤ 5); omega)])
    refine (checkf_any ⟨o, s, b, q, a, l⟩ (.slice A l.length c) _ h3).mono ?_
    rintro e w4 ⟨rfl, hn4⟩
    rw [Hg.out]
    have hB4 := hB3.new_ hn4
    have m0 := hB4.cellAt (i := 0) rfl
    have m1 := hB4.cellAt (i := 1) rfl
    have m2 := hB4.cellAt (i := 2) rfl
    have m3 := hB4.cellAt (i := 3) rfl
    have m4 := hB4.cellAt (i := 4) rfl
    have m5 := hB4.cellAt (i := 5) rfl
    go_wp2
    go_ret
    exact ⟨rfl, hN3.trans hn4⟩
  have ho : o = 1 ∨ o = 2 ∨ o = 3 ∨ o = 4 ∨ o = 5 := by omega
  clear o1 o5
  rcases ho with rfl | rfl | rfl | rfl | rfl
  · have Hg : Hid (checkF ⟨1, s, b, q, a, l⟩ = 2) := Lib.hid (by (first | (simp [checkF, inId, asF]; done) | (simp [checkF, inId, asF]; omega)))
    refine (checkf_any ⟨1, s, b, q, a, l⟩ (.slice A l.length c) _ h3).mono ?_
    rintro e w4 ⟨rfl, hn4⟩
    rw [Hg.out]
    have hB4 := hB3.new_ hn4
    have m0 := hB4.cellAt (i := 0) rfl
    have m1 := hB4.cellAt (i := 1) rfl
    have m2 := hB4.cellAt (i := 2) rfl
    have m3 := hB4.cellAt (i := 3) rfl
    have m4 := hB4.cellAt (i := 4) rfl
    have m5 := hB4.cellAt (i := 5) rfl
    go_wp2
    go_ret
    exact ⟨rfl, hN3.trans hn4⟩
  · have Hg : Hid (checkF ⟨2, s, b, q, a, l⟩ = 2) := Lib.hid (by (first | (simp [checkF, inId, asF]; done) | (simp [checkF, inId, asF]; omega)))
    refine (checkf_any ⟨2, s, b, q, a, l⟩ (.slice A l.length c) _ h3).mono ?_
    rintro e w4 ⟨rfl, hn4⟩
    rw [Hg.out]
    have hB4 := hB3.new_ hn4
    have m0 := hB4.cellAt (i := 0) rfl
    have m1 := hB4.cellAt (i := 1) rfl
    have m2 := hB4.cellAt (i := 2) rfl
    have m3 := hB4.cellAt (i := 3) rfl
    have m4 := hB4.cellAt (i := 4) rfl
    have m5 := hB4.cellAt (i := 5) rfl
    go_wp2
    go_ret
    exact ⟨rfl, hN3.trans hn4⟩
  · have Hg : Hid (checkF ⟨3, s, b, q, a, l⟩ = 0) := Lib.hid (by (first | (simp [checkF, inId, asF]; done) | (simp [checkF, inId, asF]; omega)))
    refine (checkf_any ⟨3, s, b, q, a, l⟩ (.slice A l.length c) _ h3).mono ?_
    rintro e w4 ⟨rfl, hn4⟩
    rw [Hg.out]
    have hB4 := hB3.new_ hn4
    have m0 := hB4.cellAt (i := 0) rfl
    have m1 := hB4.cellAt (i := 1) rfl
    have m2 := hB4.cellAt (i := 2) rfl
    have m3 := hB4.cellAt (i := 3) rfl
    have m4 := hB4.cellAt (i := 4) rfl
    have m5 := hB4.cellAt (i := 5) rfl
    go_wp2
    go_ret
    exact ⟨rfl, hN3.trans hn4⟩
  · have Hg : Hid (checkF ⟨4, s, b, q, a, l⟩ = 2) := Lib.hid (by (first | (simp [checkF, inId, asF]; done) | (simp [checkF, inId, asF]; omega)))
    refine (checkf_any ⟨4, s, b, q, a, l⟩ (.slice A l.length c) _ h3).mono ?_
    rintro e w4 ⟨rfl, hn4⟩
    rw [Hg.out]
    have hB4 := hB3.new_ hn4
    have m0 := hB4.cellAt (i := 0) rfl
    have m1 := hB4.cellAt (i := 1) rfl
    have m2 := hB4.cellAt (i := 2) rfl
    have m3 := hB4.cellAt (i := 3) rfl
    have m4 := hB4.cellAt (i := 4) rfl
    have m5 := hB4.cellAt (i := 5) rfl
    go_wp2
    go_ret
    exact ⟨rfl, hN3.trans hn4⟩
  · have Hg : Hid (checkF ⟨5, s, b, q, a, l⟩ = 2) := Lib.hid (by (first | (simp [checkF, inId, asF]; done) | (simp [checkF, inId, asF]; omega)))
    refine (checkf_any ⟨5, s, b, q, a, l⟩ (.slice A l.length c) _ h3).mono ?_
    rintro e w4 ⟨rfl, hn4⟩
    rw [Hg.out]
    have hB4 := hB3.new_ hn4
    have m0 := hB4.cellAt (i := 0) rfl
    have m1 := hB4.cellAt (i := 1) rfl
    have m2 := hB4.cellAt (i := 2) rfl
    have m3 := hB4.cellAt (i := 3) rfl
    have m4 := hB4.cellAt (i := 4) rfl
    have m5 := hB4.cellAt (i := 5) rfl
    go_wp2
    go_ret
    exact ⟨rfl, hN3.trans hn4⟩
end Go.Proofs.Ytkfcdfcoiglieaa
