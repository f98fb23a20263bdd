/- satchelref11.four, Lay, Put return what the plain law says. Conditions: a frame's body reads as bytes; its length fits. -/
import Derived.Test.YtkfcdfcoiglieaaRefF
import Derived.Test.YtkfcdfcoiglieaaFrameQ
namespace Go.Proofs.Ytkfcdfcoiglieaa
open Go.RowKit

set_option maxRecDepth 100000 in
set_option maxHeartbeats 400000 in
theorem four_any (n : Int) (w : World) : Calls Try.prog 95 #[.int .i64 n] w fun e w' => ∃ A c, e = .returned (.slice A 4 c) ∧ RB w' (.slice A 4 c) (be n 4) ∧ New w w' := by
  go_enter Try.func95, Try.ntmps95
  go_wp2
  go_ret
  refine ⟨_, _, rfl, rb_new w (be n 4) _ ?_ 4 (by rw [length_be]) (by omega), New.alloc _ _⟩
  rw [be4]; simp only [List.map, bv_byteOf]

theorem own_head1 (w : World) (f : Frm) : OwnB (w.alloc (.cells #[.int .u8 83, .int .u8 75, .int .u8 1, .int .u8 (f.typ % 256)] 5)) w.heap.size (.slice (some ⟨w.heap.size, 0, none⟩) 4 4) (headF f 0) := by
  refine OwnP.made (Nat.le_refl _) ?_ (by simp [headF]) (Nat.le_refl _) (by simp [maxLen]) (by simp) ?_
  · simp only [headF, List.map, bv_byteOf]; rfl
  · intro x hx
    simp only [List.mem_cons, List.not_mem_nil, or_false] at hx
    rcases hx with rfl | rfl | rfl | rfl
    · exact ⟨83, rfl⟩
    · exact ⟨75, rfl⟩
    · exact ⟨1, rfl⟩
    · exact ⟨byteOf f.typ, (bv_byteOf _).symm⟩

set_option maxRecDepth 100000 in
set_option maxHeartbeats 3200000 in
theorem rlay_any (f : Frm) (vb : Value) (w : World) (h : RB w vb f.body) (hlen : f.body.length ≤ 1000000) :
    Calls Try.prog 60 #[fv f vb] w fun e w' => ∃ v, e = .returned v ∧ OwnB w' w.heap.size v (putL (headOf f)) ∧ New w w' := by
  obtain ⟨i0, hi0, hz0, hz1, hz2⟩ := info_parts info_u8
  obtain ⟨A, c, rfl, hl, hc⟩ := h.shape
  have hB := Bk.ofNew w 47 #[.int .i64 f.typ, .int .i64 f.ses, .int .i64 f.boot, .int .i64 f.seq, .int .i64 f.ack, .slice A f.body.length c]
  have hN0 := New.alloc w (.cells #[.int .i64 f.typ, .int .i64 f.ses, .int .i64 f.boot, .int .i64 f.seq, .int .i64 f.ack, .slice A f.body.length c] 47)
  have h1 := h.new_ hN0
  go_enter Try.func60, Try.ntmps60
  go_upto_region 1 with fail
  generalize w.alloc (.cells #[.int .i64 f.typ, .int .i64 f.ses, .int .i64 f.boot, .int .i64 f.seq, .int .i64 f.ack, .slice A f.body.length c] 47) = w1 at hB hN0 h1 ⊢
  have m0 := hB.cellAt (i := 0) rfl
  go_upto_region 2 with fail
  have hO := own_head1 w1 f
  have hb : Below w1.heap.size w1 (w1.alloc (.cells #[.int .u8 83, .int .u8 75, .int .u8 1, .int .u8 (f.typ % 256)] 5)) := New.alloc _ _
  generalize w1.alloc (.cells #[.int .u8 83, .int .u8 75, .int .u8 1, .int .u8 (f.typ % 256)] 5) = w2 at hO hb ⊢
  have hglt := hB.lt
  generalize hV : (Value.slice (some ⟨w1.heap.size, 0, none⟩) 4 4) = V at hO ⊢
  clear hV
  generalize hbase : w1.heap.size = base at hO hb hglt ⊢
  obtain ⟨B0, d0, rfl, _, _⟩ := hO.rb.shape
  have hL0 : (headF f 0).length = 4 := length_headF f 0
  rw [hL0] at hO ⊢
  have Hb0 := Lib.hid hb
  have m := (hB.below hb hglt).cellAt (i := 1) rfl
  go_wp2_with fail
  refine (four_any f.ses _).mono ?_
  rintro e u0 ⟨E0, e0, rfl, hrf, hnf⟩
  have hO := hO.new_ hnf
  have hsz : base ≤ u0.heap.size := by have := hb.size; have := hnf.size; omega
  have hb : Below base w1 u0 := Below.trans hb (Below.mono hnf (by have := Hb0.out.size; omega))
  have hc1 : ((headF f 0).map bv).length + ((be f.ses 4).map bv).length ≤ maxLen := by unfold maxLen; rw [List.length_map, List.length_map, hL0, length_be]; omega
  have hc2 : (((headF f 0).map bv).length + ((be f.ses 4).map bv).length) * 1 ≤ 140737488355328 := by rw [List.length_map, List.length_map, hL0, length_be]; omega
  clear m
  go_upto_region 3 with (at_builtin; refine wpList_append_rd _ rfl _ _ _ rfl base 5 i0 _ 1 Try.underlying22 hi0 hz0 hz1 hz2 rfl isB_zero _ _ rfl hO _ ((be f.ses 4).map bv) rfl hrf (bv_one _) (isB_map _) hc1 hc2 hsz ?_; intro V w3 hO2 hg _)
  have hb : Below base w1 w3 := grown_below hb hO hg hsz
  have hO : OwnB w3 base V (headF f 1) := by unfold OwnB; rw [show headF f 1 = headF f 0 ++ be f.ses 4 from rfl, List.map_append]; exact hO2
  clear hO2 hg hc1 hc2 hsz hrf hnf
  obtain ⟨B1, d1, rfl, _, _⟩ := hO.rb.shape
  have hL1 : (headF f 1).length = 8 := length_headF f 1
  rw [hL1] at hO ⊢
  have Hb1 := Lib.hid hb
  have m := (hB.below hb hglt).cellAt (i := 2) rfl
  go_wp2_with fail
  refine (four_any f.boot _).mono ?_
  rintro e u1 ⟨E1, e1, rfl, hrf, hnf⟩
  have hO := hO.new_ hnf
  have hsz : base ≤ u1.heap.size := by have := hb.size; have := hnf.size; omega
  have hb : Below base w1 u1 := Below.trans hb (Below.mono hnf (by have := Hb1.out.size; omega))
  have hc1 : ((headF f 1).map bv).length + ((be f.boot 4).map bv).length ≤ maxLen := by unfold maxLen; rw [List.length_map, List.length_map, hL1, length_be]; omega
  have hc2 : (((headF f 1).map bv).length + ((be f.boot 4).map bv).length) * 1 ≤ 140737488355328 := by rw [List.length_map, List.length_map, hL1, length_be]; omega
  clear m
  go_upto_region 4 with (at_builtin; refine wpList_append_rd _ rfl _ _ _ rfl base 5 i0 _ 1 Try.underlying22 hi0 hz0 hz1 hz2 rfl isB_zero _ _ rfl hO _ ((be f.boot 4).map bv) rfl hrf (bv_one _) (isB_map _) hc1 hc2 hsz ?_; intro V w4 hO2 hg _)
  have hb : Below base w1 w4 := grown_below hb hO hg hsz
  have hO : OwnB w4 base V (headF f 2) := by unfold OwnB; rw [show headF f 2 = headF f 1 ++ be f.boot 4 from rfl, List.map_append]; exact hO2
  clear hO2 hg hc1 hc2 hsz hrf hnf
  obtain ⟨B2, d2, rfl, _, _⟩ := hO.rb.shape
  have hL2 : (headF f 2).length = 12 := length_headF f 2
  rw [hL2] at hO ⊢
  have Hb2 := Lib.hid hb
  have m := (hB.below hb hglt).cellAt (i := 3) rfl
  go_wp2_with fail
  refine (four_any f.seq _).mono ?_
  rintro e u2 ⟨E2, e2, rfl, hrf, hnf⟩
  have hO := hO.new_ hnf
  have hsz : base ≤ u2.heap.size := by have := hb.size; have := hnf.size; omega
  have hb : Below base w1 u2 := Below.trans hb (Below.mono hnf (by have := Hb2.out.size; omega))
  have hc1 : ((headF f 2).map bv).length + ((be f.seq 4).map bv).length ≤ maxLen := by unfold maxLen; rw [List.length_map, List.length_map, hL2, length_be]; omega
  have hc2 : (((headF f 2).map bv).length + ((be f.seq 4).map bv).length) * 1 ≤ 140737488355328 := by rw [List.length_map, List.length_map, hL2, length_be]; omega
  clear m
  go_upto_region 5 with (at_builtin; refine wpList_append_rd _ rfl _ _ _ rfl base 5 i0 _ 1 Try.underlying22 hi0 hz0 hz1 hz2 rfl isB_zero _ _ rfl hO _ ((be f.seq 4).map bv) rfl hrf (bv_one _) (isB_map _) hc1 hc2 hsz ?_; intro V w5 hO2 hg _)
  have hb : Below base w1 w5 := grown_below hb hO hg hsz
  have hO : OwnB w5 base V (headF f 3) := by unfold OwnB; rw [show headF f 3 = headF f 2 ++ be f.seq 4 from rfl, List.map_append]; exact hO2
  clear hO2 hg hc1 hc2 hsz hrf hnf
  obtain ⟨B3, d3, rfl, _, _⟩ := hO.rb.shape
  have hL3 : (headF f 3).length = 16 := length_headF f 3
  rw [hL3] at hO ⊢
  have Hb3 := Lib.hid hb
  have m := (hB.below hb hglt).cellAt (i := 4) rfl
  go_wp2_with fail
  refine (four_any f.ack _).mono ?_
  rintro e u3 ⟨E3, e3, rfl, hrf, hnf⟩
  have hO := hO.new_ hnf
  have hsz : base ≤ u3.heap.size := by have := hb.size; have := hnf.size; omega
  have hb : Below base w1 u3 := Below.trans hb (Below.mono hnf (by have := Hb3.out.size; omega))
  have hc1 : ((headF f 3).map bv).length + ((be f.ack 4).map bv).length ≤ maxLen := by unfold maxLen; rw [List.length_map, List.length_map, hL3, length_be]; omega
  have hc2 : (((headF f 3).map bv).length + ((be f.ack 4).map bv).length) * 1 ≤ 140737488355328 := by rw [List.length_map, List.length_map, hL3, length_be]; omega
  clear m
  go_upto_region 6 with (at_builtin; refine wpList_append_rd _ rfl _ _ _ rfl base 5 i0 _ 1 Try.underlying22 hi0 hz0 hz1 hz2 rfl isB_zero _ _ rfl hO _ ((be f.ack 4).map bv) rfl hrf (bv_one _) (isB_map _) hc1 hc2 hsz ?_; intro V w6 hO2 hg _)
  have hb : Below base w1 w6 := grown_below hb hO hg hsz
  have hO : OwnB w6 base V (headF f 4) := by unfold OwnB; rw [show headF f 4 = headF f 3 ++ be f.ack 4 from rfl, List.map_append]; exact hO2
  clear hO2 hg hc1 hc2 hsz hrf hnf
  obtain ⟨B6, d6, rfl, _, _⟩ := hO.rb.shape
  have hL4 : (headF f 4).length = 20 := length_headF f 4
  rw [hL4] at hO ⊢
  have m := (hB.below hb hglt).cellAt (i := 5) rfl
  have Hb4 := Lib.hid hb
  have hr2 : Rd (w6.alloc (.cells #[.int .u8 ((f.body.length : Int) / 256 % 256), .int .u8 ((f.body.length : Int) % 256)] 5)) (.slice (some ⟨w6.heap.size, 0, none⟩) 2 2) ((be f.body.length 2).map bv) :=
    rb_new w6 (be f.body.length 2) _ (by rw [be2]; simp only [List.map, bv_byteOf]) 2 (by rw [length_be]) (by omega)
  have hO := hO.new_ (New.alloc w6 (.cells #[.int .u8 ((f.body.length : Int) / 256 % 256), .int .u8 ((f.body.length : Int) % 256)] 5))
  have hsz : base ≤ (w6.alloc (.cells #[.int .u8 ((f.body.length : Int) / 256 % 256), .int .u8 ((f.body.length : Int) % 256)] 5)).heap.size := by have := hb.size; simp; omega
  have hb : Below base w1 (w6.alloc (.cells #[.int .u8 ((f.body.length : Int) / 256 % 256), .int .u8 ((f.body.length : Int) % 256)] 5)) := Below.trans hb (Below.mono (New.alloc _ _) (by have := Hb4.out.size; omega))
  have hc1 : ((headF f 4).map bv).length + ((be f.body.length 2).map bv).length ≤ maxLen := by unfold maxLen; rw [List.length_map, List.length_map, hL4, length_be]; omega
  have hc2 : (((headF f 4).map bv).length + ((be f.body.length 2).map bv).length) * 1 ≤ 140737488355328 := by rw [List.length_map, List.length_map, hL4, length_be]; omega
  go_upto_region 7 with (at_builtin; refine wpList_append_rd _ rfl _ _ _ rfl base 5 i0 _ 1 Try.underlying22 hi0 hz0 hz1 hz2 rfl isB_zero _ _ rfl hO _ ((be f.body.length 2).map bv) rfl hr2 (bv_one _) (isB_map _) hc1 hc2 hsz ?_; intro V w7 hO2 hg _)
  have hb : Below base w1 w7 := grown_below hb hO hg hsz
  have hO : OwnB w7 base V (headF f 4 ++ be f.body.length 2) := by unfold OwnB; rw [List.map_append]; exact hO2
  clear hO2 hg hc1 hc2 hsz hr2 m
  obtain ⟨B7, d7, rfl, _, _⟩ := hO.rb.shape
  have hL6 : (headF f 4 ++ be f.body.length 2).length = 22 := by rw [List.length_append, length_be, hL4]
  rw [hL6] at hO ⊢
  have m := (hB.below hb hglt).cellAt (i := 5) rfl
  have hn7 : New w1 w7 := by unfold New; rw [hbase]; exact hb
  have hr7 := h1.new_ hn7
  have hsz : base ≤ w7.heap.size := by have := hb.size; omega
  have hc1 : ((headF f 4 ++ be f.body.length 2).map bv).length + (f.body.map bv).length ≤ maxLen := by unfold maxLen; rw [List.length_map, List.length_map, hL6]; omega
  have hc2 : (((headF f 4 ++ be f.body.length 2).map bv).length + (f.body.map bv).length) * 1 ≤ 140737488355328 := by rw [List.length_map, List.length_map, hL6]; omega
  go_wp2_with (at_builtin; refine wpList_append_rd _ rfl _ _ _ rfl base 5 i0 _ 1 Try.underlying22 hi0 hz0 hz1 hz2 rfl isB_zero _ _ rfl hO _ (f.body.map bv) rfl hr7 (bv_one _) (isB_map _) hc1 hc2 hsz ?_; intro V w8 hO2 hg _)
  have hb8 : Below base w1 w8 := grown_below hb hO hg hsz
  have hO8 : OwnB w8 base V (headOf f) := by unfold OwnB headOf; rw [List.map_append]; exact hO2
  refine (rput_any V (headOf f) w8 hO8.rb (by rw [length_headOf]; omega)).mono ?_
  rintro e w9 ⟨v9, rfl, hO9, hn9⟩
  have hn8 : New w w8 := hN0.trans (by unfold New; rw [hbase]; exact hb8)
  go_wp2
  go_ret
  exact ⟨v9, rfl, hO9.mono hn8.size, hn8.trans hn9⟩

set_option maxRecDepth 100000 in
set_option maxHeartbeats 1600000 in
theorem rputf_any (f : Frm) (vb : Value) (w : World) (h : RB w vb f.body) :
    Calls Try.prog 53 #[fv f vb] w (PutPost w f) := by
  obtain ⟨A, c, rfl, hl, hc⟩ := h.shape
  have hB := Bk.ofNew w 47 #[.int .i64 f.typ, .int .i64 f.ses, .int .i64 f.boot, .int .i64 f.seq, .int .i64 f.ack, .slice A f.body.length c]
  have hN0 := New.alloc w (.cells #[.int .i64 f.typ, .int .i64 f.ses, .int .i64 f.boot, .int .i64 f.seq, .int .i64 f.ack, .slice A f.body.length c] 47)
  have h1 := h.new_ hN0
  go_enter Try.func53, Try.ntmps53
  go_wp2_with fail
  refine (rcheckf_any f _ _ h1).mono ?_
  rintro e w1 ⟨rfl, hn1⟩
  by_cases hok : checkF f = 0
  · have hlen := checkF_ok hok
    have Hok := Lib.hid hok
    rw [Hok.out]
    clear hok
    have hB1 := hB.new_ hn1
    have m0 := hB1.cellAt (i := 0) rfl
    have m1 := hB1.cellAt (i := 1) rfl
    have m2 := hB1.cellAt (i := 2) rfl
    have m3 := hB1.cellAt (i := 3) rfl
    have m4 := hB1.cellAt (i := 4) rfl
    have m5 := hB1.cellAt (i := 5) rfl
    go_wp2_with fail
    refine (rlay_any f _ _ (h1.new_ hn1) (by omega)).mono ?_
    rintro e w2 ⟨v2, rfl, hO2, hn2⟩
    go_wp2
    go_ret2
    exact putPost_ok Hok.out (hO2.mono (hN0.trans hn1).size) ((hN0.trans hn1).trans hn2)
  · have hne : (checkF f != 0) = true := bne_iff_ne.2 hok
    have Hok := Lib.hid hok
    clear hok
    go_wp2
    go_ret2
    exact putPost_bad rfl Hok.out (hN0.trans hn1)
end Go.Proofs.Ytkfcdfcoiglieaa
