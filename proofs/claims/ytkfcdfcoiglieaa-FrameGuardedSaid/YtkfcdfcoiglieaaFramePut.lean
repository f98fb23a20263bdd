/- frame.Put returns a frame's bytes, or what is wrong with it; nothing that was there turns. Conditions: a frame's body reads as bytes. -/
import Derived.Test.YtkfcdfcoiglieaaFrameL
namespace Go.Proofs.Ytkfcdfcoiglieaa
open Go.RowKit

/-- A frame's bytes ahead of its body, the first i numbers laid. -/
def headF (f : Frm) : Nat → List UInt8
  | 0 => [83, 75, 1, byteOf f.typ]
  | i + 1 => headF f i ++ be (idx f i) 4
/-- A frame's bytes. -/
def layF (f : Frm) : List UInt8 := putL (headF f 4 ++ be f.body.length 2 ++ f.body)
theorem length_headF (f : Frm) (i : Nat) : (headF f i).length = 4 + 4 * i := by
  induction i with
  | zero => rfl
  | succ i ih => simp only [headF, List.length_append, ih, length_be]; omega
def PutPost (w : World) (f : Frm) (e : Ending) (w' : World) : Prop :=
  ∃ v', e = .returned (.tuple #[v', .int .i64 (checkF f)]) ∧ OwnB w' w.heap.size v' (if checkF f = 0 then layF f else []) ∧ New w w'
theorem putPost_bad {w w' : World} {f : Frm} {n : Int} (h : checkF f = n) (h0 : n ≠ 0) (hn : New w w') : PutPost w f (.returned (.tuple #[.slice none 0 0, .int .i64 n])) w' :=
  ⟨_, by rw [h], by rw [h, if_neg h0]; exact OwnB.nil _ _, hn⟩
theorem putPost_ok {w w' : World} {f : Frm} {v : Value} (h : checkF f = 0) (ho : OwnB w' w.heap.size v (layF f)) (hn : New w w') : PutPost w f (.returned (.tuple #[v, .int .i64 0])) w' :=
  ⟨_, by rw [h], by rw [h, if_pos rfl]; exact ho, hn⟩
theorem checkF_ok {f : Frm} (h : checkF f = 0) : f.body.length ≤ 1400 := by
  unfold checkF at h
  repeat' split at h
  all_goals first | omega | cases h

theorem bv_byteOf (n : Int) : bv (byteOf n) = .int .u8 (n % 256) := by
  have := wrap_byte n 0
  simp at this
  rw [bv, ← this, IntKind.wrap_u8']
theorem own_head (w : World) (f : Frm) (t : TypeId) (cs : Array Value) :
    OwnB ((w.alloc (.cells #[.int .u8 83, .int .u8 75, .int .u8 1, .int .u8 (f.typ % 256)] 5)).alloc (.cells cs t)) w.heap.size (.slice (some ⟨w.heap.size, 0, none⟩) 4 4) (headF f 0) := by
  refine OwnP.new_ ?_ (New.alloc _ _)
  refine OwnP.made (Nat.le_refl _) ?_ (by simp [headF]) (Nat.le_refl _) (by simp [maxLen]) (by simp) ?_
  · simp only [headF, List.map, bv_byteOf]; rfl
  · intro x hx
    simp only [List.mem_cons, List.not_mem_nil, or_false] at hx
    rcases hx with rfl | rfl | rfl | rfl
    · exact ⟨83, rfl⟩
    · exact ⟨75, rfl⟩
    · exact ⟨1, rfl⟩
    · exact ⟨byteOf f.typ, (bv_byteOf _).symm⟩

set_option maxRecDepth 100000 in
set_option maxHeartbeats 1600000 in
theorem putf_any (f : Frm) (vb : Value) (w : World) (h : RB w vb f.body) :
    Calls Try.prog 44 #[fv f vb] w (PutPost w f) := by
  obtain ⟨i0, hi0, hz0, hz1, hz2⟩ := info_parts info_u8
  obtain ⟨A, c, rfl, hl, hc⟩ := h.shape
  have hB0 := Bk.ofNew w 47 #[.int .i64 f.typ, .int .i64 f.ses, .int .i64 f.boot, .int .i64 f.seq, .int .i64 f.ack, .slice A f.body.length c]
  have hN0 := New.alloc w (.cells #[.int .i64 f.typ, .int .i64 f.ses, .int .i64 f.boot, .int .i64 f.seq, .int .i64 f.ack, .slice A f.body.length c] 47)
  by_cases hok : checkF f = 0
  · have hlen := checkF_ok hok
    have Hok := Lib.hid hok; clear hok
    have hidx := run_idx f
    have Hidx := Lib.hid hidx; clear hidx
    go_enter Try.func44, Try.ntmps44
    go_wp2_with fail
    refine (checkf_any f _ _ (h.new_ hN0)).mono ?_
    rintro e w1 ⟨rfl, hn1⟩
    rw [Hok.out]
    have hB1 := hB0.new_ hn1
    have m0 := hB1.cellAt (i := 0) rfl
    have m1 := hB1.cellAt (i := 1) rfl
    have m2 := hB1.cellAt (i := 2) rfl
    have m3 := hB1.cellAt (i := 3) rfl
    have m4 := hB1.cellAt (i := 4) rfl
    have m5 := hB1.cellAt (i := 5) rfl
    have hglt := hB1.lt
    go_wp2_with fail
    have hB2 := Bk.ofNew (w1.alloc (.cells #[.int .u8 83, .int .u8 75, .int .u8 1, .int .u8 (f.typ % 256)] 5)) 22 #[.slice (some ⟨w1.heap.size, 0, none⟩) 4 4]
    rw [World.size_alloc] at hB2
    have ho2 := own_head w1 f 22 #[.slice (some ⟨w1.heap.size, 0, none⟩) 4 4]
    have hN2 := (New.alloc w1 (.cells #[.int .u8 83, .int .u8 75, .int .u8 1, .int .u8 (f.typ % 256)] 5)).trans (New.alloc _ (.cells #[.slice (some ⟨w1.heap.size, 0, none⟩) 4 4] 22))
    generalize (w1.alloc (.cells #[Value.int .u8 83, .int .u8 75, .int .u8 1, .int .u8 (f.typ % 256)] 5)).alloc (.cells #[.slice (some ⟨w1.heap.size, 0, none⟩) 4 4] 22) = w2 at hB2 ho2 hN2 ⊢
    have hs2 := hN2.size
    generalize hb : w1.heap.size = base at hB2 ho2 hs2 ⊢
    have hNB : Below base w1 w2 := by rw [← hb]; exact hN2
    go_loopw [28] (fun u28 wr => ∃ (i : Nat) (v' : Value), i ≤ 4 ∧ u28 = .int .i64 (i : Int) ∧ Bk wr (base + 1) 22 #[v'] ∧ OwnB wr base v' (headF f i) ∧ Below base w1 wr ∧ base ≤ wr.heap.size) (fun u28 _ => (4 - intOf u28).toNat)
    case atStart => exact ⟨0, _, by omega, rfl, hB2, ho2, hNB, hs2⟩
    case round =>
      clear hB2 ho2 hNB hs2 hN2
      obtain ⟨i, v', hi, rfl, hB2, ho2, hNB, hs2⟩ := hrel
      have hlh := length_headF f i
      by_cases hlt : i < 4
      · have hix := fun w => Hidx.out i hlt w
        have m6 := hB2.cellAt (i := 0) rfl
        go_wp2_with fail
        refine (lay_any (idx f i) 4 (base + 1) base v' (headF f i) _ (by omega) hB2 ho2 hs2 (by omega) (by omega)).mono ?_
        rintro e w3 ⟨v3, rfl, hB3, ho3, hb3, hs3⟩
        go_wp2
        exact ⟨⟨i + 1, v3, by omega, by go_num, hB3, ho3, hNB.trans hb3, by omega⟩, by simp [intOf]; omega⟩
      · have hi4 : i = 4 := by omega
        subst hi4
        have mb := (hB1.below hNB (by omega)).cellAt (i := 5) rfl
        go_wp2_with fail
        refine (lay_any f.body.length 2 (base + 1) base v' (headF f 4) _ (by omega) hB2 ho2 hs2 (by omega) (by omega)).mono ?_
        rintro e w4 ⟨v4, rfl, hB4, ho4, hb4, hs4⟩
        obtain ⟨A4, c4, rfl, hl4, hc4⟩ := ho4.rb.shape
        have hN4 : Below base w1 w4 := hNB.trans hb4
        have hB6 := hB1.below hN4 (by omega)
        have mb4 := hB6.cellAt (i := 5) rfl
        have m7 := hB4.cellAt (i := 0) rfl
        have hr4 : RB w4 (.slice A f.body.length c) f.body := (h.new_ (hN0.trans hn1)).new_ (by unfold New; rw [hb]; exact hN4)
        have hll : (headF f 4 ++ be f.body.length 2).length ≤ 22 := by rw [List.length_append, length_be, hlh]; omega
        generalize hL : headF f 4 ++ be f.body.length 2 = L at ho4 hl4 hll m7 ⊢
        have hc1 : (L.map bv).length + (f.body.map bv).length ≤ maxLen := by unfold maxLen; simp; omega
        have hc2 : ((L.map bv).length + (f.body.map bv).length) * 1 ≤ 140737488355328 := by simp; omega
        have hs4' : base ≤ w4.heap.size := by omega
        clear hB2 ho2 mb hB4
        go_wp2_with (at_builtin; refine wpList_append_rd _ rfl _ _ _ rfl base 5 i0 _ 1 Try.underlying22 hi0 hz0 hz1 hz2 rfl isB_zero _ _ rfl ho4 _ (f.body.map bv) rfl hr4 (bv_one _) (isB_map _) hc1 hc2 hs4' ?_; intro v5 w5 ho5 hg5 _)
        have hb5 : Below base w1 w5 := grown_below hN4 ho4 hg5 hs4'
        have ho5' : OwnB w5 base v5 (L ++ f.body) := by unfold OwnB; rw [List.map_append]; exact ho5
        refine (put_any v5 (L ++ f.body) w5 ho5'.rb (by simp; omega)).mono ?_
        rintro e w6 ⟨v6, rfl, ho6, hn6⟩
        go_wp2
        go_ret2
        have hN5 : New w w5 := (hN0.trans hn1).trans (by unfold New; rw [hb]; exact hb5)
        exact putPost_ok Hok.out (by unfold layF; rw [hL]; exact ho6.mono hN5.size) (hN5.trans hn6)
  · have Hok := Lib.hid hok
    have hb : (checkF f != 0) = true := by rw [bne_iff_ne]; exact hok
    clear hok
    go_enter Try.func44, Try.ntmps44
    go_wp2_with fail
    refine (checkf_any f _ _ (h.new_ hN0)).mono ?_
    rintro e w1 ⟨rfl, hn1⟩
    go_wp2
    go_ret2
    exact putPost_bad rfl Hok.out (hN0.trans hn1)
end Go.Proofs.Ytkfcdfcoiglieaa
