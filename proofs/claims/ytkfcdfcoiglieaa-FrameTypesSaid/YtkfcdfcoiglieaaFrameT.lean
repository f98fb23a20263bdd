/- satchellaw11.FrameTypes returns true. Conditions: the frame's body reads as bytes. -/
import Derived.Test.YtkfcdfcoiglieaaFrameT1
import Derived.Test.YtkfcdfcoiglieaaFrameT2
import Derived.Test.YtkfcdfcoiglieaaFrameT3
import Derived.Test.YtkfcdfcoiglieaaFrameT4
import Derived.Test.YtkfcdfcoiglieaaFrameT5
namespace Go.Proofs.Ytkfcdfcoiglieaa
open Go.RowKit

/-- What a frame that may be is. -/
theorem checkF_cases {f : Frm} (h : checkF f = 0) : (1 ≤ f.ses ∧ f.ses ≤ 2147483647) ∧ (0 ≤ f.boot ∧ f.boot ≤ 2147483647) ∧ (0 ≤ f.seq ∧ f.seq ≤ 2147483647) ∧ (0 ≤ f.ack ∧ f.ack ≤ 2147483647) ∧ f.body.length ≤ 1400 ∧
    ((f.typ = 1 ∧ f.boot = 0 ∧ f.seq = 0 ∧ f.ack = 0 ∧ f.body = []) ∨ (f.typ = 2 ∧ 1 ≤ f.boot ∧ f.seq = 0 ∧ f.ack = 0 ∧ f.body = []) ∨ (f.typ = 3 ∧ 1 ≤ f.boot ∧ 1 ≤ f.seq) ∨
      (f.typ = 4 ∧ 1 ≤ f.boot ∧ f.seq = 0 ∧ f.body = []) ∨ (f.typ = 5 ∧ f.seq = 0 ∧ f.ack = 0 ∧ f.body = [])) := by
  obtain ⟨t, s, b, q, a, l⟩ := f
  unfold checkF at h
  simp only at h ⊢
  by_cases ht : ¬ (1 ≤ t ∧ t ≤ 5)
  · rw [if_pos ht] at h; cases h
  rw [if_neg ht] at h
  cases h1 : inId s with
  | false => rw [h1, if_pos rfl] at h; cases h
  | true =>
  cases h2 : inId b with
  | false => rw [h1, h2, if_neg (by simp), if_pos rfl] at h; cases h
  | true =>
  cases h3 : inId q with
  | false => rw [h1, h2, h3, if_neg (by simp), if_neg (by simp), if_pos rfl] at h; cases h
  | true =>
  cases h4 : inId a with
  | false => rw [h1, h2, h3, h4, if_neg (by simp), if_neg (by simp), if_neg (by simp), if_pos rfl] at h; cases h
  | true =>
  rw [h1, h2, h3, h4, if_neg (by simp), if_neg (by simp), if_neg (by simp), if_neg (by simp)] at h
  by_cases hl : 1400 < l.length
  · rw [if_pos hl] at h; cases h
  rw [if_neg hl] at h
  cases has : asF ⟨t, s, b, q, a, l⟩ with
  | false => rw [has, if_pos rfl] at h; cases h
  | true =>
  clear h
  simp only [inId, Bool.and_eq_true, decide_eq_true_eq] at h1 h2 h3 h4
  have h5 : t = 1 ∨ t = 2 ∨ t = 3 ∨ t = 4 ∨ t = 5 := by omega
  rcases h5 with rfl | rfl | rfl | rfl | rfl <;> simp [asF] at has <;> obtain ⟨g1, g2⟩ := has
  · exact ⟨by omega, by omega, by omega, by omega, by omega, .inl ⟨rfl, by omega, by omega, by omega, g2.2⟩⟩
  · exact ⟨by omega, by omega, by omega, by omega, by omega, .inr (.inl ⟨rfl, by omega, by omega, by omega, g2.2⟩)⟩
  · exact ⟨by omega, by omega, by omega, by omega, by omega, .inr (.inr (.inl ⟨rfl, by omega, by omega⟩))⟩
  · exact ⟨by omega, by omega, by omega, by omega, by omega, .inr (.inr (.inr (.inl ⟨rfl, by omega, by omega, g2.2⟩)))⟩
  · exact ⟨by omega, by omega, by omega, by omega, by omega, .inr (.inr (.inr (.inr ⟨rfl, by omega, by omega, g2.2⟩)))⟩

set_option maxRecDepth 100000 in
set_option maxHeartbeats 1600000 in
theorem types_law (f : Frm) (vb : Value) (o : Int) (w : World) (h : RB w vb f.body) :
    Calls Try.prog 16 #[fv f vb, .int .i64 o] w fun e w' => e = .returned (.bool true) ∧ New w w' := by
  by_cases hc : checkF f = 0
  · obtain ⟨⟨a1, a2⟩, ⟨b1, b2⟩, ⟨c1, c2⟩, ⟨d1, d2⟩, hl, hk⟩ := checkF_cases hc
    obtain ⟨t, s, b, q, a, l⟩ := f
    simp only at a1 a2 b1 b2 c1 c2 d1 d2 hl hk h
    rcases hk with ⟨rfl, rfl, rfl, rfl, rfl⟩ | ⟨rfl, k1, rfl, rfl, rfl⟩ | ⟨rfl, k1, k2⟩ | ⟨rfl, k1, rfl, rfl⟩ | ⟨rfl, rfl, rfl, rfl⟩
    · exact types_1 s o vb w h a1 a2
    · exact types_2 s b o vb w h a1 a2 k1 b2
    · exact types_3 s b q a o l vb w h a1 a2 k1 b2 k2 c2 d1 d2 hl
    · exact types_4 s b a o vb w h a1 a2 k1 b2 d1 d2
    · exact types_5 s b o vb w h a1 a2 b1 b2
  · obtain ⟨A, c, rfl, hl, hcc⟩ := h.shape
    have hB0 := Bk.ofNew w 47 #[.int .i64 f.typ, .int .i64 f.ses, .int .i64 f.boot, .int .i64 f.seq, .int .i64 f.ack, .slice A f.body.length c]
    have hN0 := New.alloc w (.cells #[.int .i64 f.typ, .int .i64 f.ses, .int .i64 f.boot, .int .i64 f.seq, .int .i64 f.ack, .slice A f.body.length c] 47)
    have hn : (checkF f != 0) = true := bne_iff_ne.2 hc
    have Hc := Lib.hid hc; clear hc
    by_cases hlong : 2000 < f.body.length
    · go_enter Try.func16, Try.ntmps16
      go_wp2_with fail
      refine (awake11 _).mono ?_
      rintro e w1 ⟨rfl, hn1⟩
      have hB1 := hB0.new_ hn1
      have m5 := hB1.cellAt (i := 5) rfl
      go_wp2
      go_ret
      exact ⟨rfl, hN0.trans hn1⟩
    · go_enter Try.func16, Try.ntmps16
      go_wp2_with fail
      refine (awake11 _).mono ?_
      rintro e w1 ⟨rfl, hn1⟩
      have hB1 := hB0.new_ hn1
      have m0 := hB1.cellAt (i := 0) rfl
      have m1 := hB1.cellAt (i := 1) rfl
      have m2 := hB1.cellAt (i := 2) rfl
      have m3 := hB1.cellAt (i := 3) rfl
      have m4 := hB1.cellAt (i := 4) rfl
      have m5 := hB1.cellAt (i := 5) rfl
      go_wp2_with fail
      refine (checkf_any f _ _ ((h.new_ hN0).new_ hn1)).mono ?_
      rintro e w2 ⟨rfl, hn2⟩
      go_wp2
      go_ret
      exact ⟨rfl, (hN0.trans hn1).trans hn2⟩
end Go.Proofs.Ytkfcdfcoiglieaa
