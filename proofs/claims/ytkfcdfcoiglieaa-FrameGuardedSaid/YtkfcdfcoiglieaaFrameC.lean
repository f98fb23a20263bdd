/- frame.Check returns what the plain law says; nothing that was there turns. Conditions: a frame's body reads as bytes. -/
import Derived.Test.YtkfcdfcoiglieaaFrameA
import Derived.Test.YtkfcdfcoiglieaaFrameB
namespace Go.Proofs.Ytkfcdfcoiglieaa
open Go.RowKit

theorem as_any (f : Frm) (vb : Value) (w : World) (h : RB w vb f.body) (ht : knownB f.typ = true) :
    Calls Try.prog 88 #[fv f vb] w fun e w' => e = .returned (.bool (asF f)) ∧ New w w' := by
  obtain ⟨t, s, b, q, a, l⟩ := f
  have ht' : 1 ≤ t ∧ t ≤ 5 := of_decide_eq_true ht
  have h5 : t = 1 ∨ t = 2 ∨ t = 3 ∨ t = 4 ∨ t = 5 := by omega
  rcases h5 with rfl | rfl | rfl | rfl | rfl
  · exact as_1 s b q a vb l w h
  · exact as_2 s b q a vb l w h
  · exact as_3 s b q a vb l w h
  · exact as_4 s b q a vb l w h
  · exact as_5 s b q a vb l w h

/-- A frame's four numbers, by place. -/
def idx (f : Frm) : Nat → Int
  | 0 => f.ses
  | 1 => f.boot
  | 2 => f.seq
  | 3 => f.ack
  | _ => 0
theorem run_idx0 (a b c d : Int) (w : World) : (Instr.index 120 (.agg #[.int .i64 a, .int .i64 b, .int .i64 c, .int .i64 d]) (.int .i64 0)).run Try.prog w = .ok (.int .i64 a) w := by kernel_rfl
theorem run_idx1 (a b c d : Int) (w : World) : (Instr.index 120 (.agg #[.int .i64 a, .int .i64 b, .int .i64 c, .int .i64 d]) (.int .i64 1)).run Try.prog w = .ok (.int .i64 b) w := by kernel_rfl
theorem run_idx2 (a b c d : Int) (w : World) : (Instr.index 120 (.agg #[.int .i64 a, .int .i64 b, .int .i64 c, .int .i64 d]) (.int .i64 2)).run Try.prog w = .ok (.int .i64 c) w := by kernel_rfl
theorem run_idx3 (a b c d : Int) (w : World) : (Instr.index 120 (.agg #[.int .i64 a, .int .i64 b, .int .i64 c, .int .i64 d]) (.int .i64 3)).run Try.prog w = .ok (.int .i64 d) w := by kernel_rfl
theorem run_idx (f : Frm) (i : Nat) (hi : i < 4) (w : World) :
    (Instr.index 120 (.agg #[.int .i64 f.ses, .int .i64 f.boot, .int .i64 f.seq, .int .i64 f.ack]) (.int .i64 (i : Int))).run Try.prog w = .ok (.int .i64 (idx f i)) w := by
  have h : i = 0 ∨ i = 1 ∨ i = 2 ∨ i = 3 := by omega
  rcases h with rfl | rfl | rfl | rfl
  · exact run_idx0 _ _ _ _ w
  · exact run_idx1 _ _ _ _ w
  · exact run_idx2 _ _ _ _ w
  · exact run_idx3 _ _ _ _ w
theorem checkF_type {f : Frm} (h : knownB f.typ = false) : checkF f = 213 := by
  unfold checkF; rw [if_pos (of_decide_eq_false h)]
theorem checkF_range {f : Frm} (h : knownB f.typ = true) (i : Nat) (hi : i < 4) (hx : inId (idx f i) = false) : checkF f = 5 := by
  have ht' : 1 ≤ f.typ ∧ f.typ ≤ 5 := of_decide_eq_true h
  unfold checkF
  rw [if_neg (by simpa using ht')]
  match i, hi, hx with
  | 0, _, hx => have hx' : inId f.ses = false := hx
                rw [if_pos hx']
  | 1, _, hx => have hx' : inId f.boot = false := hx
                by_cases h0 : inId f.ses = false
                · rw [if_pos h0]
                · rw [if_neg h0, if_pos hx']
  | 2, _, hx => have hx' : inId f.seq = false := hx
                by_cases h0 : inId f.ses = false
                · rw [if_pos h0]
                · by_cases h1 : inId f.boot = false
                  · rw [if_neg h0, if_pos h1]
                  · rw [if_neg h0, if_neg h1, if_pos hx']
  | 3, _, hx => have hx' : inId f.ack = false := hx
                by_cases h0 : inId f.ses = false
                · rw [if_pos h0]
                · by_cases h1 : inId f.boot = false
                  · rw [if_neg h0, if_pos h1]
                  · by_cases h2 : inId f.seq = false
                    · rw [if_neg h0, if_neg h1, if_pos h2]
                    · rw [if_neg h0, if_neg h1, if_neg h2, if_pos hx']
theorem checkF_rest {f : Frm} (h : knownB f.typ = true) (hx : ∀ i, i < 4 → inId (idx f i) = true) : checkF f = if 1400 < f.body.length then 3 else if asF f = false then 2 else 0 := by
  have ht' : 1 ≤ f.typ ∧ f.typ ≤ 5 := of_decide_eq_true h
  have h0 : inId f.ses = true := hx 0 (by omega)
  have h1 : inId f.boot = true := hx 1 (by omega)
  have h2 : inId f.seq = true := hx 2 (by omega)
  have h3 : inId f.ack = true := hx 3 (by omega)
  unfold checkF
  rw [if_neg (by simpa using ht'), if_neg (by simp [h0]), if_neg (by simp [h1]), if_neg (by simp [h2]), if_neg (by simp [h3])]
def ChkPost (w : World) (f : Frm) (e : Ending) (w' : World) : Prop := e = .returned (.int .i64 (checkF f)) ∧ New w w'
theorem chkPost {w w' : World} {f : Frm} {n : Int} (h : checkF f = n) (hn : New w w') : ChkPost w f (.returned (.int .i64 n)) w' := ⟨by rw [h], hn⟩

set_option maxRecDepth 100000 in
set_option maxHeartbeats 1600000 in
theorem checkf_any (f : Frm) (vb : Value) (w : World) (h : RB w vb f.body) :
    Calls Try.prog 54 #[fv f vb] w (ChkPost w f) := by
  obtain ⟨A, c, rfl, hl, hc⟩ := h.shape
  have hB0 := Bk.ofNew w 47 #[.int .i64 f.typ, .int .i64 f.ses, .int .i64 f.boot, .int .i64 f.seq, .int .i64 f.ack, .slice A f.body.length c]
  have hN0 := New.alloc w (.cells #[.int .i64 f.typ, .int .i64 f.ses, .int .i64 f.boot, .int .i64 f.seq, .int .i64 f.ack, .slice A f.body.length c] 47)
  cases ht : knownB f.typ with
  | false =>
    have Hr := Lib.hid (checkF_type ht)
    go_enter Try.func54, Try.ntmps54
    go_wp2_with fail
    refine (known_any _ _).mono ?_
    rintro e w1 ⟨rfl, rfl⟩
    go_wp2
    go_ret
    exact chkPost Hr.out hN0
  | true =>
    have Hrng := Lib.hid (fun i hi => checkF_range ht i hi)
    have Hrest := Lib.hid (checkF_rest ht)
    have hidx := run_idx f
    have Hidx := Lib.hid hidx; clear hidx
    go_enter Try.func54, Try.ntmps54
    go_wp2_with fail
    refine (known_any _ _).mono ?_
    rintro e w1 ⟨rfl, rfl⟩
    generalize w.alloc (.cells #[.int .i64 f.typ, .int .i64 f.ses, .int .i64 f.boot, .int .i64 f.seq, .int .i64 f.ack, .slice A f.body.length c] 47) = w1 at hB0 hN0 ⊢
    have m0 := hB0.cellAt (i := 0) rfl
    have m1 := hB0.cellAt (i := 1) rfl
    have m2 := hB0.cellAt (i := 2) rfl
    have m3 := hB0.cellAt (i := 3) rfl
    have m4 := hB0.cellAt (i := 4) rfl
    have m5 := hB0.cellAt (i := 5) rfl
    go_wp2_with fail
    go_loop [18] (fun u18 => ∃ i : Nat, i ≤ 4 ∧ u18 = .int .i64 i ∧ ∀ j, j < i → inId (idx f j) = true) (fun u18 => 4 - (intOf u18).toNat)
    case atStart => exact ⟨0, by omega, rfl, fun j hj => by omega⟩
    case round =>
      obtain ⟨i, hi, rfl, hall⟩ := hrel
      have Hall := Lib.hid hall; clear hall
      by_cases hlt : i < 4
      · have hrun := Hidx.out i hlt w1
        cases hin : inId (idx f i) with
        | true =>
          have hb : 0 ≤ idx f i ∧ idx f i ≤ 2147483647 := by simpa [inId] using hin
          obtain ⟨hb1, hb2⟩ := hb
          have Hin := Lib.hid hin; clear hin
          go_wp2
          refine ⟨⟨i + 1, by omega, by go_num, fun j hj => ?_⟩, by simp [intOf]; omega⟩
          rcases Nat.lt_or_ge j i with h | h
          · exact Hall.out j h
          · obtain rfl : j = i := by omega
            exact Hin.out
        | false =>
          have Hr := Lib.hid (Hrng.out i hlt hin)
          have hb : idx f i < 0 ∨ 2147483647 < idx f i := by
            have : ¬ (0 ≤ idx f i ∧ idx f i ≤ 2147483647) := fun h => by simp [inId, h.1, h.2] at hin
            omega
          clear hin
          rcases hb with hb | hb
          · go_wp2
            go_ret
            exact chkPost Hr.out hN0
          · have hb0 : ¬ idx f i < 0 := by omega
            go_wp2
            go_ret
            exact chkPost Hr.out hN0
      · obtain rfl : i = 4 := by omega
        have Hr := Lib.hid (Hrest.out Hall.out)
        by_cases hlong : 1400 < f.body.length
        · go_wp2
          go_ret
          exact chkPost (by rw [Hr.out, if_pos hlong]) hN0
        · cases has : asF f with
          | true =>
            go_wp2_with fail
            refine (as_any f _ _ (h.new_ hN0) ht).mono ?_
            rintro e w2 ⟨rfl, hn2⟩
            go_wp2
            go_ret
            exact chkPost (by rw [Hr.out, if_neg hlong, has]; rfl) (hN0.trans hn2)
          | false =>
            go_wp2_with fail
            refine (as_any f _ _ (h.new_ hN0) ht).mono ?_
            rintro e w2 ⟨rfl, hn2⟩
            go_wp2
            go_ret
            exact chkPost (by rw [Hr.out, if_neg hlong, has]; rfl) (hN0.trans hn2)
end Go.Proofs.Ytkfcdfcoiglieaa
