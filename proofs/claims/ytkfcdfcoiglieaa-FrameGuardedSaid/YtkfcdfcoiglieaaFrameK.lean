/- satchellaw11.awake answers true; guarded puts. No condition. -/
import Derived.Test.YtkfcdfcoiglieaaFrameR
import Derived.Test.YtkfcdfcoiglieaaFrameS
namespace Go.Proofs.Ytkfcdfcoiglieaa
open Go.RowKit

theorem check_syn : checkF synF = 0 := by decide
theorem lay_syn_len : (layF synF).length = 26 := by decide +kernel
theorem lay_syn_take : (layF synF).take 22 = synHead := by decide +kernel
theorem lay_syn_take_dec : decide ((layF synF).take 22 = synHead) = true := decide_eq_true lay_syn_take
theorem err_syn : errR (layF synF) = 0 := by decide +kernel
theorem read_syn : sameF (readF (layF synF)) synF = true := by decide +kernel
theorem frm_syn : readF (layF synF) = synF := sameF_eq.1 read_syn
theorem put_syn (w : World) : Calls Try.prog 44 #[fv synF (.slice none 0 0)] w fun e w' =>
    ∃ A c, e = .returned (.tuple #[.slice A 26 c, .int .i64 0]) ∧ 26 ≤ c ∧ c ≤ 9223372036854775807 ∧ OwnB w' w.heap.size (.slice A 26 c) (layF synF) ∧ New w w' :=
  (putf_any synF _ w (RB.nil w)).mono fun e w' ⟨v', he, ho, hn⟩ => by
    rw [if_pos check_syn] at ho
    rw [check_syn] at he
    obtain ⟨A, c, rfl, hl, hc⟩ := ho.rb.shape
    rw [lay_syn_len] at he ho hl
    exact ⟨A, c, he, hl, hc, ho, hn⟩
theorem read_syn_any (v : Value) (w : World) (h : RB w v (layF synF)) : Calls Try.prog 57 #[v] w fun e w' =>
    ∃ v', e = .returned (.tuple #[fv synF v', .int .i64 0]) ∧ RB w' v' [] ∧ New w w' :=
  (readf_any v _ w h (by rw [lay_syn_len]; omega)).mono fun e w' ⟨v', he, ho, hn⟩ => by
    rw [err_syn, frm_syn] at he
    rw [frm_syn] at ho
    exact ⟨v', he, ho.rb, hn⟩

set_option maxRecDepth 100000 in
set_option maxHeartbeats 1600000 in
theorem awake11 (w : World) : Calls Try.prog 56 #[] w fun e w' => e = .returned (.bool true) ∧ New w w' := by
  go_enter Try.func56, Try.ntmps56
  go_wp2_with fail
  refine (syn_any _).mono ?_
  rintro e w1 ⟨rfl, hn1⟩
  go_wp2_with fail
  refine (put_syn _).mono ?_
  rintro e w2 ⟨A, c, rfl, hc1, hc2, hown, hn2⟩
  have hn := hn1.trans hn2
  have hb22 : (22 : Int) ≤ (c : Int) := by omega
  go_upto_region 2 with fail
  go_region_held3 (fun _ => True) (trivial) (first
    | (go_at_call 92; refine (laid_any _).mono ?_; rintro e w3 ⟨v3, rfl, hown3, hn3⟩)
    | (go_at_call 31; refine (same_any _ _ ((layF synF).take 22) synHead _ (by exact (hown.rb.take 22 (by omega)).new_ ((New.drew w2).trans hn3)) hown3.rb).mono ?_; rintro e w4 ⟨rfl, rfl⟩))
  rw [lay_syn_take_dec]
  go_wp2_with fail
  refine (read_syn_any _ _ (hown.rb.new_ ((New.drew w2).trans hn3))).mono ?_
  rintro e w4 ⟨v4, rfl, hr4, hn4⟩
  obtain ⟨A4, c4, rfl, hl4, hc4⟩ := hr4.shape
  have hn5 := ((hn.trans (New.drew w2)).trans hn3).trans hn4
  go_upto_region 5 with fail
  have hB := Bk.ofNew w4 47 #[.int .i64 synF.typ, .int .i64 synF.ses, .int .i64 synF.boot, .int .i64 synF.seq, .int .i64 synF.ack, .slice A4 0 c4]
  have hn6 := hn5.trans (New.alloc w4 (.cells #[.int .i64 synF.typ, .int .i64 synF.ses, .int .i64 synF.boot, .int .i64 synF.seq, .int .i64 synF.ack, .slice A4 0 c4] 47))
  have hr6 := hr4.new_ (New.alloc w4 (.cells #[.int .i64 synF.typ, .int .i64 synF.ses, .int .i64 synF.boot, .int .i64 synF.seq, .int .i64 synF.ack, .slice A4 0 c4] 47))
  have hg : w4.heap.size = w4.heap.size := rfl
  clear hg
  generalize w4.alloc (.cells #[.int .i64 synF.typ, .int .i64 synF.ses, .int .i64 synF.boot, .int .i64 synF.seq, .int .i64 synF.ack, .slice A4 0 c4] 47) = w5 at hB hn6 hr6 ⊢
  generalize w4.heap.size = g at hB ⊢
  have m0 := hB.cellAt (i := 0) rfl
  have m1 := hB.cellAt (i := 1) rfl
  have m2 := hB.cellAt (i := 2) rfl
  have m3 := hB.cellAt (i := 3) rfl
  have m4 := hB.cellAt (i := 4) rfl
  have m5 := hB.cellAt (i := 5) rfl
  go_region_held3 (fun w' => w'.cell? ⟨g, 0, none⟩ = some (.int .i64 synF.typ) ∧ w'.cell? ⟨g, 1, none⟩ = some (.int .i64 synF.ses) ∧ w'.cell? ⟨g, 2, none⟩ = some (.int .i64 synF.boot) ∧ w'.cell? ⟨g, 3, none⟩ = some (.int .i64 synF.seq) ∧ w'.cell? ⟨g, 4, none⟩ = some (.int .i64 synF.ack) ∧ w'.cell? ⟨g, 5, none⟩ = some (.slice A4 0 c4)) (first | exact ⟨m0, m1, m2, m3, m4, m5⟩ | exact ⟨hn7.cell m0, hn7.cell m1, hn7.cell m2, hn7.cell m3, hn7.cell m4, hn7.cell m5⟩ | exact ⟨hn8.cell (hn7.cell m0), hn8.cell (hn7.cell m1), hn8.cell (hn7.cell m2), hn8.cell (hn7.cell m3), hn8.cell (hn7.cell m4), hn8.cell (hn7.cell m5)⟩) (first
    | (go_at_call 62; refine (syn_any _).mono ?_; rintro e w6 ⟨rfl, hn7⟩)
    | (go_at_call 59; refine (samef_any synF synF (.slice A4 0 c4) (.slice none 0 0) _ (hr6.new_ ((New.drew w5).trans hn7)) (RB.nil _)).mono ?_; rintro e w7 ⟨rfl, hn8⟩))
  rw [sameF_refl]
  go_wp2
  go_ret
  exact ⟨rfl, ((hn6.trans (New.drew w5)).trans hn7).trans hn8⟩
end Go.Proofs.Ytkfcdfcoiglieaa
