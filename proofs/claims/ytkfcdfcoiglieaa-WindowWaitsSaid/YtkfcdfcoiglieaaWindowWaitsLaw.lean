/- WindowWaits returns true for every input; the input reads as it did. No condition. -/
import Derived.Test.YtkfcdfcoiglieaaLift
import Derived.Test.YtkfcdfcoiglieaaFacts
import Derived.Test.YtkfcdfcoiglieaaLift5
import Derived.Test.YtkfcdfcoiglieaaWWaits
namespace Go.Proofs.Ytkfcdfcoiglieaa.lawWindowWaits
open Go.ChangeShapes Go.WideShapes Go.ChangeAt Go.RowKit

set_option maxRecDepth 100000 in
theorem lifted (os : Os) (started : os.Started) (H : Type) (enc : TypeId × Value → H) :
    ReturnsInHanded {} Try.checked os 18 .any (Rows.windowWaitsSpec.pre6 enc Try.prog Try.f18 Rows.windowWaitsRow.domain false) (Rows.windowWaitsSpec.post enc Try.prog Try.f18 false true false false) := by
  refine returnsInHanded_of_change (C := Try.checked) own_knob started (by as_aux_lemma => kernel_rfl) Try.func18
    (ChangeSpec.witness6 (enc := enc) (C := Try.checked) false ⟨#[], #[.int .i64 0, .int .i64 0, .int .i64 0, .int .i64 0, .int .i64 0], []⟩ 8 (by as_aux_lemma => kernel_rfl) (by as_aux_lemma => kernel_rfl) (by as_aux_lemma => kernel_rfl) (by as_aux_lemma => kernel_rfl)) ?_
  intro W base args ds gs before hval0 hW hcnd _
  have hval : ∀ (j : Nat) t v, Try.f18.params[j]? = some t → args[j]? = some v → Value.okWide Try.prog W .any base t v := hval0
  have hW' := hW
  obtain ⟨p, q, hA0, hV, hpq, hfz, hnd⟩ := hW
  have hA : DataW.TrodAll enc Try.prog W 0 (fun _ => true) true Try.f18.params.toList args.toList ds p := hA0
  obtain ⟨rfl, rfl⟩ := trodVars_none hV
  have post : ∀ W', New W W' → Rows.windowWaitsSpec.post enc Try.prog Try.f18 false true false false W args (.bool true) W' := by
    intro W' hn
    rw [Try.params18] at hA
    obtain ⟨v0, v1, v2, v3, v4, d0, d1, d2, d3, d4, p0, p1, p2, p3, p4, rfl, rfl, hp, h0, h1, h2, h3, h4⟩ := trodAll_five hA
    exact law_post hW' rfl rfl rfl (by rw [Try.params18]; decide +kernel) hn
  suffices h : Calls Try.prog 18 args W fun e w' => e = .returned (.bool true) ∧ New W w' from
    h.mono fun e W' ⟨he, hn⟩ => ⟨_, he, post W' hn⟩
  clear post
  rw [Try.params18] at hA hval
  obtain ⟨v0, v1, v2, v3, v4, d0, d1, d2, d3, d4, p0, p1, p2, p3, p4, rfl, rfl, hp, h0, h1, h2, h3, h4⟩ := trodAll_five hA
  obtain ⟨x0, rfl, _, _⟩ := open_int64 (hval 0 _ v0 rfl rfl) h0
  obtain ⟨x1, rfl, _, _⟩ := open_int64 (hval 1 _ v1 rfl rfl) h1
  obtain ⟨x2, rfl, _, _⟩ := open_int64 (hval 2 _ v2 rfl rfl) h2
  obtain ⟨x3, rfl, _, _⟩ := open_int64 (hval 3 _ v3 rfl rfl) h3
  obtain ⟨x4, rfl, _, _⟩ := open_int64 (hval 4 _ v4 rfl rfl) h4
  exact waits13 x0 x1 x2 x3 x4 W

theorem closed : joinedFacts Try.prog 18 Try.f18 Rows.windowWaitsSpec Rows.windowWaitsRow = true :=
  Facts.facts_of rfl rfl ⟨rfl, rfl, rfl, rfl, rfl, rfl, rfl, rfl, rfl, rfl, rfl, rfl⟩ (by as_aux_lemma => kernel_rfl) (by as_aux_lemma => kernel_rfl) (by as_aux_lemma => kernel_rfl)
    (by as_aux_lemma => kernel_rfl) (by as_aux_lemma => kernel_rfl) (by as_aux_lemma => kernel_rfl) (by as_aux_lemma => kernel_rfl) (by as_aux_lemma => kernel_rfl) (by as_aux_lemma => kernel_rfl)
    (by as_aux_lemma => kernel_rfl) (by as_aux_lemma => kernel_rfl) (by as_aux_lemma => kernel_rfl) (by as_aux_lemma => kernel_rfl) (by as_aux_lemma => kernel_rfl)
theorem named_is : Try.checked.prog.funcNamed Rows.windowWaitsRow.func = some 18 := by kernel_rfl
theorem inst_is : Try.f18.isInstance Try.checked.prog Rows.windowWaitsRow.origin Rows.windowWaitsRow.targs := of_decide_eq_true (by kernel_rfl)
theorem wrap_is : Try.f18.isWrapper Try.checked.prog Rows.windowWaitsRow.wrapper Rows.windowWaitsRow.mainSum := by
  unfold Func.isWrapper
  first | (rw [if_pos (by decide +kernel)]; kernel_rfl) | (rw [if_neg (by decide +kernel)]; exact ⟨rfl, rfl⟩)

theorem proved : Rows.WindowWaitsSaid :=
  OpenClaim.holds_of_wide 18 Try.f18 rfl rfl rfl rfl rfl rfl rfl ⟨rfl, rfl, rfl, rfl, rfl⟩ rfl rfl rfl rfl rfl named_is Try.func18 closed inst_is wrap_is
    (fun os started H enc _ => lifted os started H enc)
#print axioms proved
end Go.Proofs.Ytkfcdfcoiglieaa.lawWindowWaits
