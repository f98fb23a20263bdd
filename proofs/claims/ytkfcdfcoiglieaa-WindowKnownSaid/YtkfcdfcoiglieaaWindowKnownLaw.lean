/- WindowKnown returns true for every input; the input reads as it did. No condition. -/
import Derived.Test.YtkfcdfcoiglieaaLift
import Derived.Test.YtkfcdfcoiglieaaFacts
import Derived.Test.YtkfcdfcoiglieaaWKnown
namespace Go.Proofs.Ytkfcdfcoiglieaa.lawWindowKnown
open Go.ChangeShapes Go.WideShapes Go.ChangeAt Go.RowKit

set_option maxRecDepth 100000 in
theorem lifted (os : Os) (started : os.Started) (H : Type) (enc : TypeId × Value → H) :
    ReturnsInHanded {} Try.checked os 21 .any (Rows.windowKnownSpec.pre6 enc Try.prog Try.f21 Rows.windowKnownRow.domain false) (Rows.windowKnownSpec.post enc Try.prog Try.f21 false true false false) := by
  refine returnsInHanded_of_change (C := Try.checked) own_knob started (by as_aux_lemma => kernel_rfl) Try.func21
    (ChangeSpec.witness6 (enc := enc) (C := Try.checked) false ⟨#[], #[], []⟩ 8 (by as_aux_lemma => kernel_rfl) (by as_aux_lemma => kernel_rfl) (by as_aux_lemma => kernel_rfl) (by as_aux_lemma => kernel_rfl)) ?_
  intro W base args ds gs before hval0 hW hcnd _
  have hval : ∀ (j : Nat) t v, Try.f21.params[j]? = some t → args[j]? = some v → Value.okWide Try.prog W .any base t v := hval0
  have hW' := hW
  obtain ⟨p, q, hA0, hV, hpq, hfz, hnd⟩ := hW
  have hA : DataW.TrodAll enc Try.prog W 0 (fun _ => true) true Try.f21.params.toList args.toList ds p := hA0
  obtain ⟨rfl, rfl⟩ := trodVars_none hV
  have post : ∀ W', New W W' → Rows.windowKnownSpec.post enc Try.prog Try.f21 false true false false W args (.bool true) W' := by
    intro W' hn
    rw [Try.params21] at hA
    obtain ⟨rfl, rfl, rfl⟩ := trodAll_none hA
    exact law_post hW' rfl rfl rfl (by rw [Try.params21]; decide +kernel) hn
  suffices h : Calls Try.prog 21 args W fun e w' => e = .returned (.bool true) ∧ New W w' from
    h.mono fun e W' ⟨he, hn⟩ => ⟨_, he, post W' hn⟩
  clear post
  rw [Try.params21] at hA hval
  obtain ⟨rfl, rfl, rfl⟩ := trodAll_none hA
  exact known13 W

theorem closed : joinedFacts Try.prog 21 Try.f21 Rows.windowKnownSpec Rows.windowKnownRow = true :=
  Facts.facts_of rfl rfl ⟨rfl, rfl, rfl, rfl, rfl, rfl, rfl, rfl, rfl, rfl, rfl, rfl⟩ (by as_aux_lemma => kernel_rfl) (by as_aux_lemma => kernel_rfl) (by as_aux_lemma => kernel_rfl)
    (by as_aux_lemma => kernel_rfl) (by as_aux_lemma => kernel_rfl) (by as_aux_lemma => kernel_rfl) (by as_aux_lemma => kernel_rfl) (by as_aux_lemma => kernel_rfl) (by as_aux_lemma => kernel_rfl)
    (by as_aux_lemma => kernel_rfl) (by as_aux_lemma => kernel_rfl) (by as_aux_lemma => kernel_rfl) (by as_aux_lemma => kernel_rfl) (by as_aux_lemma => kernel_rfl)
theorem named_is : Try.checked.prog.funcNamed Rows.windowKnownRow.func = some 21 := by kernel_rfl
theorem inst_is : Try.f21.isInstance Try.checked.prog Rows.windowKnownRow.origin Rows.windowKnownRow.targs := of_decide_eq_true (by kernel_rfl)
theorem wrap_is : Try.f21.isWrapper Try.checked.prog Rows.windowKnownRow.wrapper Rows.windowKnownRow.mainSum := by
  unfold Func.isWrapper
  first | (rw [if_pos (by decide +kernel)]; kernel_rfl) | (rw [if_neg (by decide +kernel)]; exact ⟨rfl, rfl⟩)

theorem proved : Rows.WindowKnownSaid :=
  OpenClaim.holds_of_wide 21 Try.f21 rfl rfl rfl rfl rfl rfl rfl ⟨rfl, rfl, rfl, rfl, rfl⟩ rfl rfl rfl rfl rfl named_is Try.func21 closed inst_is wrap_is
    (fun os started H enc _ => lifted os started H enc)
#print axioms proved
end Go.Proofs.Ytkfcdfcoiglieaa.lawWindowKnown
