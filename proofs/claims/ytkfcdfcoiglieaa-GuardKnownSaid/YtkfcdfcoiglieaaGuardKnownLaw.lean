/- GuardKnown returns true for every input; the input reads as it did. No condition. -/
import Derived.Test.YtkfcdfcoiglieaaLift
import Derived.Test.YtkfcdfcoiglieaaFacts
import Derived.Test.YtkfcdfcoiglieaaAw4
namespace Go.Proofs.Ytkfcdfcoiglieaa.lawGuardKnown
open Go.ChangeShapes Go.WideShapes Go.ChangeAt Go.RowKit

set_option maxRecDepth 100000 in
theorem lifted (os : Os) (started : os.Started) (H : Type) (enc : TypeId × Value → H) :
    ReturnsInHanded {} Try.checked os 5 .any (Rows.guardKnownSpec.pre6 enc Try.prog Try.f5 Rows.guardKnownRow.domain false) (Rows.guardKnownSpec.post enc Try.prog Try.f5 false true false false) := by
  refine returnsInHanded_of_change (C := Try.checked) own_knob started (by as_aux_lemma => kernel_rfl) Try.func5
    (ChangeSpec.witness6 (enc := enc) (C := Try.checked) false ⟨#[], #[], []⟩ 8 (by as_aux_lemma => kernel_rfl) (by as_aux_lemma => kernel_rfl) (by as_aux_lemma => kernel_rfl) (by as_aux_lemma => kernel_rfl)) ?_
  intro W base args ds gs before hval0 hW hcnd _
  have hval : ∀ (j : Nat) t v, Try.f5.params[j]? = some t → args[j]? = some v → Value.okWide Try.prog W .any base t v := hval0
  have hW' := hW
  obtain ⟨p, q, hA0, hV, hpq, hfz, hnd⟩ := hW
  have hA : DataW.TrodAll enc Try.prog W 0 (fun _ => true) true Try.f5.params.toList args.toList ds p := hA0
  obtain ⟨rfl, rfl⟩ := trodVars_none hV
  have post : ∀ W', New W W' → Rows.guardKnownSpec.post enc Try.prog Try.f5 false true false false W args (.bool true) W' := by
    intro W' hn
    rw [Try.params5] at hA
    obtain ⟨rfl, rfl, rfl⟩ := trodAll_none hA
    exact law_post hW' rfl rfl rfl (by rw [Try.params5]; decide +kernel) hn
  suffices h : Calls Try.prog 5 args W fun e w' => e = .returned (.bool true) ∧ New W w' from
    h.mono fun e W' ⟨he, hn⟩ => ⟨_, he, post W' hn⟩
  clear post
  rw [Try.params5] at hA hval
  obtain ⟨rfl, rfl, rfl⟩ := trodAll_none hA
  exact known4 W

theorem closed : joinedFacts Try.prog 5 Try.f5 Rows.guardKnownSpec Rows.guardKnownRow = true :=
  Facts.facts_of rfl rfl ⟨rfl, rfl, rfl, rfl, rfl, rfl, rfl, rfl, rfl, rfl, rfl, rfl⟩ (by as_aux_lemma => kernel_rfl) (by as_aux_lemma => kernel_rfl) (by as_aux_lemma => kernel_rfl)
    (by as_aux_lemma => kernel_rfl) (by as_aux_lemma => kernel_rfl) (by as_aux_lemma => kernel_rfl) (by as_aux_lemma => kernel_rfl) (by as_aux_lemma => kernel_rfl) (by as_aux_lemma => kernel_rfl)
    (by as_aux_lemma => kernel_rfl) (by as_aux_lemma => kernel_rfl) (by as_aux_lemma => kernel_rfl) (by as_aux_lemma => kernel_rfl) (by as_aux_lemma => kernel_rfl)
theorem named_is : Try.checked.prog.funcNamed Rows.guardKnownRow.func = some 5 := by kernel_rfl
theorem inst_is : Try.f5.isInstance Try.checked.prog Rows.guardKnownRow.origin Rows.guardKnownRow.targs := of_decide_eq_true (by kernel_rfl)
theorem wrap_is : Try.f5.isWrapper Try.checked.prog Rows.guardKnownRow.wrapper Rows.guardKnownRow.mainSum := by
  unfold Func.isWrapper
  first | (rw [if_pos (by decide +kernel)]; kernel_rfl) | (rw [if_neg (by decide +kernel)]; exact ⟨rfl, rfl⟩)

theorem proved : Rows.GuardKnownSaid :=
  OpenClaim.holds_of_wide 5 Try.f5 rfl rfl rfl rfl rfl rfl rfl ⟨rfl, rfl, rfl, rfl, rfl⟩ rfl rfl rfl rfl rfl named_is Try.func5 closed inst_is wrap_is
    (fun os started H enc _ => lifted os started H enc)
#print axioms proved
end Go.Proofs.Ytkfcdfcoiglieaa.lawGuardKnown
