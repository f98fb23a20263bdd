/- WindowNone returns true for every input; the input reads as it did. No condition. -/
import Derived.Test.YtkfcdfcoiglieaaLift
import Derived.Test.YtkfcdfcoiglieaaFacts
import Derived.Test.YtkfcdfcoiglieaaLiftA
import Derived.Test.YtkfcdfcoiglieaaWNone
namespace Go.Proofs.Ytkfcdfcoiglieaa.lawWindowNone
open Go.ChangeShapes Go.WideShapes Go.ChangeAt Go.RowKit

set_option maxRecDepth 100000 in
theorem lifted (os : Os) (started : os.Started) (H : Type) (enc : TypeId × Value → H) :
    ReturnsInHanded {} Try.checked os 22 .any (Rows.windowNoneSpec.pre6 enc Try.prog Try.f22 Rows.windowNoneRow.domain false) (Rows.windowNoneSpec.post enc Try.prog Try.f22 false true false false) := by
  refine returnsInHanded_of_change_sized (C := Try.checked) own_knob started (by as_aux_lemma => kernel_rfl) Try.func22
    (ChangeSpec.witness6 (enc := enc) (C := Try.checked) false ⟨#[], #[.agg #[.int .i64 0, .int .i64 0, .int .i64 0, .slice none 0 0]], []⟩ 8 (by as_aux_lemma => kernel_rfl) (by as_aux_lemma => kernel_rfl) (by as_aux_lemma => kernel_rfl) (by as_aux_lemma => kernel_rfl)) ?_
  intro W base args ds gs before hval0 hW hcnd hsz0 _
  have hval : ∀ (j : Nat) t v, Try.f22.params[j]? = some t → args[j]? = some v → Value.okWide Try.prog W .any base t v := hval0
  have hW' := hW
  obtain ⟨p, q, hA0, hV, hpq, hfz, hnd⟩ := hW
  have hA : DataW.TrodAll enc Try.prog W 0 (fun _ => true) true Try.f22.params.toList args.toList ds p := hA0
  obtain ⟨rfl, rfl⟩ := trodVars_none hV
  have post : ∀ W', New W W' → Rows.windowNoneSpec.post enc Try.prog Try.f22 false true false false W args (.bool true) W' := by
    intro W' hn
    rw [Try.params22] at hA
    obtain ⟨v0, d0, rfl, rfl, h0⟩ := trodAll_one hA
    exact law_post hW' rfl rfl rfl (by rw [Try.params22]; decide +kernel) hn
  suffices h : Calls Try.prog 22 args W fun e w' => e = .returned (.bool true) ∧ New W w' from
    h.mono fun e W' ⟨he, hn⟩ => ⟨_, he, post W' hn⟩
  clear post
  rw [Try.params22] at hA hval
  obtain ⟨v0, d0, rfl, rfl, h0⟩ := trodAll_one hA
  have hs0 := hsz0
  rw [Try.params22] at hs0
  obtain ⟨a0, u0, rfl, r0, hb0, _⟩ := open_act (hval 0 _ v0 rfl rfl) h0 (weights_first hs0).1
  exact none13 a0 u0 W r0 hb0

theorem closed : joinedFacts Try.prog 22 Try.f22 Rows.windowNoneSpec Rows.windowNoneRow = true :=
  Facts.facts_of rfl rfl ⟨rfl, rfl, rfl, rfl, rfl, rfl, rfl, rfl, rfl, rfl, rfl, rfl⟩ (by as_aux_lemma => kernel_rfl) (by as_aux_lemma => kernel_rfl) (by as_aux_lemma => kernel_rfl)
    (by as_aux_lemma => kernel_rfl) (by as_aux_lemma => kernel_rfl) (by as_aux_lemma => kernel_rfl) (by as_aux_lemma => kernel_rfl) (by as_aux_lemma => kernel_rfl) (by as_aux_lemma => kernel_rfl)
    (by as_aux_lemma => kernel_rfl) (by as_aux_lemma => kernel_rfl) (by as_aux_lemma => kernel_rfl) (by as_aux_lemma => kernel_rfl) (by as_aux_lemma => kernel_rfl)
theorem named_is : Try.checked.prog.funcNamed Rows.windowNoneRow.func = some 22 := by kernel_rfl
theorem inst_is : Try.f22.isInstance Try.checked.prog Rows.windowNoneRow.origin Rows.windowNoneRow.targs := of_decide_eq_true (by kernel_rfl)
theorem wrap_is : Try.f22.isWrapper Try.checked.prog Rows.windowNoneRow.wrapper Rows.windowNoneRow.mainSum := by
  unfold Func.isWrapper
  first | (rw [if_pos (by decide +kernel)]; kernel_rfl) | (rw [if_neg (by decide +kernel)]; exact ⟨rfl, rfl⟩)

theorem proved : Rows.WindowNoneSaid :=
  OpenClaim.holds_of_wide 22 Try.f22 rfl rfl rfl rfl rfl rfl rfl ⟨rfl, rfl, rfl, rfl, rfl⟩ rfl rfl rfl rfl rfl named_is Try.func22 closed inst_is wrap_is
    (fun os started H enc _ => lifted os started H enc)
#print axioms proved
end Go.Proofs.Ytkfcdfcoiglieaa.lawWindowNone
