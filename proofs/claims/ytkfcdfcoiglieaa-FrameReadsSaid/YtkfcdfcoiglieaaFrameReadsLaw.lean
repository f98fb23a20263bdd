/- FrameReads returns true for every input; the input reads as it did. No condition. -/
import Derived.Test.YtkfcdfcoiglieaaLift
import Derived.Test.YtkfcdfcoiglieaaFacts
import Derived.Test.YtkfcdfcoiglieaaFrameRe
namespace Go.Proofs.Ytkfcdfcoiglieaa.lawFrameReads
open Go.ChangeShapes Go.WideShapes Go.ChangeAt Go.RowKit

set_option maxRecDepth 100000 in
theorem lifted (os : Os) (started : os.Started) (H : Type) (enc : TypeId × Value → H) :
    ReturnsInHanded {} Try.checked os 12 .any (Rows.frameReadsSpec.pre6 enc Try.prog Try.f12 Rows.frameReadsRow.domain false) (Rows.frameReadsSpec.post enc Try.prog Try.f12 false true false false) := by
  refine returnsInHanded_of_change (C := Try.checked) own_knob started (by as_aux_lemma => kernel_rfl) Try.func12
    (ChangeSpec.witness6 (enc := enc) (C := Try.checked) false ⟨#[], #[.slice none 0 0], []⟩ 8 (by as_aux_lemma => kernel_rfl) (by as_aux_lemma => kernel_rfl) (by as_aux_lemma => kernel_rfl) (by as_aux_lemma => kernel_rfl)) ?_
  intro W base args ds gs before hval0 hW hcnd _
  have hval : ∀ (j : Nat) t v, Try.f12.params[j]? = some t → args[j]? = some v → Value.okWide Try.prog W .any base t v := hval0
  have hW' := hW
  obtain ⟨p, q, hA0, hV, hpq, hfz, hnd⟩ := hW
  have hA : DataW.TrodAll enc Try.prog W 0 (fun _ => true) true Try.f12.params.toList args.toList ds p := hA0
  obtain ⟨rfl, rfl⟩ := trodVars_none hV
  have post : ∀ W', New W W' → Rows.frameReadsSpec.post enc Try.prog Try.f12 false true false false W args (.bool true) W' := by
    intro W' hn
    rw [Try.params12] at hA
    obtain ⟨v0, d0, rfl, rfl, h0⟩ := trodAll_one hA
    exact law_post hW' rfl rfl rfl (by rw [Try.params12]; decide +kernel) hn
  suffices h : Calls Try.prog 12 args W fun e w' => e = .returned (.bool true) ∧ New W w' from
    h.mono fun e W' ⟨he, hn⟩ => ⟨_, he, post W' hn⟩
  clear post
  rw [Try.params12] at hA hval
  obtain ⟨v0, d0, rfl, rfl, h0⟩ := trodAll_one hA
  obtain ⟨l0, r0⟩ := open_bytes (hval 0 _ v0 rfl rfl) h0
  exact reads_law v0 l0 W r0

theorem closed : joinedFacts Try.prog 12 Try.f12 Rows.frameReadsSpec Rows.frameReadsRow = true :=
  Facts.facts_of rfl rfl ⟨rfl, rfl, rfl, rfl, rfl, rfl, rfl, rfl, rfl, rfl, rfl, rfl⟩ (by as_aux_lemma => kernel_rfl) (by as_aux_lemma => kernel_rfl) (by as_aux_lemma => kernel_rfl)
    (by as_aux_lemma => kernel_rfl) (by as_aux_lemma => kernel_rfl) (by as_aux_lemma => kernel_rfl) (by as_aux_lemma => kernel_rfl) (by as_aux_lemma => kernel_rfl) (by as_aux_lemma => kernel_rfl)
    (by as_aux_lemma => kernel_rfl) (by as_aux_lemma => kernel_rfl) (by as_aux_lemma => kernel_rfl) (by as_aux_lemma => kernel_rfl) (by as_aux_lemma => kernel_rfl)
theorem named_is : Try.checked.prog.funcNamed Rows.frameReadsRow.func = some 12 := by kernel_rfl
theorem inst_is : Try.f12.isInstance Try.checked.prog Rows.frameReadsRow.origin Rows.frameReadsRow.targs := of_decide_eq_true (by kernel_rfl)
theorem wrap_is : Try.f12.isWrapper Try.checked.prog Rows.frameReadsRow.wrapper Rows.frameReadsRow.mainSum := by
  unfold Func.isWrapper
  first | (rw [if_pos (by decide +kernel)]; kernel_rfl) | (rw [if_neg (by decide +kernel)]; exact ⟨rfl, rfl⟩)

theorem proved : Rows.FrameReadsSaid :=
  OpenClaim.holds_of_wide 12 Try.f12 rfl rfl rfl rfl rfl rfl rfl ⟨rfl, rfl, rfl, rfl, rfl⟩ rfl rfl rfl rfl rfl named_is Try.func12 closed inst_is wrap_is
    (fun os started H enc _ => lifted os started H enc)
#print axioms proved
end Go.Proofs.Ytkfcdfcoiglieaa.lawFrameReads
