/- An argument that is a byte. No condition. -/
import Derived.Test.YtkfcdfcoiglieaaLift
namespace Go.Proofs.Ytkfcdfcoiglieaa
open Go.ChangeShapes Go.WideShapes Go.ChangeAt Go.RowKit
variable {H : Type} {enc : TypeId × Value → H}
set_option maxRecDepth 100000 in
theorem open_u8 {W : World} {base : Nat} {v : Value} {d : DataW H} {p : List MemPlace} (hval : Value.okWide Try.prog W .any base 5 v)
    (h : DataW.Trod enc Try.prog W 0 (fun _ => true) true 5 v d p) : ∃ c : UInt8, v = bv c := by
  obtain ⟨n, rfl, _, _, hw⟩ := open_int Try.underlying5 hval h
  simp [Lit.wf, IntKind.min, IntKind.max, IntKind.signed, IntKind.bits] at hw
  refine ⟨UInt8.ofNat n.toNat, ?_⟩
  show _ = Value.int .u8 _
  rw [UInt8.toNat_ofNat_of_lt' (by show _ < 256; omega)]
  congr 1; omega
end Go.Proofs.Ytkfcdfcoiglieaa
