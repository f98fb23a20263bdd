/- ratio.Spread as a function of its operands, where the old spread is a number. No other condition. -/
import Derived.Test.YtkfcdfcoiglieaaRatio
import Derived.Laws.BitsAllLaws
namespace Go.Proofs.Ytkfcdfcoiglieaa
open Go.RowKit

theorem one_and : bits .and .u64 4607182418800017408 9223372036854775808 = 0 := by decide
theorem wrap_u64 (n : Nat) (h : n < 2 ^ 64) : IntKind.u64.wrap (n : Int) = (n : Int) := by
  simp [IntKind.wrap, IntKind.signed, IntKind.bits]; omega
theorem andNot_u64 (g : Nat) : bits .andNot .u64 (g : Int) 9223372036854775808 = ((g % 2 ^ 63 : Nat) : Int) := by
  show IntKind.u64.wrap ((BitVec.ofInt 64 (g : Int) &&& ~~~(BitVec.ofInt 64 9223372036854775808)).toNat : Int) = _
  have hm : ~~~(BitVec.ofInt 64 9223372036854775808) = BitVec.ofNat 64 (2 ^ 63 - 1) := by decide
  have : (BitVec.ofInt 64 (g : Int) &&& ~~~(BitVec.ofInt 64 9223372036854775808)).toNat = g % 2 ^ 63 := by
    rw [hm, BitVec.toNat_and, BitVec.ofInt_natCast, BitVec.toNat_ofNat, BitVec.toNat_ofNat, Nat.mod_eq_of_lt (show 2 ^ 63 - 1 < 2 ^ 64 by decide), Nat.and_two_pow_sub_one_eq_mod]
    omega
  rw [this, wrap_u64 _ (by omega)]
theorem absB_mod (g : Nat) : absB g = g % 2 ^ 63 := by
  unfold absB
  rw [one_and, andNot_u64]
  have : bits .or .u64 ((g % 2 ^ 63 : Nat) : Int) 0 = ((g % 2 ^ 63 : Nat) : Int) := by
    show IntKind.u64.wrap ((BitVec.ofInt 64 ((g % 2 ^ 63 : Nat) : Int) ||| BitVec.ofInt 64 0).toNat : Int) = _
    have : (BitVec.ofInt 64 ((g % 2 ^ 63 : Nat) : Int) ||| BitVec.ofInt 64 0).toNat = g % 2 ^ 63 := by
      rw [BitVec.toNat_or, BitVec.ofInt_natCast, BitVec.toNat_ofNat]
      have : (BitVec.ofInt 64 0).toNat = 0 := by decide
      rw [this, Nat.or_zero]
      omega
    rw [this, wrap_u64 _ (by omega)]
  rw [this]; rfl
theorem absB_nan {g : Nat} (h : nanB g = true) : nanB (absB g) = true := by
  rw [nan_iff] at h ⊢
  have e : FloatKind.f64.format.signWeight = 2 ^ 63 := by decide
  rw [e] at h ⊢
  rw [absB_mod]
  omega
/-- ratio.Spread. -/
def spreadF (old mean now part : Nat) : Nat := match fb .sub now mean with
  | some g => meanF old (absB g) part
  | none => old
theorem meanF_num {old now part : Nat} (h : nanB old = false) : nanB (meanF old now part) = false := by
  unfold meanF
  rw [h]
  simp only [Bool.false_eq_true, if_false]
  split
  · rename_i x hx
    obtain ⟨g, _, hx⟩ := Option.bind_eq_some_iff.1 hx
    obtain ⟨p, _, hx⟩ := Option.bind_eq_some_iff.1 hx
    exact fb_num (.inl rfl) hx
  · cases hn : nanB now with
    | true => simpa using h
    | false => simpa using hn
theorem meanF_nan {old now part : Nat} (h : nanB old = false) (hn : nanB now = true) : meanF old now part = old := by
  unfold meanF
  rw [h, fb_nan_left (.inr (.inl rfl)) hn, hn]
  rfl
theorem spreadF_num {old mean now part : Nat} (h : nanB old = false) : nanB (spreadF old mean now part) = false := by
  unfold spreadF
  split
  · exact meanF_num h
  · exact h
set_option maxRecDepth 100000 in
set_option maxHeartbeats 800000 in
theorem spread_is (old mean now part : Nat) (w : World) (ho : nanB old = false) :
    Calls Try.prog 98 #[.float .f64 old, .float .f64 mean, .float .f64 now, .float .f64 part] w fun e w' => e = .returned (.float .f64 (spreadF old mean now part)) ∧ ∃ n, w' = w.drewN n := by
  obtain ⟨g, n1, r1, c1⟩ := run_fop (P := Try.prog) .sub (.inr (.inl rfl)) 88 now mean w
  have hr : meanF old (absB g) part = spreadF old mean now part := by
    unfold spreadF
    rcases c1 with ⟨c1, _⟩ | ⟨c1, d1⟩
    · rw [c1]
    · rw [c1]
      exact meanF_nan ho (absB_nan d1)
  have Hr := Lib.hid hr; clear hr c1
  go_enter Try.func98, Try.ntmps98
  go_wp2_with fail
  refine (copysign_any g _).mono ?_
  rintro e w1 ⟨rfl, rfl⟩
  go_wp2_with fail
  refine (mean_any old (absB g) part _).mono ?_
  rintro e w2 ⟨rfl, n2, rfl⟩
  go_wp2
  go_ret
  exact ⟨by rw [← Hr.out]; rfl, n1 + n2, rfl⟩
end Go.Proofs.Ytkfcdfcoiglieaa
