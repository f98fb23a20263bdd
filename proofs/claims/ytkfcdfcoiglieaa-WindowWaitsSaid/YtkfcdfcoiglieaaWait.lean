/- ratio.Wait returns a number from 2 to 60, whatever the floats; math.Ceil. No condition. -/
import Derived.Test.YtkfcdfcoiglieaaRatio
namespace Go.Proofs.Ytkfcdfcoiglieaa
open Go.RowKit

/-- The whole number at or above a number. -/
def ceilN : Ieee.Datum → Nat
  | .number s m i => Ieee.Toward.up.cut s (m <<< i.toNat) (-i).toNat
  | _ => 0
def ceilB (x : Nat) : Nat := FloatKind.f64.encode ((FloatKind.f64.decode x).integral .up)

theorem read60 : FloatKind.f64.format.read 4633641066610819072 = .number false 8444249301319680 (-47) := by decide +kernel
theorem read2 : FloatKind.f64.format.read 4611686018427387904 = .number false 4503599627370496 (-51) := by decide +kernel
theorem small_int : ∀ n, n < 61 → 2 ≤ n → floatToIntVal .f64 (FloatKind.f64.encode (.number false n 0)) .i64 = some (n : Int) := by decide +kernel

theorem cut_up (N D : Nat) (h0 : 0 < N) (h : 2 ^ D ≤ N) : Ieee.Toward.up.cut false N D = (N + 2 ^ D - 1) / 2 ^ D := by
  have hlog : D ≤ N.log2 := (Nat.le_log2 (by omega)).2 h
  unfold Ieee.Toward.cut
  rw [Nat.min_eq_left (by omega), Nat.one_shiftLeft]
  have hp : 0 < 2 ^ D := Nat.two_pow_pos D
  generalize 2 ^ D = g at hp
  simp only [Bool.not_false, Bool.true_and]
  have hd := Nat.div_add_mod N g
  have hm := Nat.mod_lt N hp
  generalize N / g = q at hd ⊢
  generalize N % g = r at hd hm ⊢
  by_cases hr : r = 0
  · subst hr
    have e : N + g - 1 = g * q + (g - 1) := by omega
    rw [e, Nat.mul_add_div hp, Nat.div_eq_of_lt (by omega)]
    simp
  · have e : N + g - 1 = g * (q + 1) + (r - 1) := by rw [Nat.mul_add]; omega
    rw [e, Nat.mul_add_div hp, Nat.div_eq_of_lt (by omega)]
    simp [hr]

theorem ceil_range {x : Nat} (h1 : FloatKind.f64.format.order x 4633641066610819072 ≠ some .gt) (h2 : FloatKind.f64.format.order x 4611686018427387904 ≠ some .lt) (hn : nanB x = false) :
    ∃ m i, FloatKind.f64.decode x = .number false m i ∧ 2 ≤ ceilN (.number false m i) ∧ ceilN (.number false m i) ≤ 60 := by
  unfold nanB FloatKind.decode at hn
  unfold Ieee.Format.order at h1 h2
  rw [read60] at h1
  rw [read2] at h2
  unfold FloatKind.decode
  generalize FloatKind.f64.format.read x = d at h1 h2 hn ⊢
  cases d with
  | nan s t => simp [Ieee.Datum.isNaN] at hn
  | infinity s => cases s <;> simp [Ieee.Datum.order] at h1 h2
  | number s m i =>
    simp only [Ieee.Datum.order, ne_eq, Option.some.injEq] at h1 h2
    rw [Int.compare_eq_gt] at h1
    rw [Int.compare_eq_lt] at h2
    have hsF : ∀ (n k : Nat), Ieee.signed false n k = ((n * 2 ^ k : Nat) : Int) := fun n k => by simp [Ieee.signed, Nat.shiftLeft_eq]
    have hs : s = false := by
      cases s with
      | false => rfl
      | true =>
        exfalso
        apply h2
        rw [hsF]
        have : Ieee.signed true m (i - min i (-51)).toNat = -((m * 2 ^ (i - min i (-51)).toNat : Nat) : Int) := by simp [Ieee.signed, Nat.shiftLeft_eq]
        rw [this]
        have hp := Nat.two_pow_pos (-51 - min i (-51)).toNat
        have : 0 < 4503599627370496 * 2 ^ (-51 - min i (-51)).toNat := Nat.mul_pos (by decide) hp
        omega
    subst hs
    rw [hsF, hsF] at h1 h2
    have g1 : m * 2 ^ (i - min i (-47)).toNat ≤ 8444249301319680 * 2 ^ (-47 - min i (-47)).toNat := by omega
    have g2 : 4503599627370496 * 2 ^ (-51 - min i (-51)).toNat ≤ m * 2 ^ (i - min i (-51)).toNat := by omega
    clear h1 h2
    refine ⟨m, i, rfl, ?_⟩
    show 2 ≤ Ieee.Toward.up.cut false (m <<< i.toNat) (-i).toNat ∧ Ieee.Toward.up.cut false (m <<< i.toNat) (-i).toNat ≤ 60
    rw [Nat.shiftLeft_eq]
    -- the number as N / 2 ^ D
    have key : ∀ N D : Nat, N ≤ 60 * 2 ^ D → 2 * 2 ^ D ≤ N → 2 ≤ Ieee.Toward.up.cut false N D ∧ Ieee.Toward.up.cut false N D ≤ 60 := by
      intro N D ha hb
      have hp := Nat.two_pow_pos D
      rw [cut_up N D (by omega) (by omega)]
      generalize 2 ^ D = g at ha hb hp
      constructor
      · exact (Nat.le_div_iff_mul_le hp).2 (by omega)
      · have : (N + g - 1) / g < 61 := (Nat.div_lt_iff_lt_mul hp).2 (by omega)
        omega
    have hsplit : ∀ (a b : Nat), 2 ^ (a + b) = 2 ^ a * 2 ^ b := fun a b => Nat.pow_add 2 a b
    have c47 : 8444249301319680 = 60 * 2 ^ 47 := by decide
    have c51 : 4503599627370496 = 2 * 2 ^ 51 := by decide
    rw [c47] at g1
    rw [c51] at g2
    rcases Int.le_total 0 i with hi | hi
    · obtain ⟨k, rfl⟩ := Int.eq_ofNat_of_zero_le hi
      have e1 : ((k : Int) - min (k : Int) (-47)).toNat = k + 47 := by omega
      have e2 : (-47 - min (k : Int) (-47)).toNat = 0 := by omega
      have e3 : ((k : Int) - min (k : Int) (-51)).toNat = k + 51 := by omega
      have e4 : (-51 - min (k : Int) (-51)).toNat = 0 := by omega
      rw [e1, e2, hsplit, ← Nat.mul_assoc] at g1
      rw [e3, e4, hsplit, ← Nat.mul_assoc] at g2
      have e5 : (-(k : Int)).toNat = 0 := by omega
      rw [e5, Int.toNat_natCast]
      refine key _ 0 ?_ ?_
      · generalize m * 2 ^ k = y at g1
        simp only [Nat.pow_zero, Nat.mul_one] at g1 ⊢
        exact Nat.le_of_mul_le_mul_right g1 (Nat.two_pow_pos 47)
      · generalize m * 2 ^ k = y at g2
        simp only [Nat.pow_zero, Nat.mul_one] at g2 ⊢
        exact Nat.le_of_mul_le_mul_right g2 (Nat.two_pow_pos 51)
    · obtain ⟨D, hD⟩ : ∃ D : Nat, i = -(D : Int) := ⟨(-i).toNat, by omega⟩
      subst hD
      have e5 : (-(D : Int)).toNat = 0 := by omega
      have e6 : (- -(D : Int)).toNat = D := by omega
      rw [e5, e6, Nat.pow_zero, Nat.mul_one]
      refine key m D ?_ ?_
      · rcases Nat.le_total D 47 with h | h
        · have e1 : (-(D : Int) - min (-(D : Int)) (-47)).toNat = 47 - D := by omega
          have e2 : (-47 - min (-(D : Int)) (-47)).toNat = 0 := by omega
          rw [e1, e2, Nat.pow_zero, Nat.mul_one, show (47 : Nat) = D + (47 - D) by omega, hsplit, ← Nat.mul_assoc, Nat.add_sub_cancel_left] at g1
          exact Nat.le_of_mul_le_mul_right g1 (Nat.two_pow_pos _)
        · have e1 : (-(D : Int) - min (-(D : Int)) (-47)).toNat = 0 := by omega
          have e2 : (-47 - min (-(D : Int)) (-47)).toNat = D - 47 := by omega
          rw [e1, e2, Nat.pow_zero, Nat.mul_one, Nat.mul_assoc, ← hsplit, show 47 + (D - 47) = D by omega] at g1
          exact g1
      · rcases Nat.le_total D 51 with h | h
        · have e1 : (-(D : Int) - min (-(D : Int)) (-51)).toNat = 51 - D := by omega
          have e2 : (-51 - min (-(D : Int)) (-51)).toNat = 0 := by omega
          rw [e1, e2, Nat.pow_zero, Nat.mul_one, show (51 : Nat) = D + (51 - D) by omega, hsplit, ← Nat.mul_assoc, Nat.add_sub_cancel_left] at g2
          exact Nat.le_of_mul_le_mul_right g2 (Nat.two_pow_pos _)
        · have e1 : (-(D : Int) - min (-(D : Int)) (-51)).toNat = 0 := by omega
          have e2 : (-51 - min (-(D : Int)) (-51)).toNat = D - 51 := by omega
          rw [e1, e2, Nat.pow_zero, Nat.mul_one, Nat.mul_assoc, ← hsplit, show 51 + (D - 51) = D by omega] at g2
          exact g2

theorem toIntegral_num (nm : String) (way : Ieee.Toward) (x m : Nat) (i : Int) (hd : FloatKind.f64.decode x = .number false m i) :
    Extern.MathFloor.toIntegral nm way #[.float .f64 x] = pure (.float .f64 (FloatKind.f64.encode (Ieee.Datum.integral way (.number false m i)))) := by
  conv => lhs; whnf
  rw [hd]
theorem run_archCeil (x m : Nat) (i : Int) (hd : FloatKind.f64.decode x = .number false m i) (w : World) :
    (callFunc 111 #[.float .f64 x]).run Try.prog w = .ok (.value (.float .f64 (FloatKind.f64.encode (.number false (ceilN (.number false m i)) 0)))) w := by
  rw [run_callFunc_extern (e := Extern.MathFloor.toIntegral "math.archCeil" .up) Try.func111 (by kernel_rfl) (by kernel_rfl) (by kernel_rfl) (by kernel_rfl)]
  rw [toIntegral_num _ _ x m i hd]
  rfl
set_option maxRecDepth 100000 in
set_option maxHeartbeats 800000 in
theorem ceil_any (x m : Nat) (i : Int) (hd : FloatKind.f64.decode x = .number false m i) (w : World) :
    Calls Try.prog 110 #[.float .f64 x] w fun e w' => e = .returned (.float .f64 (FloatKind.f64.encode (.number false (ceilN (.number false m i)) 0))) ∧ w = w' := by
  have rc := run_archCeil x m i hd
  clear hd
  go_enter Try.func110, Try.ntmps110
  go_wp2
  go_ret
  exact ⟨rfl, rfl⟩

/-- ratio.Wait. -/
def waitF (mean spread : Nat) : Nat :=
  match (fb .mul 4616189618054758400 spread).bind fun p => fb .add mean p with
  | none => 60
  | some x => if FloatKind.f64.format.order x 4633641066610819072 = some .gt then 60 else if FloatKind.f64.format.order x 4611686018427387904 = some .lt then 2 else ceilN (FloatKind.f64.decode x)
theorem waitF_range (mean spread : Nat) : 2 ≤ waitF mean spread ∧ waitF mean spread ≤ 60 := by
  unfold waitF
  cases h : (fb .mul 4616189618054758400 spread).bind fun p => fb .add mean p with
  | none => simp
  | some x =>
    simp only
    split
    · simp
    · rename_i h1
      split
      · simp
      · rename_i h2
        have hn : nanB x = false := by
          obtain ⟨p, _, hp⟩ := Option.bind_eq_some_iff.1 h
          exact fb_num (.inl rfl) hp
        obtain ⟨m, i, hd, h3, h4⟩ := ceil_range h1 h2 hn
        rw [hd]
        exact ⟨h3, h4⟩
set_option maxRecDepth 100000 in
set_option maxHeartbeats 800000 in
theorem wait_any (mean spread : Nat) (w : World) :
    Calls Try.prog 109 #[.float .f64 mean, .float .f64 spread] w fun e w' => e = .returned (.int .i64 (waitF mean spread : Nat)) ∧ ∃ n, w' = w.drewN n := by
  obtain ⟨p, n1, r1, c1⟩ := run_fop (P := Try.prog) .mul (.inr (.inr rfl)) 88 4616189618054758400 spread w
  obtain ⟨x, n2, r2, c2⟩ := run_fop (P := Try.prog) .add (.inl rfl) 88 mean p (w.drewN n1)
  have hx : (fb .mul 4616189618054758400 spread).bind (fun p => fb .add mean p) = if nanB x then none else some x := by
    rcases c1 with ⟨c1, _⟩ | ⟨c1, d1⟩
    · rw [c1]
      rcases c2 with ⟨c2, d2⟩ | ⟨c2, d2⟩ <;> (show fb .add mean p = _; rw [c2, d2]; rfl)
    · rw [fb_nan_right (.inl rfl) d1] at c2
      rcases c2 with ⟨c2, _⟩ | ⟨_, d2⟩
      · cases c2
      · rw [c1, d2]; rfl
  have hw : waitF mean spread = if nanB x then 60 else if FloatKind.f64.format.order x 4633641066610819072 = some .gt then 60 else if FloatKind.f64.format.order x 4611686018427387904 = some .lt then 2 else ceilN (FloatKind.f64.decode x) := by
    unfold waitF
    rw [hx]
    cases nanB x <;> rfl
  clear hx c1 c2
  rw [World.drewN_drewN] at r2
  cases hn : nanB x with
  | true =>
    have h1 := order_nan (y := x) hn
    have Hw := Lib.hid hw; clear hw
    have Hn := Lib.hid hn; clear hn
    go_enter Try.func109, Try.ntmps109
    go_wp2
    go_ret
    exact ⟨by rw [Hw.out, Hn.out]; rfl, _, rfl⟩
  | false =>
    have h1 := order_self hn
    rw [hn] at hw
    by_cases hg : FloatKind.f64.format.order x 4633641066610819072 = some .gt
    · rw [if_neg (by decide), if_pos hg] at hw
      have Hw := Lib.hid hw; clear hw hn
      go_enter Try.func109, Try.ntmps109
      go_wp2
      go_ret
      exact ⟨by rw [Hw.out]; rfl, _, rfl⟩
    · have hg' : (FloatKind.f64.format.order x 4633641066610819072 == some .gt) = false := by simpa using hg
      by_cases hl : FloatKind.f64.format.order x 4611686018427387904 = some .lt
      · rw [if_neg (by decide), if_neg hg, if_pos hl] at hw
        have Hw := Lib.hid hw; clear hw hn hg
        go_enter Try.func109, Try.ntmps109
        go_wp2
        go_ret
        exact ⟨by rw [Hw.out]; rfl, _, rfl⟩
      · have hl' : (FloatKind.f64.format.order x 4611686018427387904 == some .lt) = false := by simpa using hl
        rw [if_neg (by decide), if_neg hg, if_neg hl] at hw
        obtain ⟨m, i, hd, h3, h4⟩ := ceil_range hg hl hn
        rw [hd] at hw
        have hci := small_int (ceilN (.number false m i)) (by omega) h3
        have hcv := run_convert_float_int (P := Try.prog) (w := w.drewN (n1 + n2)) 88 3 .f64 .i64 _ _ (by kernel_rfl) Try.underlying3 hci
        have Hw := Lib.hid hw; clear hw hn hg hl hci h3 h4
        have Hd := Lib.hid hd; clear hd
        go_enter Try.func109, Try.ntmps109
        go_wp2_with fail
        refine (ceil_any x m i Hd.out _).mono ?_
        rintro e w1 ⟨rfl, rfl⟩
        go_wp2
        go_ret
        exact ⟨by rw [Hw.out]; rfl, _, rfl⟩
end Go.Proofs.Ytkfcdfcoiglieaa
