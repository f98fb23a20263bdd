/- Floats of package ratio: Mean, Spread, Wait, as plain functions of the bits. No condition. -/
import Derived.Test.YtkfcdfcoiglieaaMem
import Derived.Test.YtkfcdfcoiglieaaRows
import Derived.Test.YtkfcdfcoiglieaaChecked
import Derived.Laws.Externs
namespace Go.Proofs.Ytkfcdfcoiglieaa
open Go.RowKit

/-- Is it none of the numbers? -/
def nanB (b : Nat) : Bool := (FloatKind.f64.decode b).isNaN
abbrev fb (op : BinOp) (x y : Nat) : Option Nat := floatBits op .f64 x y

theorem order_self {x : Nat} (h : nanB x = false) : FloatKind.f64.format.order x x = some .eq := by
  unfold nanB FloatKind.decode at h
  unfold Ieee.Format.order
  generalize FloatKind.f64.format.read x = d at h
  cases d with
  | nan s t => simp [Ieee.Datum.isNaN] at h
  | infinity s => cases s <;> rfl
  | number s m i => simp [Ieee.Datum.order]
theorem order_nan {x y : Nat} (h : nanB x = true) : FloatKind.f64.format.order x y = none := by
  unfold nanB FloatKind.decode at h
  unfold Ieee.Format.order
  generalize FloatKind.f64.format.read x = d at h
  generalize FloatKind.f64.format.read y = e
  cases d with
  | nan s t => cases e <;> rfl
  | infinity s => simp [Ieee.Datum.isNaN] at h
  | number s m i => simp [Ieee.Datum.isNaN] at h
theorem fb_nan_left {op : BinOp} (hop : op = .add ∨ op = .sub ∨ op = .mul) {x y : Nat} (h : nanB x = true) : fb op x y = none := by
  unfold nanB FloatKind.decode at h
  have hr : ∃ s t, FloatKind.f64.format.read x = .nan s t := by
    generalize FloatKind.f64.format.read x = d at h
    cases d with
    | nan s t => exact ⟨s, t, rfl⟩
    | infinity s => simp [Ieee.Datum.isNaN] at h
    | number s m i => simp [Ieee.Datum.isNaN] at h
  obtain ⟨s, t, hr⟩ := hr
  rcases hop with rfl | rfl | rfl <;> simp [fb, floatBits, Ieee.Format.add, Ieee.Format.sub, Ieee.Format.mul, hr, Ieee.Datum.sum, Ieee.Datum.product]
theorem fb_nan_right {op : BinOp} (hop : op = .add ∨ op = .sub ∨ op = .mul) {x y : Nat} (h : nanB y = true) : fb op x y = none := by
  unfold nanB FloatKind.decode at h
  have hr : ∃ s t, FloatKind.f64.format.read y = .nan s t := by
    generalize FloatKind.f64.format.read y = d at h
    cases d with
    | nan s t => exact ⟨s, t, rfl⟩
    | infinity s => simp [Ieee.Datum.isNaN] at h
    | number s m i => simp [Ieee.Datum.isNaN] at h
  obtain ⟨s, t, hr⟩ := hr
  rcases hop with rfl | rfl | rfl <;> simp only [fb, floatBits, Ieee.Format.add, Ieee.Format.sub, Ieee.Format.mul, hr, Ieee.Datum.opposite] <;> cases FloatKind.f64.format.read x <;> rfl
/-- What lies above the rung of infinity, its sign struck, is no number. -/
theorem nan_iff (b : Nat) : nanB b = true ↔ FloatKind.f64.format.infRung < b % FloatKind.f64.format.signWeight := by
  unfold nanB FloatKind.decode Ieee.Format.read
  simp only
  have h1 : FloatKind.f64.format.binade ≤ FloatKind.f64.format.infRung := by decide
  split
  · rename_i hlt; simp [Ieee.Datum.isNaN]; omega
  · split
    · rename_i hlt; simp [Ieee.Datum.isNaN]; omega
    · split
      · rename_i he; simp [Ieee.Datum.isNaN]; omega
      · simp [Ieee.Datum.isNaN]; omega
theorem word_mod (neg : Bool) (r : Nat) (h : r ≤ FloatKind.f64.format.infRung) : FloatKind.f64.format.word neg r % FloatKind.f64.format.signWeight = r := by
  have h1 := FloatKind.f64.format.infRung_lt
  unfold Ieee.Format.word
  split
  · rw [Nat.add_mod_left]; exact Nat.mod_eq_of_lt (by omega)
  · exact Nat.mod_eq_of_lt (by omega)
theorem write_num (d : Ieee.Datum) (h : d.isNaN = false) : nanB (FloatKind.f64.format.write d) = false := by
  have key : FloatKind.f64.format.write d % FloatKind.f64.format.signWeight ≤ FloatKind.f64.format.infRung := by
    cases d with
    | nan s t => simp [Ieee.Datum.isNaN] at h
    | infinity s => simp only [Ieee.Format.write]; rw [word_mod _ _ (Nat.le_refl _)]; exact Nat.le_refl _
    | number s m i =>
      simp only [Ieee.Format.write, Ieee.Format.nearest]
      split
      · rw [word_mod _ _ (Nat.zero_le _)]; exact Nat.zero_le _
      · rw [word_mod _ _ (Nat.min_le_right _ _)]; exact Nat.min_le_right _ _
  cases hn : nanB (FloatKind.f64.format.write d) with
  | false => rfl
  | true => rw [nan_iff] at hn; omega
theorem sum_num {a b d : Ieee.Datum} (h : a.sum b = some d) : d.isNaN = false := by
  cases a <;> cases b <;> simp only [Ieee.Datum.sum] at h <;> first | (injection h with h; subst h; rfl) | (split at h <;> first | (injection h with h; subst h; rfl) | cases h) | cases h
theorem product_num {a b d : Ieee.Datum} (h : a.product b = some d) : d.isNaN = false := by
  cases a <;> cases b <;> simp only [Ieee.Datum.product] at h <;> first | (injection h with h; subst h; rfl) | (split at h <;> first | (injection h with h; subst h; rfl) | cases h) | cases h
theorem fb_num {op : BinOp} (hop : op = .add ∨ op = .sub ∨ op = .mul) {x y r : Nat} (h : fb op x y = some r) : nanB r = false := by
  rcases hop with rfl | rfl | rfl <;> simp only [fb, floatBits, Ieee.Format.add, Ieee.Format.sub, Ieee.Format.mul, Option.map_eq_some_iff] at h <;> obtain ⟨d, hd, rfl⟩ := h
  · exact write_num d (sum_num hd)
  · exact write_num d (sum_num hd)
  · exact write_num d (product_num hd)

/-- The bits that are drawn for none of the numbers. -/
def drawnNan (w : World) (x y : Nat) : Nat := Question.cut (.nanBits .f64 x y) (w.tape w.drawn (.nanBits .f64 x y))
theorem drawnNan_nan (w : World) (x y : Nat) : nanB (drawnNan w x y) = true := by
  rw [nan_iff]
  unfold drawnNan Question.cut
  have e1 : FloatKind.f64.format.infRung = 0x7ff0000000000000 := by decide
  have e2 : FloatKind.f64.format.signWeight = 2 ^ 63 := by decide
  rw [e1, e2]
  simp only
  generalize w.tape w.drawn (.nanBits .f64 x y) = t
  have hc : t / 2 % (2 ^ 52 - 1) < 2 ^ 52 - 1 := Nat.mod_lt _ (by decide)
  generalize t / 2 % (2 ^ 52 - 1) = c at hc ⊢
  have h2 : t % 2 = 0 ∨ t % 2 = 1 := by omega
  rcases h2 with h2 | h2 <;> rw [h2] <;> simp only [Nat.reducePow, Nat.reduceSub, Nat.reduceMul] at hc ⊢ <;> omega
theorem run_fop {P : Program} (op : BinOp) (hop : op = .add ∨ op = .sub ∨ op = .mul) (t : TypeId) (x y : Nat) (w : World) :
    ∃ r n, (binOp op t (.float .f64 x) (.float .f64 y)).run P w = .ok (.float .f64 r) (w.drewN n) ∧ ((fb op x y = some r ∧ nanB r = false) ∨ (fb op x y = none ∧ nanB r = true)) := by
  cases h : fb op x y with
  | some r => exact ⟨r, 0, run_float_arith w op t .f64 x y r h, .inl ⟨rfl, fb_num hop h⟩⟩
  | none =>
    refine ⟨drawnNan w x y, 1, ?_, .inr ⟨rfl, drawnNan_nan w x y⟩⟩
    rcases hop with rfl | rfl | rfl <;> (simp only [fb, floatBits] at h; simp [binOp, Op.floatArith, h, Question.forced]; exact ⟨rfl, rfl⟩)

/-- ratio.Mean. -/
def meanF (old now part : Nat) : Nat :=
  if nanB old then now else
  match (fb .sub now old).bind fun g => (fb .mul part g).bind fun p => fb .add old p with
  | some x => x
  | none => if nanB now then old else now
set_option maxRecDepth 100000 in
set_option maxHeartbeats 800000 in
theorem mean_any (old now part : Nat) (w : World) :
    Calls Try.prog 99 #[.float .f64 old, .float .f64 now, .float .f64 part] w fun e w' => e = .returned (.float .f64 (meanF old now part)) ∧ ∃ n, w' = w.drewN n := by
  cases ho : nanB old with
  | true =>
    have h1 := order_nan (y := old) ho
    have Hr : Hid (meanF old now part = now) := by unfold meanF; rw [ho]; rfl
    go_enter Try.func99, Try.ntmps99
    go_wp2
    go_ret
    exact ⟨by rw [Hr.out]; rfl, 0, rfl⟩
  | false =>
    have h1 := order_self ho
    obtain ⟨g, n1, r1, c1⟩ := run_fop (P := Try.prog) .sub (.inr (.inl rfl)) 88 now old w
    obtain ⟨p, n2, r2, c2⟩ := run_fop (P := Try.prog) .mul (.inr (.inr rfl)) 88 part g (w.drewN n1)
    obtain ⟨x, n3, r3, c3⟩ := run_fop (P := Try.prog) .add (.inl rfl) 88 old p ((w.drewN n1).drewN n2)
    have hx : (fb .sub now old).bind (fun g => (fb .mul part g).bind fun p => fb .add old p) = if nanB x then none else some x := by
      rcases c1 with ⟨c1, _⟩ | ⟨c1, d1⟩
      · rw [c1]
        rcases c2 with ⟨c2, _⟩ | ⟨c2, d2⟩
        · show (fb .mul part g).bind _ = _
          rw [c2]
          rcases c3 with ⟨c3, d3⟩ | ⟨c3, d3⟩ <;> (show fb .add old p = _; rw [c3, d3]; rfl)
        · rw [fb_nan_right (.inl rfl) d2] at c3
          rcases c3 with ⟨c3, _⟩ | ⟨_, d3⟩
          · cases c3
          · show (fb .mul part g).bind _ = _
            rw [c2, d3]; rfl
      · rw [fb_nan_right (.inr (.inr rfl)) d1] at c2
        rcases c2 with ⟨c2, _⟩ | ⟨_, d2⟩
        · cases c2
        · rw [fb_nan_right (.inl rfl) d2] at c3
          rcases c3 with ⟨c3, _⟩ | ⟨_, d3⟩
          · cases c3
          · rw [c1, d3]; rfl
    have hm : meanF old now part = if nanB x then (if nanB now then old else now) else x := by
      unfold meanF
      rw [ho, hx]
      cases nanB x <;> rfl
    clear hx c1 c2 c3 ho
    rw [World.drewN_drewN] at r3 r2
    try rw [World.drewN_drewN] at r3
    cases hxn : nanB x with
    | false =>
      have h2 := order_self hxn
      rw [hxn] at hm
      have Hr := Lib.hid hm; clear hm hxn
      go_enter Try.func99, Try.ntmps99
      go_wp2
      go_ret
      exact ⟨by rw [Hr.out]; rfl, _, rfl⟩
    | true =>
      have h2 := order_nan (y := x) hxn
      rw [hxn] at hm
      cases hnn : nanB now with
      | true =>
        have h3 := order_nan (y := now) hnn
        rw [hnn] at hm
        have Hr := Lib.hid hm; clear hm hxn hnn
        go_enter Try.func99, Try.ntmps99
        go_wp2
        go_ret
        exact ⟨by rw [Hr.out]; rfl, _, rfl⟩
      | false =>
        have h3 := order_self hnn
        rw [hnn] at hm
        have Hr := Lib.hid hm; clear hm hxn hnn
        go_enter Try.func99, Try.ntmps99
        go_wp2
        go_ret
        exact ⟨by rw [Hr.out]; rfl, _, rfl⟩

theorem run_bits (b : Nat) (w : World) : (callFunc 108 #[.float .f64 b]).run Try.prog w = .ok (.value (.int .u64 b)) w := by
  rw [run_callFunc_extern (e := Extern.MathFloatBits.float64bits) Try.func108 (by kernel_rfl) (by kernel_rfl) (by kernel_rfl) (by kernel_rfl)]; rfl
theorem run_frombits (n : Int) (w : World) : (callFunc 107 #[.int .u64 n]).run Try.prog w = .ok (.value (.float .f64 n.toNat)) w := by
  rw [run_callFunc_extern (e := Extern.MathFloatBits.float64frombits) Try.func107 (by kernel_rfl) (by kernel_rfl) (by kernel_rfl) (by kernel_rfl)]; rfl
/-- A float without its sign, as math.Copysign(x, 1) has it. -/
def absB (g : Nat) : Nat := (bits .or .u64 (bits .andNot .u64 (g : Int) 9223372036854775808) (bits .and .u64 4607182418800017408 9223372036854775808)).toNat
set_option maxRecDepth 100000 in
set_option maxHeartbeats 800000 in
theorem copysign_any (g : Nat) (w : World) :
    Calls Try.prog 105 #[.float .f64 g, .float .f64 4607182418800017408] w fun e w' => e = .returned (.float .f64 (absB g)) ∧ w = w' := by
  have rb := run_bits
  have rf := run_frombits
  go_enter Try.func105, Try.ntmps105
  go_wp2
  go_ret
  exact ⟨rfl, rfl⟩
/-- ratio.Spread: what it returns where now - mean is a number; some float else. -/
def SpreadPost (old mean now part : Nat) (w : World) (e : Ending) (w' : World) : Prop :=
  ∃ b, e = .returned (.float .f64 b) ∧ (∀ g, fb .sub now mean = some g → b = meanF old (absB g) part) ∧ ∃ n, w' = w.drewN n
set_option maxRecDepth 100000 in
set_option maxHeartbeats 800000 in
theorem spread_any (old mean now part : Nat) (w : World) :
    Calls Try.prog 98 #[.float .f64 old, .float .f64 mean, .float .f64 now, .float .f64 part] w (SpreadPost old mean now part w) := by
  obtain ⟨g, n1, r1, c1⟩ := run_fop (P := Try.prog) .sub (.inr (.inl rfl)) 88 now mean w
  have C1 := Lib.hid c1; clear c1
  go_enter Try.func98, Try.ntmps98
  go_wp2_with fail
  refine (copysign_any g _).mono ?_
  rintro e w1 ⟨rfl, rfl⟩
  go_wp2_with fail
  refine (mean_any old (absB g) part _).mono ?_
  rintro e w2 ⟨rfl, n2, rfl⟩
  go_wp2
  go_ret
  refine ⟨_, rfl, fun g' hg => ?_, n1 + n2, rfl⟩
  rcases C1.out with ⟨c1, _⟩ | ⟨c1, _⟩
  · rw [c1] at hg; injection hg with hg; rw [hg]
  · rw [c1] at hg; cases hg
end Go.Proofs.Ytkfcdfcoiglieaa
