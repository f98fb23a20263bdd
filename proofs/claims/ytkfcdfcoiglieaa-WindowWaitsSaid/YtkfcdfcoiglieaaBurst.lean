/- The plain law on bursts: guarded bytes of which bits within 32 in a row are turned, one at least, guard nothing. No condition. -/
import Derived.Test.YtkfcdfcoiglieaaGuard
namespace Go.Proofs.Ytkfcdfcoiglieaa
open Crc

/-- One bit turned. -/
def flip (l : List UInt8) (p : Nat) : List UInt8 := l.set (p / 8) (l.getD (p / 8) 0 ^^^ UInt8.ofNat (2 ^ (p % 8)))
/-- The bits of the first k of 32 that the mask names turned, from a bit on. -/
def turn (l : List UInt8) (f : Nat) (mask : BitVec 32) : Nat → List UInt8
  | 0 => l
  | k + 1 => if mask.getLsbD k then flip (turn l f mask k) (f + k) else turn l f mask k
theorem length_turn (l : List UInt8) (f : Nat) (mask : BitVec 32) (k : Nat) : (turn l f mask k).length = l.length := by
  induction k with
  | zero => rfl
  | succ k ih => unfold turn; split <;> simp [flip, ih]

/-- A bit of bytes. -/
def bitAt (l : List UInt8) (p : Nat) : Bool := (cast8 (l.getD (p / 8) 0)).getLsbD (p % 8)
theorem flat_get (l : List UInt8) (p : Nat) : (flat l)[p]? = if p < 8 * l.length then some (bitAt l p) else none := by
  induction l generalizing p with
  | nil => simp [flat]
  | cons c l ih =>
    have hf : flat (c :: l) = bits8 c ++ flat l := rfl
    have hb : (bits8 c).length = 8 := length_lows _ _
    rw [hf]
    by_cases hp : p < 8
    · rw [List.getElem?_append_left (by omega)]
      have : (bits8 c)[p]? = some ((cast8 c).getLsbD p) := getElem?_lows _ _ _ hp
      rw [this, if_pos (by simp; omega)]
      unfold bitAt
      rw [show p / 8 = 0 from by omega, show p % 8 = p from by omega]; rfl
    · rw [List.getElem?_append_right (by omega), hb, ih]
      unfold bitAt
      have h1 : p / 8 = (p - 8) / 8 + 1 := by omega
      have h2 : (p - 8) % 8 = p % 8 := by omega
      rw [h1, h2, List.getD_cons_succ]
      by_cases h : p < 8 * (c :: l).length
      · rw [if_pos h, if_pos (by simp at h; omega)]
      · rw [if_neg h, if_neg (by simp at h; omega)]
theorem length_flat (l : List UInt8) : (flat l).length = 8 * l.length := by
  induction l with
  | nil => rfl
  | cons c l ih =>
    have hf : flat (c :: l) = bits8 c ++ flat l := rfl
    have hb : (bits8 c).length = 8 := length_lows _ _
    rw [hf, List.length_append, hb, ih, List.length_cons]; omega
theorem cast8_xor (a b : UInt8) : cast8 (a ^^^ b) = cast8 a ^^^ cast8 b := by
  unfold cast8
  rw [UInt8.toBitVec_xor, BitVec.setWidth_xor]
theorem cast8_pow (r i : Nat) (hr : r < 8) (hi : i < 8) : (cast8 (UInt8.ofNat (2 ^ r))).getLsbD i = decide (i = r) := by
  have : ∀ r, r < 8 → ∀ i, i < 8 → (cast8 (UInt8.ofNat (2 ^ r))).getLsbD i = decide (i = r) := by decide
  exact this r hr i hi
theorem bitAt_flip (l : List UInt8) (p q : Nat) (hp : p < 8 * l.length) : bitAt (flip l p) q = (bitAt l q ^^ decide (q = p)) := by
  unfold bitAt flip
  by_cases hq : q / 8 = p / 8
  · rw [hq, List.getD_eq_getElem?_getD, List.getElem?_set_self (by omega), Option.getD_some, cast8_xor, BitVec.getLsbD_xor, cast8_pow _ _ (by omega) (by omega)]
    congr 1
    rw [Bool.eq_iff_iff]; simp; omega
  · rw [List.getD_eq_getElem?_getD, List.getElem?_set_ne (by omega), ← List.getD_eq_getElem?_getD]
    have : decide (q = p) = false := by simp; omega
    rw [this, Bool.xor_false]
theorem bitAt_turn (l : List UInt8) (f : Nat) (mask : BitVec 32) (k q : Nat) (hf : f + k ≤ 8 * l.length) :
    bitAt (turn l f mask k) q = (bitAt l q ^^ (decide (f ≤ q ∧ q < f + k) && mask.getLsbD (q - f))) := by
  induction k with
  | zero =>
    have : decide (f ≤ q ∧ q < f + 0) = false := by simp
    rw [this]; simp [turn]
  | succ k ih =>
    have ih := ih (by omega)
    unfold turn
    by_cases hb : mask.getLsbD k = true
    · rw [if_pos hb, bitAt_flip _ _ _ (by rw [length_turn]; omega), ih]
      by_cases hq : q = f + k
      · subst hq
        have h1 : decide (f ≤ f + k ∧ f + k < f + k) = false := by simp
        have h2 : decide (f ≤ f + k ∧ f + k < f + (k + 1)) = true := by simp
        rw [h1, h2, show f + k - f = k from by omega, hb]; simp
      · have h1 : decide (f ≤ q ∧ q < f + (k + 1)) = decide (f ≤ q ∧ q < f + k) := by rw [Bool.eq_iff_iff]; simp; omega
        have h2 : decide (q = f + k) = false := by simp [hq]
        rw [h1, h2, Bool.xor_false]
    · rw [if_neg hb, ih]
      by_cases hq : q = f + k
      · subst hq
        have h1 : decide (f ≤ f + k ∧ f + k < f + k) = false := by simp
        have hb' : mask.getLsbD (f + k - f) = false := by rw [show f + k - f = k from by omega]; simpa using hb
        rw [h1, hb']; simp
      · have h1 : decide (f ≤ q ∧ q < f + (k + 1)) = decide (f ≤ q ∧ q < f + k) := by rw [Bool.eq_iff_iff]; simp; omega
        rw [h1]

/-- The turned bits, as a list. -/
def errs (f : Nat) (mask : BitVec 32) (n : Nat) : List Bool := List.replicate f false ++ (lows mask 32 ++ List.replicate (n - f - 32) false)
theorem errs_get (f : Nat) (mask : BitVec 32) (n q : Nat) (hf : f + 32 ≤ n) (hq : q < n) : (errs f mask n)[q]? = some (decide (f ≤ q ∧ q < f + 32) && mask.getLsbD (q - f)) := by
  unfold errs
  by_cases h1 : q < f
  · rw [List.getElem?_append_left (by simpa using h1), List.getElem?_replicate, if_pos h1]
    have : decide (f ≤ q ∧ q < f + 32) = false := by simp; omega
    rw [this]; rfl
  · rw [List.getElem?_append_right (by simp; omega), List.length_replicate]
    by_cases h2 : q < f + 32
    · rw [List.getElem?_append_left (by rw [length_lows]; omega), getElem?_lows _ _ _ (by omega)]
      have : decide (f ≤ q ∧ q < f + 32) = true := by simp; omega
      rw [this]; rfl
    · rw [List.getElem?_append_right (by rw [length_lows]; omega), length_lows, List.getElem?_replicate, if_pos (by omega)]
      have : decide (f ≤ q ∧ q < f + 32) = false := by simp; omega
      rw [this]; rfl
theorem length_errs (f : Nat) (mask : BitVec 32) (n : Nat) (hf : f + 32 ≤ n) : (errs f mask n).length = n := by
  unfold errs; simp [length_lows]; omega
theorem flat_turn (l : List UInt8) (f : Nat) (mask : BitVec 32) (hf : f + 32 ≤ 8 * l.length) :
    flat (turn l f mask 32) = List.zipWith (· ^^ ·) (flat l) (errs f mask (8 * l.length)) := by
  apply List.ext_getElem?
  intro q
  rw [List.getElem?_zipWith, flat_get, flat_get, length_turn]
  by_cases hq : q < 8 * l.length
  · rw [if_pos hq, if_pos hq, errs_get _ _ _ _ hf hq, bitAt_turn _ _ _ _ _ hf]
  · rw [if_neg hq, if_neg hq]
theorem feed_errs (f : Nat) (mask : BitVec 32) (n : Nat) (hm : mask ≠ 0#32) : feed 0#32 (errs f mask n) ≠ 0#32 := by
  unfold errs
  rw [feed_append, feed_zeros, steps_zero, feed_append, feed_lows, feed_zeros]
  have h0 : mask >>> 32 = 0#32 := by
    apply BitVec.eq_of_getLsbD_eq
    intro i hi
    rw [BitVec.getLsbD_ushiftRight, BitVec.getLsbD_of_ge _ _ (by omega)]; simp
  rw [h0, BitVec.xor_zero, BitVec.zero_xor, ← steps_add]
  exact fun h => hm (steps_ne _ _ h)
theorem run_turn (n : W) (l : List UInt8) (f : Nat) (mask : BitVec 32) (hf : f + 32 ≤ 8 * l.length) (hm : mask ≠ 0#32) : run n (turn l f mask 32) ≠ run n l := by
  rw [run_feed, run_feed, flat_turn _ _ _ hf]
  have hx := feed_xor n 0#32 (flat l) (errs f mask (8 * l.length)) (by rw [length_flat, length_errs _ _ _ hf])
  rw [BitVec.xor_zero] at hx
  rw [hx]
  intro h
  have : feed 0#32 (errs f mask (8 * l.length)) = 0#32 := by
    have h2 := congrArg (fun x => feed n (flat l) ^^^ x) h
    simp only [← BitVec.xor_assoc, BitVec.xor_self, BitVec.zero_xor] at h2
    exact h2
  exact feed_errs f mask _ hm this

/-- What the sum of guarded bytes, their sum among them, comes to. -/
theorem flat_le4 (m : W) : flat (le4 m) = lows m 32 := by
  apply List.ext_getElem?
  intro q
  rw [flat_get]
  by_cases hq : q < 32
  · rw [if_pos (by simpa [le4] using hq), getElem?_lows _ _ _ hq]
    congr 1
    unfold bitAt
    have hm := m.isLt
    have key : ∀ (i : Nat), i < 4 → (le4 m).getD i 0 = UInt8.ofNat (m.toNat / 256 ^ i) := by
      intro i hi
      match i, hi with
      | 0, _ => simp [le4]
      | 1, _ => simp [le4]
      | 2, _ => simp [le4]
      | 3, _ => simp [le4]
    rw [key _ (by omega), cast8, BitVec.getLsbD_setWidth]
    have h32 : decide (q % 8 < 32) = true := by simp; omega
    rw [h32, Bool.true_and]
    simp only [BitVec.getLsbD, UInt8.toNat_toBitVec, UInt8.toNat_ofNat', Nat.testBit_eq_decide_div_mod_eq]
    have hd : m.toNat / 256 ^ (q / 8) % 256 / 2 ^ (q % 8) % 2 = m.toNat / 2 ^ q % 2 := by
      have h1 : (256 : Nat) ^ (q / 8) = 2 ^ (8 * (q / 8)) := by rw [Nat.pow_mul]
      have h2 : (256 : Nat) = 2 ^ (q % 8) * 2 ^ (8 - q % 8) := by rw [← Nat.pow_add]; rw [show q % 8 + (8 - q % 8) = 8 from by omega]
      have h3 : ∀ a : Nat, a % 256 / 2 ^ (q % 8) % 2 = a / 2 ^ (q % 8) % 2 := by
        intro a
        rw [h2, Nat.mod_mul_right_div_self]
        have h4 : (2 : Nat) ^ (8 - q % 8) = 2 * 2 ^ (7 - q % 8) := by rw [← Nat.pow_succ']; rw [show (7 - q % 8).succ = 8 - q % 8 from by omega]
        rw [h4]
        exact Nat.mod_mul_right_mod _ _ _
      rw [h3, h1, Nat.div_div_eq_div_mul, ← Nat.pow_add, show 8 * (q / 8) + q % 8 = q from by omega]
    rw [hd]
  · rw [if_neg (by simp [le4]; omega), List.getElem?_eq_none (by rw [length_lows]; omega)]
theorem run_put (l : List UInt8) : run (~~~ 0#32) (putL l) = steps 32 (BitVec.allOnes 32) := by
  unfold putL sumOf
  rw [run_append, run_feed _ (le4 _), flat_le4, feed_lows]
  generalize run (~~~ 0#32) l = n
  have h0 : (~~~ n) >>> 32 = 0#32 := by
    apply BitVec.eq_of_getLsbD_eq
    intro i hi
    rw [BitVec.getLsbD_ushiftRight, BitVec.getLsbD_of_ge _ _ (by omega)]; simp
  have h1 : n ^^^ ~~~ n = BitVec.allOnes 32 := by
    apply BitVec.eq_of_getLsbD_eq
    intro i hi
    rw [BitVec.getLsbD_xor, BitVec.getLsbD_not, BitVec.getLsbD_allOnes]
    cases n.getLsbD i <;> simp [hi]
  rw [h0, BitVec.xor_zero, h1]
/-- THE LAW: no burst of at most 32 bits goes unseen. -/
theorem check_turn (b : List UInt8) (f : Nat) (mask : BitVec 32) (hf : f + 32 ≤ 8 * (b.length + 4)) (hm : mask ≠ 0#32) : checkL (turn (putL b) f mask 32) = none := by
  cases h : checkL (turn (putL b) f mask 32) with
  | none => rfl
  | some d =>
    exfalso
    have hd : putL d = turn (putL b) f mask 32 := by
      unfold checkL at h
      split at h
      · rename_i hh
        injection h with h
        subst h
        exact hh.2
      · cases h
    refine run_turn (~~~ 0#32) (putL b) f mask (by rw [length_putL]; exact hf) hm ?_
    rw [← hd, run_put, run_put]
end Go.Proofs.Ytkfcdfcoiglieaa
