/- The sum of the chapter 'guard', in plain Lean: one step a bit, linear and one to one; bytes are fed bit by bit; a table does eight steps at once. No condition. -/
import Derived.Laws.BitsAllLaws
namespace Go.Proofs.Ytkfcdfcoiglieaa.Crc

abbrev W := BitVec 32
def poly : W := 3988292384#32
def step (n : W) : W := if n.getLsbD 0 then (n >>> 1) ^^^ poly else n >>> 1
def steps : Nat → W → W
  | 0, n => n
  | k + 1, n => step (steps k n)

theorem step_xor (a b : W) : step (a ^^^ b) = step a ^^^ step b := by
  unfold step
  rw [BitVec.getLsbD_xor, BitVec.ushiftRight_xor_distrib]
  cases a.getLsbD 0 <;> cases b.getLsbD 0 <;> simp
  · ac_rfl
  · ac_rfl
  · have h : ∀ x y p : W, x ^^^ y = x ^^^ p ^^^ (y ^^^ p) := fun x y p => by
      have e : x ^^^ p ^^^ (y ^^^ p) = x ^^^ y ^^^ (p ^^^ p) := by ac_rfl
      rw [e, BitVec.xor_self, BitVec.xor_zero]
    exact h _ _ _
theorem step_zero : step 0#32 = 0#32 := by decide
theorem steps_xor (k : Nat) (a b : W) : steps k (a ^^^ b) = steps k a ^^^ steps k b := by
  induction k with
  | zero => rfl
  | succ k ih => simp only [steps, ih, step_xor]
theorem steps_zero (k : Nat) : steps k 0#32 = 0#32 := by
  induction k with
  | zero => rfl
  | succ k ih => simp only [steps, ih, step_zero]
theorem steps_add (j k : Nat) (n : W) : steps (j + k) n = steps j (steps k n) := by
  induction j with
  | zero => simp [steps]
  | succ j ih => rw [Nat.succ_add]; simp only [steps, ih]
theorem steps_step (k : Nat) (n : W) : steps k (step n) = steps (k + 1) n := by
  rw [show k + 1 = k + 1 from rfl, steps_add k 1 n]; rfl

/-- A step is one to one. -/
theorem step_ne (n : W) (h : step n = 0#32) : n = 0#32 := by
  unfold step at h
  by_cases hb : n.getLsbD 0
  · rw [if_pos hb] at h
    have h31 := congrArg (fun x : W => x.getLsbD 31) h
    simp [poly] at h31
  · rw [if_neg hb] at h
    apply BitVec.eq_of_getLsbD_eq
    intro i hi
    have hi0 := congrArg (fun x : W => x.getLsbD (i - 1)) h
    simp at hi0
    rcases Nat.eq_zero_or_pos i with e | e
    · subst e; simpa using hb
    · rw [show 1 + (i - 1) = i from by omega] at hi0; simpa using hi0
theorem steps_ne (k : Nat) (n : W) (h : steps k n = 0#32) : n = 0#32 := by
  induction k with
  | zero => exact h
  | succ k ih => exact ih (step_ne _ h)

/-- Low bits that are nought go out without a trace. -/
theorem step_shift (n : W) (h : n.getLsbD 0 = false) : step n = n >>> 1 := by unfold step; rw [h]; rfl
theorem steps_shift (k : Nat) (n : W) (h : ∀ i, i < k → n.getLsbD i = false) : steps k n = n >>> k := by
  induction k with
  | zero => simp [steps]
  | succ k ih =>
    simp only [steps]
    rw [ih (fun i hi => h i (by omega)), step_shift _ (by simpa using h k (by omega)), BitVec.shiftRight_add]

/-! Bits one by one -/
def bitw (b : Bool) : W := if b then 1#32 else 0#32
def feed (n : W) : List Bool → W
  | [] => n
  | b :: l => feed (step (n ^^^ bitw b)) l
theorem feed_append (n : W) (l m : List Bool) : feed n (l ++ m) = feed (feed n l) m := by
  induction l generalizing n with
  | nil => rfl
  | cons b l ih => simp only [List.cons_append, feed, ih]
theorem feed_zeros (n : W) (k : Nat) : feed n (List.replicate k false) = steps k n := by
  induction k generalizing n with
  | zero => rfl
  | succ k ih => rw [List.replicate_succ]; simp only [feed, bitw, Bool.false_eq_true, if_false, BitVec.xor_zero]; rw [ih, steps_step]
theorem bitw_xor (a b : Bool) : bitw (a ^^ b) = bitw a ^^^ bitw b := by cases a <;> cases b <;> decide
theorem feed_xor (n m : W) (l k : List Bool) (h : l.length = k.length) : feed (n ^^^ m) (List.zipWith (· ^^ ·) l k) = feed n l ^^^ feed m k := by
  induction l generalizing n m k with
  | nil => cases k with
    | nil => rfl
    | cons _ _ => simp at h
  | cons b l ih => cases k with
    | nil => simp at h
    | cons c k =>
      simp only [List.zipWith_cons_cons, feed]
      rw [← ih _ _ _ (by simpa using h), ← step_xor, bitw_xor]
      congr 2; ac_rfl

/-- The low k bits of c, the lowest first. -/
def lows (c : W) : Nat → List Bool
  | 0 => []
  | k + 1 => lows c k ++ [c.getLsbD k]
theorem length_lows (c : W) (k : Nat) : (lows c k).length = k := by
  induction k with
  | zero => rfl
  | succ k ih => simp [lows, ih]
theorem getElem?_lows (c : W) (k i : Nat) (h : i < k) : (lows c k)[i]? = some (c.getLsbD i) := by
  induction k with
  | zero => omega
  | succ k ih =>
    simp only [lows]
    rcases Nat.lt_or_ge i k with hi | hi
    · rw [List.getElem?_append_left (by rw [length_lows]; exact hi), ih hi]
    · have : i = k := by omega
      subst this
      rw [List.getElem?_append_right (by rw [length_lows]; exact Nat.le_refl _), length_lows]; simp
theorem bit_clear (x : W) : (x ^^^ bitw (x.getLsbD 0)) >>> 1 = x >>> 1 ∧ (x ^^^ bitw (x.getLsbD 0)).getLsbD 0 = false := by
  constructor
  · rw [BitVec.ushiftRight_xor_distrib]
    have : bitw (x.getLsbD 0) >>> 1 = 0#32 := by unfold bitw; split <;> decide
    rw [this, BitVec.xor_zero]
  · rw [BitVec.getLsbD_xor]
    unfold bitw
    cases h : x.getLsbD 0 <;> simp
theorem feed_lows (n c : W) (k : Nat) : feed n (lows c k) = steps k (n ^^^ c) ^^^ (c >>> k) := by
  induction k with
  | zero =>
    have e : n ^^^ c ^^^ c = n ^^^ (c ^^^ c) := by ac_rfl
    simp [lows, feed, steps, e]
  | succ k ih =>
    simp only [lows, feed_append, feed, ih, steps]
    have e1 : c.getLsbD k = (c >>> k).getLsbD 0 := by simp
    have e : steps k (n ^^^ c) ^^^ c >>> k ^^^ bitw (c.getLsbD k) = steps k (n ^^^ c) ^^^ (c >>> k ^^^ bitw ((c >>> k).getLsbD 0)) := by rw [e1]; ac_rfl
    rw [e, step_xor, step_shift _ (bit_clear _).2, (bit_clear _).1, BitVec.shiftRight_add]

/-! Bytes -/
def cast8 (c : UInt8) : W := c.toBitVec.setWidth 32
def bits8 (c : UInt8) : List Bool := lows (cast8 c) 8
def flat (l : List UInt8) : List Bool := l.flatMap bits8
def byteStep (n : W) (c : UInt8) : W := steps 8 (n ^^^ cast8 c)
def run (n : W) (l : List UInt8) : W := l.foldl byteStep n
def sumOf (l : List UInt8) : W := ~~~ (run (~~~ 0#32) l)
theorem cast8_shift (c : UInt8) : cast8 c >>> 8 = 0#32 := by
  apply BitVec.eq_of_getLsbD_eq
  intro i hi
  simp [cast8]
theorem byteStep_feed (n : W) (c : UInt8) : byteStep n c = feed n (bits8 c) := by
  unfold bits8; rw [feed_lows, cast8_shift, BitVec.xor_zero]; rfl
theorem run_feed (n : W) (l : List UInt8) : run n l = feed n (flat l) := by
  induction l generalizing n with
  | nil => rfl
  | cons c l ih =>
    show run (byteStep n c) l = feed n (bits8 c ++ flat l)
    rw [ih, feed_append, byteStep_feed]
theorem run_append (n : W) (l m : List UInt8) : run n (l ++ m) = run (run n l) m := List.foldl_append

/-- The table: what a byte does. -/
def tab (i : Nat) : W := steps 8 (BitVec.ofNat 32 i)
theorem tab_step (n : W) (c : UInt8) : tab ((n.toNat % 256) ^^^ c.toNat) ^^^ (n >>> 8) = byteStep n c := by
  unfold tab byteStep
  have hlow : BitVec.ofNat 32 ((n.toNat % 256) ^^^ c.toNat) = (n &&& 255#32) ^^^ cast8 c := by
    have h1 : n.toNat % 256 = (n &&& 255#32).toNat := by
      rw [BitVec.toNat_and]; exact (Go.nat_mask8 _).symm
    have h2 : c.toNat = (cast8 c).toNat := by
      have := c.toNat_lt
      simp [cast8]
    rw [h1, h2, ← BitVec.toNat_xor, BitVec.ofNat_toNat, BitVec.setWidth_eq]
  have hn : n = (n &&& 255#32) ^^^ (n >>> 8 <<< 8) := by
    apply BitVec.eq_of_getLsbD_eq
    intro i hi
    have h255 : ∀ i, (255#32 : W).getLsbD i = decide (i < 8) := by
      intro i
      rcases Nat.lt_or_ge i 32 with h | h
      · revert i; decide
      · rw [BitVec.getLsbD_of_ge _ _ h]; simp; omega
    rw [BitVec.getLsbD_xor, BitVec.getLsbD_and, h255, BitVec.getLsbD_shiftLeft, BitVec.getLsbD_ushiftRight]
    by_cases h8 : i < 8
    · simp [h8]
    · simp [h8, hi]; congr 1; omega
  have hs : steps 8 (n >>> 8 <<< 8) = n >>> 8 := by
    rw [steps_shift 8 _ (fun i hi => by simp [BitVec.getLsbD_shiftLeft, hi])]
    apply BitVec.eq_of_getLsbD_eq
    intro i hi
    simp [BitVec.getLsbD_shiftLeft]
    intro h
    rcases Nat.lt_or_ge (8 + i) 32 with h' | h'
    · exact h'
    · rw [BitVec.getLsbD_of_ge _ _ h'] at h; cases h
  rw [hlow]
  conv => rhs; rw [hn]
  have e : (n &&& 255#32) ^^^ n >>> 8 <<< 8 ^^^ cast8 c = ((n &&& 255#32) ^^^ cast8 c) ^^^ (n >>> 8 <<< 8) := by ac_rfl
  rw [e, steps_xor _ ((n &&& 255#32) ^^^ cast8 c), hs]
end Go.Proofs.Ytkfcdfcoiglieaa.Crc
