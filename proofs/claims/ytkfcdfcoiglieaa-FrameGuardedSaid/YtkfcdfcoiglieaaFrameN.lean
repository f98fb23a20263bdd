/- frame.number returns what so many bytes spell, the highest first. Conditions: the slice reads as bytes, four at most. -/
import Derived.Test.YtkfcdfcoiglieaaFramePut
import Derived.Laws.BitsAllLaws
namespace Go.Proofs.Ytkfcdfcoiglieaa
open Go.RowKit

theorem i64_or_nat (a b : Nat) (ha : a < 9223372036854775808) (hb : b < 9223372036854775808) : bits .or .i64 (a : Int) (b : Int) = ((a ||| b : Nat) : Int) := by
  have hx : a ||| b < 2 ^ 63 := Nat.or_lt_two_pow (by omega) (by omega)
  show IntKind.i64.wrap ((BitVec.ofInt 64 (a : Int) ||| BitVec.ofInt 64 (b : Int)).toNat : Int) = _
  rw [BitVec.toNat_or, ofInt_u64 a (by omega), ofInt_u64 b (by omega)]
  exact IntWalk.i64_in _ (by omega)
theorem or_256 (n : Nat) (c : UInt8) (hn : n < 4294967296) : bits .or .i64 ((n : Int) * 256) (c.toNat : Int) = ((n * 256 + c.toNat : Nat) : Int) := by
  have hc := c.toNat_lt
  rw [show (n : Int) * 256 = ((n * 256 : Nat) : Int) by omega, i64_or_nat _ _ (by omega) (by omega)]
  have := Nat.shiftLeft_add_eq_or_of_lt (a := n) (b := c.toNat) (i := 8) (by omega)
  rw [Nat.shiftLeft_eq] at this
  rw [show n * 256 = n * 2 ^ 8 from rfl, ← this]

/-- What bytes spell, the highest first. -/
def numF (l : List UInt8) : Nat := l.foldl (fun n c => n * 256 + c.toNat) 0
theorem numF_succ (l : List UInt8) (i : Nat) (h : i < l.length) : numF (l.take (i + 1)) = numF (l.take i) * 256 + l[i].toNat := by
  rw [List.take_succ_eq_append_getElem h, numF, List.foldl_append]; rfl
theorem numF_take (l : List UInt8) (i : Nat) : numF (l.take i) < 256 ^ i := by
  induction i with
  | zero => simp [numF]
  | succ i ih =>
    by_cases h : i < l.length
    · have hc := l[i].toNat_lt
      rw [numF_succ l i h, Nat.pow_succ]; omega
    · have : l.take (i + 1) = l.take i := by rw [List.take_of_length_le (by omega), List.take_of_length_le (by omega)]
      rw [this, Nat.pow_succ]
      have : 0 < 256 ^ i := Nat.pow_pos (by omega)
      omega
theorem numF_lt (l : List UInt8) : numF l < 256 ^ l.length := by
  have := numF_take l l.length
  rwa [List.take_length] at this
theorem numF_take4 (l : List UInt8) (i : Nat) (h : i < 4) : numF (l.take i) < 16777216 :=
  Nat.lt_of_lt_of_le (numF_take l i) (Nat.pow_le_pow_right (by omega) (show i ≤ 3 by omega))

set_option maxRecDepth 100000 in
set_option maxHeartbeats 800000 in
theorem number_any (v : Value) (l : List UInt8) (w : World) (h : RB w v l) (hl : l.length ≤ 4) :
    Calls Try.prog 93 #[v] w fun e w' => e = .returned (.int .i64 (numF l)) ∧ w = w' := by
  obtain ⟨A, c, rfl, hl1, hc1, hx⟩ := h.open
  go_enter Try.func93, Try.ntmps93
  go_wp2_with fail
  go_loop [3, 8] (fun u3 u8 => ∃ i : Nat, i ≤ l.length ∧ u8 = .int .i64 i ∧ u3 = .int .i64 (numF (l.take i) : Nat)) (fun _ u8 => l.length - (intOf u8).toNat)
  case atStart => exact ⟨0, by omega, rfl, rfl⟩
  case round =>
    obtain ⟨i, hi, rfl, rfl⟩ := hrel
    by_cases hlt : i < l.length
    · obtain ⟨b, o, rfl, hxs⟩ := hx (by omega)
      have hcell := hxs i l[i] (List.getElem?_eq_getElem hlt)
      have hb := numF_take4 l i (by omega)
      have Hs := Lib.hid (numF_succ l i hlt)
      generalize numF (l.take i) = n at hb Hs ⊢
      have hor := or_256 n l[i] (by omega)
      have hcl := l[i].toNat_lt
      clear hx hxs
      go_wp2
      exact ⟨⟨i + 1, by omega, by go_num, by rw [Hs.out]; simp⟩, by simp [intOf]; omega⟩
    · have hi' : i = l.length := by omega
      subst hi'
      rw [List.take_length]
      go_wp2
      go_ret
      exact ⟨rfl, rfl⟩
end Go.Proofs.Ytkfcdfcoiglieaa
