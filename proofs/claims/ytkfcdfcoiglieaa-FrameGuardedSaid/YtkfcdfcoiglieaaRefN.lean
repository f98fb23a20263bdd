/- satchelref11.number, Read return what the plain law says. Conditions: the slice reads as bytes; its length fits. -/
import Derived.Test.YtkfcdfcoiglieaaRefF
import Derived.Test.YtkfcdfcoiglieaaFrameQ
import Derived.Test.YtkfcdfcoiglieaaRef4
namespace Go.Proofs.Ytkfcdfcoiglieaa
open Go.RowKit

/-- The number of a slice's first four bytes. -/
theorem or4 (a b c d : UInt8) : bits .or .i64 (bits .or .i64 (bits .or .i64 ((a.toNat : Int) * 16777216) ((b.toNat : Int) * 65536)) ((c.toNat : Int) * 256)) (d.toNat : Int) = ((numF [a, b, c, d] : Nat) : Int) := by
  have ha := a.toNat_lt; have hb := b.toNat_lt; have hc := c.toNat_lt; have hd := d.toNat_lt
  have e1 : bits .or .i64 ((a.toNat : Int) * 16777216) ((b.toNat : Int) * 65536) = ((a.toNat * 16777216 + b.toNat * 65536 : Nat) : Int) := by
    rw [show (a.toNat : Int) * 16777216 = ((a.toNat * 16777216 : Nat) : Int) by omega, show (b.toNat : Int) * 65536 = ((b.toNat * 65536 : Nat) : Int) by omega, i64_or_nat _ _ (by omega) (by omega)]
    have := Nat.shiftLeft_add_eq_or_of_lt (a := a.toNat) (b := b.toNat * 65536) (i := 24) (by simp only [Nat.reducePow]; omega)
    rw [Nat.shiftLeft_eq] at this
    simp only [Nat.reducePow] at this
    rw [← this]
  rw [e1]
  have e2 : bits .or .i64 ((a.toNat * 16777216 + b.toNat * 65536 : Nat) : Int) ((c.toNat : Int) * 256) = ((a.toNat * 16777216 + b.toNat * 65536 + c.toNat * 256 : Nat) : Int) := by
    rw [show (c.toNat : Int) * 256 = ((c.toNat * 256 : Nat) : Int) by omega, i64_or_nat _ _ (by omega) (by omega)]
    have := Nat.shiftLeft_add_eq_or_of_lt (a := a.toNat * 256 + b.toNat) (b := c.toNat * 256) (i := 16) (by simp only [Nat.reducePow]; omega)
    rw [Nat.shiftLeft_eq] at this
    simp only [Nat.reducePow] at this
    have hs : a.toNat * 16777216 + b.toNat * 65536 = (a.toNat * 256 + b.toNat) * 65536 := by simp only [Nat.add_mul, Nat.mul_assoc, Nat.reduceMul]
    rw [hs, ← this]
  rw [e2]
  rw [i64_or_nat _ _ (by omega) (by omega)]
  have := Nat.shiftLeft_add_eq_or_of_lt (a := (a.toNat * 256 + b.toNat) * 256 + c.toNat) (b := d.toNat) (i := 8) (by simp only [Nat.reducePow]; omega)
  rw [Nat.shiftLeft_eq] at this
  simp only [Nat.reducePow] at this
  have hs : a.toNat * 16777216 + b.toNat * 65536 + c.toNat * 256 = ((a.toNat * 256 + b.toNat) * 256 + c.toNat) * 256 := by simp only [Nat.add_mul, Nat.mul_assoc, Nat.reduceMul]
  rw [hs, ← this, num4]

set_option maxRecDepth 100000 in
set_option maxHeartbeats 1600000 in
theorem rnumber_q (A : Option Addr) (n c : Nat) (x : List UInt8) (w : World) (h : RB w (.slice A n c) x) (hn : x.length = n) (hl : 4 ≤ n) :
    Calls Try.prog 94 #[.slice A n c] w fun e w' => e = .returned (.int .i64 (num_ x 0 4 : Nat)) ∧ ∃ n, w' = w.drewN n := by
  subst hn
  obtain ⟨A', c', he, hl1, hc1, hxo⟩ := h.open
  injection he with e1 e2 e3
  subst e1; subst e3
  obtain ⟨bk, o, rfl, hxs⟩ := hxo (by omega)
  have x0 : w.cell? ⟨bk, o, none⟩ = some (bv (at_ x 0)) := by simpa using hxs 0 _ (at_get (x := x) (i := 0) (by omega))
  have x1 := hxs 1 _ (at_get (x := x) (i := 1) (by omega))
  have x2 := hxs 2 _ (at_get (x := x) (i := 2) (by omega))
  have x3 := hxs 3 _ (at_get (x := x) (i := 3) (by omega))
  have hnum : num_ x 0 4 = numF [at_ x 0, at_ x 1, at_ x 2, at_ x 3] := by
    match x, hl with
    | a0 :: a1 :: a2 :: a3 :: r, _ => rfl
  have Hnum := Lib.hid hnum
  clear hnum hxs hxo h
  have t0 : (at_ x 0).toNat < 256 := (at_ x 0).toNat_lt
  have t1 : (at_ x 1).toNat < 256 := (at_ x 1).toNat_lt
  have t2 : (at_ x 2).toNat < 256 := (at_ x 2).toNat_lt
  have t3 : (at_ x 3).toNat < 256 := (at_ x 3).toNat_lt
  have i0 : (0 : Int) < (x.length : Int) := by omega
  have i1 : (1 : Int) < (x.length : Int) := by omega
  have i2 : (2 : Int) < (x.length : Int) := by omega
  have i3 : (3 : Int) < (x.length : Int) := by omega
  go_enter Try.func94, Try.ntmps94
  go_wp2_with fail
  go_quiet (fail)
  rw [or4]
  go_wp2
  go_ret
  exact ⟨by rw [Hnum.out]; rfl, _, rfl⟩
theorem rnumber_any (A : Option Addr) (n c : Nat) (x : List UInt8) (w : World) (h : RB w (.slice A n c) x) (hn : x.length = n) (hl : 4 ≤ n) :
    Calls Try.prog 94 #[.slice A n c] w fun e w' => e = .returned (.int .i64 (num_ x 0 4 : Nat)) ∧ New w w' :=
  (rnumber_q A n c x w h hn hl).mono fun e w' ⟨he, n, hw⟩ => ⟨he, by rw [hw]; exact drewN_new _ _⟩
end Go.Proofs.Ytkfcdfcoiglieaa
