/- GuardBursts returns true; nothing that was there turns. Conditions: the argument reads as bytes. -/
import Derived.Test.YtkfcdfcoiglieaaLong
import Derived.Test.YtkfcdfcoiglieaaBurst
import Derived.StillTailTactics
namespace Go.Proofs.Ytkfcdfcoiglieaa
open Go.RowKit

theorem xor_pow (c : UInt8) (r : Nat) : bits .xor .u8 (c.toNat : Int) ((2 : Int) ^ r % 256) = ((c ^^^ UInt8.ofNat (2 ^ r)).toNat : Int) := by
  have := c.toNat_lt
  have h : (2 : Int) ^ r % 256 = ((2 ^ r % 256 : Nat) : Int) := by simp
  rw [h, u8_xor_nat _ _ (by omega) (by omega), UInt8.toNat_xor, UInt8.toNat_ofNat']
theorem map_flip (l : List UInt8) (p q r : Nat) (c : UInt8) (hq : q = p / 8) (hr : r = p % 8) (h : (l.map bv)[q]? = some (bv c)) : (l.map bv).set q (bv (c ^^^ UInt8.ofNat (2 ^ r))) = (flip l p).map bv := by
  subst hq; subst hr
  unfold flip
  rw [List.map_set]
  congr 2
  simp only [List.getElem?_map, Option.map_eq_some_iff] at h
  obtain ⟨c', hc, he⟩ := h
  have : c' = c := by
    injection he with _ he
    exact UInt8.toNat_inj.1 (by omega)
  rw [List.getD_eq_getElem?_getD, hc, this]; rfl

set_option maxRecDepth 100000 in
set_option maxHeartbeats 1600000 in
theorem bursts_law (v0 : Value) (x : Int) (mask : BitVec 32) (b : List UInt8) (w : World) (hb : RB w v0 b) :
    Calls Try.prog 6 #[v0, .int .i64 x, uv mask] w fun e w' => e = .returned (.bool true) ∧ New w w' := by
  obtain ⟨A0, c0, rfl, h01, h02⟩ := hb.shape
  by_cases hlb : (1000 : Int) < (b.length : Int)
  · go_enter Try.func6, Try.ntmps6
    go_wp2_with fail
    refine (known4 _).mono ?_
    rintro e w1 ⟨rfl, hn1⟩
    go_wp2
    go_ret
    exact ⟨rfl, hn1⟩
  · by_cases hm0 : mask = 0#32
    · subst hm0
      have hlb' : b.length ≤ 1000 := by omega
      go_enter Try.func6, Try.ntmps6
      go_wp2_with fail
      refine (known4 _).mono ?_
      rintro e w1 ⟨rfl, hn1⟩
      have hb1 := hb.new_ hn1
      go_wp2_with fail
      refine (put_any _ b _ hb1 (by omega)).mono ?_
      rintro e w2 ⟨v8, rfl, ho2, hn2⟩
      obtain ⟨A8, c8, rfl, h81, h82⟩ := ho2.shape (length_putL b)
      have Hlen := Lib.hid (length_putL b)
      go_wp2_with fail
      refine (check_put _ b _ ho2.rb (by omega)).mono ?_
      rintro e w3 ⟨v9, rfl, ho9, hn3⟩
      go_wp2_with fail
      refine (same_any _ _ b b _ ho9.rb ((hb1.new_ hn2).new_ hn3)).mono ?_
      rintro e w4 ⟨rfl, rfl⟩
      have e8 : (b.length : Int) ≤ (c8 : Int) := by omega
      go_wp2_with fail
      have hpre : RB w3 (.slice A8 b.length c8) b := by
        have := (ho2.new_ hn3).rb.take b.length (by omega)
        rwa [show (putL b).take b.length = b from List.take_left' rfl] at this
      refine (same_any _ _ b b _ hpre ((hb1.new_ hn2).new_ hn3)).mono ?_
      rintro e w4 ⟨rfl, rfl⟩
      go_wp2
      go_ret
      exact ⟨rfl, (hn1.trans hn2).trans hn3⟩
    · have hlb' : b.length ≤ 1000 := by omega
      have hmask := mask.isLt
      have hmb : ((mask.toNat : Int) == 0) = false := by
        rw [beq_eq_false_iff_ne]; intro h; exact hm0 (BitVec.eq_of_toNat_eq (by simp; omega))
      have Hm0 := Lib.hid hm0; clear hm0
      go_enter Try.func6, Try.ntmps6
      go_wp2_with fail
      refine (known4 _).mono ?_
      rintro e w1 ⟨rfl, hn1⟩
      have hb1 := hb.new_ hn1
      go_wp2_with fail
      refine (put_any _ b _ hb1 (by omega)).mono ?_
      rintro e w2 ⟨v8, rfl, ho2, hn2⟩
      obtain ⟨A8, c8, rfl, h81, h82⟩ := ho2.shape (length_putL b)
      have Hlen := Lib.hid (length_putL b)
      go_wp2_with fail
      refine (check_put _ b _ ho2.rb (by omega)).mono ?_
      rintro e w3 ⟨v9, rfl, ho9, hn3⟩
      go_wp2_with fail
      refine (same_any _ _ b b _ ho9.rb ((hb1.new_ hn2).new_ hn3)).mono ?_
      rintro e w4 ⟨rfl, rfl⟩
      have e8 : (b.length : Int) ≤ (c8 : Int) := by omega
      go_wp2_with fail
      have hpre : RB w3 (.slice A8 b.length c8) b := by
        have := (ho2.new_ hn3).rb.take b.length (by omega)
        rwa [show (putL b).take b.length = b from List.take_left' rfl] at this
      refine (same_any _ _ b b _ hpre ((hb1.new_ hn2).new_ hn3)).mono ?_
      rintro e w4 ⟨rfl, rfl⟩
      go_wp2_with fail
      refine (pick_nat x (8 * ((b.length : Int) + 4) - 31) _ (by omega) (by omega)).mono ?_
      rintro e w5 ⟨f, hf, rfl, rfl⟩
      have ho3 := ho2.new_ hn3
      obtain ⟨g, o, rfl⟩ : ∃ g o, A8 = some ⟨g, o, none⟩ := by
        rcases ho3 with ⟨h, _⟩ | ⟨g, o, cap, cur, hv, _⟩
        · injection h with _ h _; omega
        · injection hv with h _ _; exact ⟨g, o, h⟩
      go_wp2_with fail
      go_loopw [11] (fun u11 wr => ∃ k : Nat, k ≤ 32 ∧ u11 = .int .i64 k ∧ OwnP isB wr w1.heap.size 5 (.slice (some ⟨g, o, none⟩) (b.length + 4) c8) ((turn (putL b) f mask k).map bv) ∧ New w1 wr) (fun u11 _ => 32 - (intOf u11).toNat)
      case atStart => exact ⟨0, by omega, rfl, ho3, hn2.trans hn3⟩
      case round =>
        obtain ⟨k, hk, rfl, ho, hn⟩ := hrel
        by_cases hk32 : k < 32
        · obtain ⟨q, hqd⟩ : ∃ q : Nat, q = (f + k) / 8 := ⟨_, rfl⟩
          obtain ⟨r, hrd⟩ : ∃ r : Nat, r = (f + k) % 8 := ⟨_, rfl⟩
          have hkf : q < b.length + 4 := by omega
          have hr8 : r < 8 := by omega
          obtain ⟨y, hy, hcell, hfr⟩ := ho.cellAt hkf
          have hq : ((f : Int) + (k : Int)) / 8 = (q : Int) := by omega
          have hr : ((f : Int) + (k : Int)) % 8 = (r : Int) := by omega
          have Hqd := Lib.hid hqd
          have Hrd := Lib.hid hrd
          clear hqd hrd
          obtain ⟨c, rfl⟩ : ∃ c, y = bv c := by
            simp only [List.getElem?_map, Option.map_eq_some_iff] at hy
            obtain ⟨c, _, h⟩ := hy; exact ⟨c, h.symm⟩
          have Hy := Lib.hid hy
          clear hy
          have hbit : ((mask.toNat : Int) / 2 ^ k % 2 == 1) = mask.getLsbD k := by
            have h1 : (mask.toNat : Int) / 2 ^ k % 2 = ((mask.toNat / 2 ^ k % 2 : Nat) : Int) := by simp
            rw [h1, BitVec.getLsbD, Nat.testBit_eq_decide_div_mod_eq, Bool.eq_iff_iff]
            simp; omega
          have hge : 0 ≤ (mask.toNat : Int) / 2 ^ k := Int.ediv_nonneg (by omega) (Int.pow_nonneg (by omega))
          cases hb : mask.getLsbD k with
          | true =>
            rw [hb] at hbit
            have i0 : (0 : Int) ≤ (q : Int) := by omega
            have i1 : (q : Int) < ((b.length + 4 : Nat) : Int) := by omega
            have i2 : (q : Int) < (b.length : Int) + 4 := by omega
            go_wp2_with fail
            have q1 : IntKind.i64.wrap ((f : Int) + (k : Int)) = (f : Int) + (k : Int) := IntWalk.i64_in _ (by omega)
            have q2 : ((f : Int) + (k : Int)).tdiv 8 = (q : Int) := by rw [Int.tdiv_eq_ediv_of_nonneg (by omega)]; exact hq
            have q3 : IntKind.i64.wrap (q : Int) = (q : Int) := IntWalk.i64_in _ (by omega)
            have q4 : ((f : Int) + (k : Int)).tmod 8 = (r : Int) := by rw [Int.tmod_eq_emod_of_nonneg (by omega)]; exact hr
            have q5 : (r : Int) < 8 := by omega
            have q6 : (0 : Int) ≤ (r : Int) := by omega
            go_still_tail 19, (by kernel_rfl)
            change wpList _ _ _ _ _ wr.drew
            have hon := OwnP.new_ ho (New.drew wr)
            have hnn := hn.trans (New.drew wr)
            have hcell2 : wr.drew.cell? ⟨g, o + q, none⟩ = some (bv c) := hcell
            have hfr2 : wr.drew.frozen? ⟨g, o + q, none⟩ = false := hfr
            generalize wr.drew = w5 at hon hnn hcell2 hfr2 ⊢
            go_wp2
            rw [xor_pow]
            refine ⟨⟨k + 1, by omega, by go_num, ?_, Below.setCell hnn ?_ _⟩, by simp [intOf]; omega⟩
            · have := hon.store hkf (u := bv (c ^^^ UInt8.ofNat (2 ^ r))) ⟨_, rfl⟩
              rw [map_flip _ (f + k) q r c Hqd.out Hrd.out Hy.out] at this
              unfold turn; rw [hb]; exact this
            · exact (hon.lt g rfl).1
          | false =>
            rw [hb] at hbit
            go_wp2_with fail
            refine ⟨⟨k + 1, by omega, by go_num, ?_, hn⟩, by simp [intOf]; omega⟩
            unfold turn; rw [hb]; exact ho
        · have hk' : k = 32 := by omega
          subst hk'
          have hlen : (turn (putL b) f mask 32).length = b.length + 4 := by rw [length_turn]; exact Hlen.out
          have hrb : RB wr (.slice (some ⟨g, o, none⟩) (b.length + 4) c8) (turn (putL b) f mask 32) := ho.rd
          have hbad := check_turn b f mask (by omega) Hm0.out
          go_wp2_with fail
          refine (check_bad _ _ _ hrb (by rw [hlen]; omega) hbad).mono ?_
          rintro e w6 ⟨v6, rfl, ho6, hn6⟩
          obtain ⟨A6, c6, rfl, _, _⟩ := ho6.rb.shape
          go_wp2
          go_ret
          exact ⟨rfl, (hn1.trans hn).trans hn6⟩
end Go.Proofs.Ytkfcdfcoiglieaa
