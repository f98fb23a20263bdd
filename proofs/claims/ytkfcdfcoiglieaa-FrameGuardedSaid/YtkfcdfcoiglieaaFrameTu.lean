/- satchellaw11.FrameTurned returns true. Conditions: the frame's body reads as bytes. -/
import Derived.Test.YtkfcdfcoiglieaaFrameKn
import Derived.Test.YtkfcdfcoiglieaaBursts
namespace Go.Proofs.Ytkfcdfcoiglieaa
open Go.RowKit

/-- A frame's bytes ahead of the sum. -/
def headOf (f : Frm) : List UInt8 := headF f 4 ++ be f.body.length 2 ++ f.body
theorem layF_put (f : Frm) : layF f = putL (headOf f) := rfl
theorem length_headOf (f : Frm) : (headOf f).length = 22 + f.body.length := by
  unfold headOf; rw [List.length_append, List.length_append, length_headF, length_be]
theorem put_ok {f : Frm} (h : checkF f = 0) (vb : Value) (w : World) (hr : RB w vb f.body) : Calls Try.prog 44 #[fv f vb] w fun e w' =>
    ∃ v', e = .returned (.tuple #[v', .int .i64 0]) ∧ OwnB w' w.heap.size v' (putL (headOf f)) ∧ New w w' :=
  (putf_any f vb w hr).mono fun e w' ⟨v', he, ho, hn⟩ => by
    rw [if_pos h] at ho
    rw [h] at he
    exact ⟨v', he, ho, hn⟩
theorem put_bad {f : Frm} {n : Int} (h : checkF f = n) (h0 : n ≠ 0) (vb : Value) (w : World) (hr : RB w vb f.body) : Calls Try.prog 44 #[fv f vb] w fun e w' =>
    ∃ v', e = .returned (.tuple #[v', .int .i64 n]) ∧ RB w' v' [] ∧ New w w' :=
  (putf_any f vb w hr).mono fun e w' ⟨v', he, ho, hn⟩ => by
    rw [h, if_neg h0] at ho
    rw [h] at he
    exact ⟨v', he, ho.rb, hn⟩
theorem err_none {b : List UInt8} (h : checkL b = none) (h1 : 26 ≤ b.length) (h2 : b.length ≤ 1426) : errR b = 210 := by
  unfold errR; rw [if_neg (by omega), if_neg (by omega), h]

set_option maxRecDepth 100000 in
set_option maxHeartbeats 3200000 in
theorem turned_law (f : Frm) (vb : Value) (x : Int) (mask : BitVec 32) (w : World) (hb : RB w vb f.body) :
    Calls Try.prog 15 #[fv f vb, .int .i64 x, uv mask] w fun e w' => e = .returned (.bool true) ∧ New w w' := by
  obtain ⟨A0, c0, rfl, h01, h02⟩ := hb.shape
  have hB0 := Bk.ofNew w 47 #[.int .i64 f.typ, .int .i64 f.ses, .int .i64 f.boot, .int .i64 f.seq, .int .i64 f.ack, .slice A0 f.body.length c0]
  have hN0 := New.alloc w (.cells #[.int .i64 f.typ, .int .i64 f.ses, .int .i64 f.boot, .int .i64 f.seq, .int .i64 f.ack, .slice A0 f.body.length c0] 47)
  by_cases hlb : (300 : Int) < (f.body.length : Int)
  · go_enter Try.func15, Try.ntmps15
    go_wp2_with fail
    refine (awake11 _).mono ?_
    rintro e w1 ⟨rfl, hn1⟩
    have m5 := (hB0.new_ hn1).cellAt (i := 5) rfl
    go_wp2
    go_ret
    exact ⟨rfl, hN0.trans hn1⟩
  by_cases hm0 : mask = 0#32
  · subst hm0
    go_enter Try.func15, Try.ntmps15
    go_wp2_with fail
    refine (awake11 _).mono ?_
    rintro e w1 ⟨rfl, hn1⟩
    have m5 := (hB0.new_ hn1).cellAt (i := 5) rfl
    go_wp2
    go_ret
    exact ⟨rfl, hN0.trans hn1⟩
  have hmask := mask.isLt
  have hmb : ((mask.toNat : Int) == 0) = false := by
    rw [beq_eq_false_iff_ne]; intro h; exact hm0 (BitVec.eq_of_toNat_eq (by simp; omega))
  have Hm0 := Lib.hid hm0; clear hm0
  by_cases hok : checkF f = 0
  · obtain ⟨b, hbd⟩ : ∃ b, b = headOf f := ⟨_, rfl⟩
    have hbl := length_headOf f
    rw [← hbd] at hbl
    have hb22 : 22 ≤ b.length := by omega
    have hb322 : b.length ≤ 322 := by omega
    have Hput := Lib.hid (fun w => put_ok hok (.slice A0 f.body.length c0) w)
    rw [← hbd] at Hput
    clear hok hbl hbd
    go_enter Try.func15, Try.ntmps15
    go_wp2_with fail
    refine (awake11 _).mono ?_
    rintro e w1 ⟨rfl, hn1⟩
    have hB1 := hB0.new_ hn1
    have m0 := hB1.cellAt (i := 0) rfl
    have m1 := hB1.cellAt (i := 1) rfl
    have m2 := hB1.cellAt (i := 2) rfl
    have m3 := hB1.cellAt (i := 3) rfl
    have m4 := hB1.cellAt (i := 4) rfl
    have m5 := hB1.cellAt (i := 5) rfl
    have hb1 := (hb.new_ hN0).new_ hn1
    have hm1 := hN0.trans hn1
    go_wp2_with fail
    refine (Hput.out _ hb1).mono ?_
    rintro e w2 ⟨v8, rfl, ho2, hn2⟩
    clear m0 m1 m2 m3 m4 m5 hB0 hB1 Hput
    obtain ⟨A8, c8, rfl, h81, h82⟩ := ho2.shape (length_putL b)
    have Hlen := Lib.hid (length_putL b)
    go_wp2_with fail
    refine (pick_nat x (8 * ((b.length : Int) + 4) - 31) _ (by omega) (by omega)).mono ?_
    rintro e w5 ⟨p, hf, rfl, rfl⟩
    obtain ⟨g, o, rfl⟩ : ∃ g o, A8 = some ⟨g, o, none⟩ := by
      rcases ho2 with ⟨h, _⟩ | ⟨g, o, cap, cur, hv, _⟩
      · injection h with _ h _; omega
      · injection hv with h _ _; exact ⟨g, o, h⟩
    go_wp2_with fail
    go_loopw [10] (fun u11 wr => ∃ k : Nat, k ≤ 32 ∧ u11 = .int .i64 k ∧ OwnP isB wr w1.heap.size 5 (.slice (some ⟨g, o, none⟩) (b.length + 4) c8) ((turn (putL b) p mask k).map bv) ∧ New w1 wr) (fun u11 _ => 32 - (intOf u11).toNat)
    case atStart => exact ⟨0, by omega, rfl, ho2, hn2⟩
    case round =>
      obtain ⟨k, hk, rfl, ho, hn⟩ := hrel
      by_cases hk32 : k < 32
      · obtain ⟨q, hqd⟩ : ∃ q : Nat, q = (p + k) / 8 := ⟨_, rfl⟩
        obtain ⟨r, hrd⟩ : ∃ r : Nat, r = (p + k) % 8 := ⟨_, rfl⟩
        have hkf : q < b.length + 4 := by omega
        have hr8 : r < 8 := by omega
        obtain ⟨y, hy, hcell, hfr⟩ := ho.cellAt hkf
        have hq : ((p : Int) + (k : Int)) / 8 = (q : Int) := by omega
        have hr : ((p : Int) + (k : Int)) % 8 = (r : Int) := by omega
        have Hqd := Lib.hid hqd
        have Hrd := Lib.hid hrd
        clear hqd hrd
        obtain ⟨c, rfl⟩ : ∃ c, y = bv c := by
          simp only [List.getElem?_map, Option.map_eq_some_iff] at hy
          obtain ⟨c, _, h⟩ := hy; exact ⟨c, h.symm⟩
        have Hy := Lib.hid hy
        clear hy
        have hbit : ((mask.toNat : Int) / 2 ^ k % 2 == 1) = mask.getLsbD k := by
          have h1 : (mask.toNat : Int) / 2 ^ k % 2 = ((mask.toNat / 2 ^ k % 2 : Nat) : Int) := by simp
          rw [h1, BitVec.getLsbD, Nat.testBit_eq_decide_div_mod_eq, Bool.eq_iff_iff]
          simp; omega
        have hge : 0 ≤ (mask.toNat : Int) / 2 ^ k := Int.ediv_nonneg (by omega) (Int.pow_nonneg (by omega))
        cases hbb : mask.getLsbD k with
        | true =>
          rw [hbb] at hbit
          have i0 : (0 : Int) ≤ (q : Int) := by omega
          have i1 : (q : Int) < ((b.length + 4 : Nat) : Int) := by omega
          have i2 : (q : Int) < (b.length : Int) + 4 := by omega
          go_wp2_with fail
          have q1 : IntKind.i64.wrap ((p : Int) + (k : Int)) = (p : Int) + (k : Int) := IntWalk.i64_in _ (by omega)
          have q2 : ((p : Int) + (k : Int)).tdiv 8 = (q : Int) := by rw [Int.tdiv_eq_ediv_of_nonneg (by omega)]; exact hq
          have q3 : IntKind.i64.wrap (q : Int) = (q : Int) := IntWalk.i64_in _ (by omega)
          have q4 : ((p : Int) + (k : Int)).tmod 8 = (r : Int) := by rw [Int.tmod_eq_emod_of_nonneg (by omega)]; exact hr
          have q5 : (r : Int) < 8 := by omega
          have q6 : (0 : Int) ≤ (r : Int) := by omega
          go_still_tail 19, (by kernel_rfl)
          change wpList _ _ _ _ _ wr.drew
          have hon := OwnP.new_ ho (New.drew wr)
          have hnn := hn.trans (New.drew wr)
          have hcell2 : wr.drew.cell? ⟨g, o + q, none⟩ = some (bv c) := hcell
          have hfr2 : wr.drew.frozen? ⟨g, o + q, none⟩ = false := hfr
          generalize wr.drew = w5 at hon hnn hcell2 hfr2 ⊢
          go_wp2
          rw [xor_pow]
          refine ⟨⟨k + 1, by omega, by go_num, ?_, Below.setCell hnn ?_ _⟩, by simp [intOf]; omega⟩
          · have := hon.store hkf (u := bv (c ^^^ UInt8.ofNat (2 ^ r))) ⟨_, rfl⟩
            rw [map_flip _ (p + k) q r c Hqd.out Hrd.out Hy.out] at this
            unfold turn; rw [hbb]; exact this
          · exact (hon.lt g rfl).1
        | false =>
          rw [hbb] at hbit
          go_wp2_with fail
          refine ⟨⟨k + 1, by omega, by go_num, ?_, hn⟩, by simp [intOf]; omega⟩
          unfold turn; rw [hbb]; exact ho
      · have hk' : k = 32 := by omega
        subst hk'
        have hlen : (turn (putL b) p mask 32).length = b.length + 4 := by rw [length_turn]; exact Hlen.out
        have hrb : RB wr (.slice (some ⟨g, o, none⟩) (b.length + 4) c8) (turn (putL b) p mask 32) := ho.rd
        have hbad := err_none (check_turn b p mask (by omega) Hm0.out) (by omega) (by omega)
        have Hread := Lib.hid (readf_bad hbad (by decide) _ _ hrb (by omega))
        clear hbad hlen
        go_wp2_with fail
        refine Hread.out.mono ?_
        rintro e w6 ⟨v6, rfl, hr6, hn6⟩
        obtain ⟨A6, c6, rfl, _, _⟩ := hr6.shape
        go_wp2_with fail
        refine (samef_any Frm.zero Frm.zero (.slice A6 0 c6) (.slice none 0 0) _ (hr6.new_ (New.alloc _ _)) (RB.nil _)).mono ?_
        rintro e w7 ⟨rfl, hn7⟩
        rw [sameF_refl]
        go_wp2
        go_ret
        exact ⟨rfl, (((hm1.trans hn).trans hn6).trans (New.alloc _ _)).trans hn7⟩
  · have Hput := Lib.hid (fun w => put_bad (f := f) rfl hok (.slice A0 f.body.length c0) w)
    have hne : (checkF f != 0) = true := bne_iff_ne.2 hok
    have Hok := Lib.hid hok; clear hok
    go_enter Try.func15, Try.ntmps15
    go_wp2_with fail
    refine (awake11 _).mono ?_
    rintro e w1 ⟨rfl, hn1⟩
    have hB1 := hB0.new_ hn1
    have m0 := hB1.cellAt (i := 0) rfl
    have m1 := hB1.cellAt (i := 1) rfl
    have m2 := hB1.cellAt (i := 2) rfl
    have m3 := hB1.cellAt (i := 3) rfl
    have m4 := hB1.cellAt (i := 4) rfl
    have m5 := hB1.cellAt (i := 5) rfl
    have hb1 := (hb.new_ hN0).new_ hn1
    have hm1 := hN0.trans hn1
    go_wp2_with fail
    refine (Hput.out _ hb1).mono ?_
    rintro e w2 ⟨v8, rfl, hr2, hn2⟩
    obtain ⟨A8, c8, rfl, h81, h82⟩ := hr2.shape
    go_wp2
    go_ret
    exact ⟨rfl, hm1.trans hn2⟩
end Go.Proofs.Ytkfcdfcoiglieaa
