/- frame.Put's function 'lay': so many bytes of a number go behind what the captured slice holds. Conditions: the number is from 0 on and fits; the slice is of the call's own. -/
import Derived.Test.YtkfcdfcoiglieaaFrameC
import Derived.Deep.RegionLaw
namespace Go.Proofs.Ytkfcdfcoiglieaa
open Go.RowKit

def byteOf (x : Int) : UInt8 := UInt8.ofNat (x % 256).toNat
/-- So many bytes of a number, the highest first. -/
def be (n : Int) (k : Nat) : List UInt8 := (List.range k).map fun j => byteOf (n / 256 ^ (k - 1 - j))
theorem length_be (n : Int) (k : Nat) : (be n k).length = k := by simp [be]
theorem be_take (n : Int) (k j : Nat) (h : j < k) : (be n k).take j ++ [byteOf (n / 256 ^ (k - 1 - j))] = (be n k).take (j + 1) := by
  rw [List.take_succ_eq_append_getElem (by rw [length_be]; exact h)]
  simp [be]

theorem wrap_byte (n : Int) (m : Nat) : Value.int .u8 (IntKind.u8.wrap (n / 2 ^ (8 * m))) = bv (byteOf (n / 256 ^ m)) := by
  show _ = Value.int .u8 (((byteOf (n / 256 ^ m)).toNat : Nat) : Int)
  congr 1
  rw [IntKind.wrap_u8', byteOf, UInt8.toNat_ofNat_of_lt' (by show _ < 256; omega), Int.pow_mul, show (2 : Int) ^ 8 = 256 from rfl]
  omega

set_option maxRecDepth 100000 in
set_option maxHeartbeats 1600000 in
theorem lay_any (n : Int) (k : Nat) (g base : Nat) (v : Value) (l : List UInt8) (w : World) (hk : k ≤ 4) (hB : Bk w g 22 #[v]) (ho : OwnB w base v l) (hbase : base ≤ w.heap.size) (hg : base ≤ g) (hl : l.length ≤ 1000000) :
    Calls Try.prog 84 #[.int .i64 n, .int .i64 k, .pointer (some ⟨g, 0, none⟩)] w fun e w' => ∃ v', e = .returned (.tuple #[]) ∧ Bk w' g 22 #[v'] ∧ OwnB w' base v' (l ++ be n k) ∧ Below base w w' ∧ w.heap.size ≤ w'.heap.size := by
  obtain ⟨i0, hi0, hz0, hz1, hz2⟩ := info_parts info_u8
  go_enter Try.func84, Try.ntmps84
  go_wp2_with fail
  go_loopw [5] (fun u5 wr => ∃ (j : Nat) (v' : Value), j ≤ k ∧ u5 = .int .i64 ((k : Int) - 1 - (j : Int)) ∧ Bk wr g 22 #[v'] ∧ OwnB wr base v' (l ++ (be n k).take j) ∧ Below base w wr ∧ w.heap.size ≤ wr.heap.size) (fun u5 _ => (intOf u5 + 1).toNat)
  case atStart => exact ⟨0, v, by omega, by go_num, hB, by simpa using ho, Below.refl _ _, Nat.le_refl _⟩
  case round =>
    clear hB ho
    obtain ⟨j, v', hj, rfl, hB, ho, hb, hsz⟩ := hrel
    by_cases hlt : j < k
    · obtain ⟨m, hm⟩ : ∃ m : Nat, m = k - 1 - j := ⟨_, rfl⟩
      have hmi : (k : Int) - 1 - (j : Int) = (m : Int) := by omega
      have hm3 : m ≤ 3 := by omega
      have Hm := Lib.hid hm; clear hm
      rw [hmi]
      have Hmi := Lib.hid hmi; clear hmi
      generalize hlt' : l ++ (be n k).take j = lt at ho
      have Hlt := Lib.hid hlt'; clear hlt'
      have hltl : lt.length ≤ 1000004 := by rw [← Hlt.out, List.length_append, List.length_take, length_be]; omega
      have m0 := hB.cellAt (i := 0) rfl
      have mf := hB.frozen 0
      obtain ⟨A, c, rfl, hl1, hc1⟩ := ho.rb.shape
      have q1 : IntKind.i64.wrap (8 * (m : Int)) = 8 * (m : Int) := IntWalk.i64_in _ (by omega)
      have q2 : (0 : Int) ≤ 8 * (m : Int) := by omega
      have q3 : 8 * (m : Int) < 64 := by omega
      have q4 : (8 * (m : Int)).toNat = 8 * m := by omega
      have hown : OwnP isB (wr.alloc (.cells #[Value.int .u8 (IntKind.u8.wrap (n / 2 ^ (8 * m)))] 5)).drew base 5 (.slice A lt.length c) (lt.map bv) := OwnP.new_ (OwnP.new_ ho (New.alloc _ _)) (New.drew _)
      have hrd : Rd (wr.alloc (.cells #[Value.int .u8 (IntKind.u8.wrap (n / 2 ^ (8 * m)))] 5)).drew (.slice (some ⟨wr.heap.size, 0, none⟩) 1 1) ([byteOf (n / 256 ^ m)].map bv) := by
        refine Rd.ofBk (xs := [byteOf (n / 256 ^ m)].map bv) (Bk.ofNew wr _ _).drew (fun i x hx => ?_) (by simp) (by simp [maxLen])
        rw [← hx]
        match i with
        | 0 => simp [wrap_byte]
        | i + 1 => simp
      have hc2 : (lt.map bv).length + ([byteOf (n / 256 ^ m)].map bv).length ≤ maxLen := by unfold maxLen; simp; omega
      have hc3 : ((lt.map bv).length + ([byteOf (n / 256 ^ m)].map bv).length) * 1 ≤ 140737488355328 := by simp; omega
      have hsz1 : base ≤ (wr.alloc (.cells #[Value.int .u8 (IntKind.u8.wrap (n / 2 ^ (8 * m)))] 5)).drew.heap.size := by simp; omega
      have hne : ∀ g', (Value.slice A lt.length c).ownBlock = some g' → g' ≠ g := by
        intro g' hg' e
        subst e
        rcases ho with ⟨h, _⟩ | ⟨g2, o2, cap, cur, hv, _, hb2, _⟩
        · rw [h] at hg'; cases hg'
        · rw [hv] at hg'
          injection hg' with hg'
          subst hg'
          unfold Bk at hB hb2
          rw [hB] at hb2
          injection hb2 with hb2
          injection hb2 with _ ht _
          cases ht
      have hglt : g < wr.heap.size := hB.lt
      go_wp2_with fail
      go_region_law
        ((refine step_append_rd _ (by rfl) (.tmp 12) (.tmp 18) _ (by rfl) base 5 i0 _ 1 Try.underlying22 hi0 hz0 (by exact hz1) (by exact hz2) (by rfl) isB_zero _ (lt.map bv) (by rfl) hown _ ([byteOf (n / 256 ^ m)].map bv) (by rfl) hrd (bv_one _) (isB_map _) hc2 hc3 hsz1 ?_; intro v2 w2 hown2 hg2 hat2; have hB2 : Bk w2 g 22 #[Value.slice A lt.length c] := (hg2.block g (Nat.lt_of_lt_of_le hB.lt (New.alloc wr _).size) (fun e => hne g e.symm rfl)).trans (hB.alloc _); have mf2 := hB2.frozen 0; have mc2 := hB2.cellAt (i := 0) rfl; obtain ⟨A2, c2, rfl, hA2, hA3, _⟩ := OwnP.rd hown2))
      all_goals
        have hown3 : OwnB w2 base (.slice A2 (lt.length + 1) c2) (lt ++ [byteOf (n / 256 ^ m)]) := by
          have := hown2
          simp only [List.length_append, List.length_map, List.length_cons, List.length_nil] at this
          unfold OwnB; rw [List.map_append]; exact this
        have hne2 : ∀ g', (Value.slice A2 (lt.length + 1) c2).ownBlock = some g' → g' ≠ g := by
          intro g' hg' e
          subst e
          have hat3 := hat2
          simp only [List.length_append, List.length_map, List.length_cons, List.length_nil] at hat3
          rcases hat3 with h | h
          · exact hne _ (h.symm.trans hg') rfl
          · have h2 := h.symm.trans hg'
            injection h2 with h2
            simp at h2; omega
        have hown4 : OwnB (w2.setCell ⟨g, 0, none⟩ (.slice A2 (lt.length + 1) c2)) base (.slice A2 (lt.length + 1) c2) (lt ++ [byteOf (n / 256 ^ m)]) :=
          OwnP.keep hown3 (fun g' hg' => Below.heap_setCell _ _ _ _ (fun e => hne2 g' hg' e))
        have hB3 := hB2.set_ 0 (.slice A2 (lt.length + 1) c2)
        have hb2 : Below base w w2 := grown_below (hb.trans (((New.alloc wr _).trans (New.drew _)).toBelow.mono (by omega))) hown hg2 hsz1
        have hb3 : Below base w (w2.setCell ⟨g, 0, none⟩ (.slice A2 (lt.length + 1) c2)) := hb2.setCell hg _
        have hsz3 : w.heap.size ≤ (w2.setCell ⟨g, 0, none⟩ (.slice A2 (lt.length + 1) c2)).heap.size := by
          have h1 := hg2.size
          simp at h1 ⊢; omega
        generalize w2.setCell ⟨g, 0, none⟩ (.slice A2 (lt.length + 1) c2) = w3 at hown4 hB3 hb3 hsz3 ⊢
        clear hown2 hown3 hB2 mc2 mf2 hg2 hat2 hb2
        go_wp2
        refine ⟨⟨j + 1, _, by omega, ?_, hB3, ?_, hb3, hsz3⟩, by simp [intOf]⟩
        · rw [← Hmi.out]; go_num
        · rw [← be_take n k j hlt, ← List.append_assoc, Hlt.out, ← Hm.out]; exact hown4
    · have hj' : j = k := by omega
      subst hj'
      have e1 : (j : Int) - 1 - (j : Int) = -1 := by omega
      rw [e1]
      go_wp2
      go_end0
      refine ⟨v', rfl, hB, ?_, hb, hsz⟩
      rwa [List.take_of_length_le (by rw [length_be]; exact Nat.le_refl _)] at ho
end Go.Proofs.Ytkfcdfcoiglieaa
