/- guard.words returns the table of what a byte does to a sum; nothing that was there turns. No condition. -/
import Derived.Test.YtkfcdfcoiglieaaRows
import Derived.Test.YtkfcdfcoiglieaaMem
import Derived.Test.YtkfcdfcoiglieaaCrc
namespace Go.Proofs.Ytkfcdfcoiglieaa
open Go.RowKit

/-- The table as the program's array. -/
def tabV : Array Value := ((List.range 256).map fun i => uv (Crc.tab i)).toArray
theorem tabV_get (i : Nat) (h : i < 256) : tabV[i]? = some (uv (Crc.tab i)) := by simp [tabV, h]
theorem tabV_size : tabV.size = 256 := by simp [tabV]
theorem tabV_one : tabV.all (·.oneCell') = true := by
  refine Array.all_eq_true_iff_forall_mem.2 (fun v hv => ?_)
  simp only [tabV, List.mem_toArray, List.mem_map] at hv
  obtain ⟨i, _, rfl⟩ := hv
  rfl
theorem zero105_size : Try.zeroCells105.size = 256 := by decide +kernel
theorem tabV_ext (cs : Array Value) (hs : cs.size = 256) (h : ∀ j, j < 256 → cs[j]? = some (uv (Crc.tab j))) : cs = tabV := by
  apply Array.ext_getElem?
  intro i
  rcases Nat.lt_or_ge i 256 with hi | hi
  · rw [h i hi, tabV_get i hi]
  · rw [Array.getElem?_eq_none (by omega), Array.getElem?_eq_none (by rw [tabV_size]; omega)]
theorem info105 : (Try.prog.info? 105).map (·.size) = some 256 := by kernel_rfl

theorem and_one (x : Crc.W) : bits .and .u32 (x.toNat : Int) 1 = ((x.toNat % 2 : Nat) : Int) := by
  rw [show (1 : Int) = ((1 : Nat) : Int) from rfl, u32_and_nat _ _ x.isLt (by omega), nat_mask1]
theorem and_one_eq (x : Crc.W) : (bits .and .u32 (x.toNat : Int) 1 == 1) = x.getLsbD 0 := by
  rw [and_one, Bool.eq_iff_iff]
  have h : x.getLsbD 0 = decide (x.toNat % 2 = 1) := by simp [BitVec.getLsbD, Nat.testBit_zero]
  rw [h]; simp; omega
@[go_sem] theorem xor_u32 (x y : BitVec 32) : bits .xor .u32 (x.toNat : Int) (y.toNat : Int) = ((x ^^^ y).toNat : Int) := by
  rw [u32_xor_nat _ _ x.isLt y.isLt, BitVec.toNat_xor]
@[go_sem] theorem not_u32 (x : BitVec 32) : bits .xor .u32 IntKind.u32.max (x.toNat : Int) = ((~~~ x).toNat : Int) := by
  have h : IntKind.u32.max = (((BitVec.allOnes 32).toNat : Nat) : Int) := by decide
  rw [h, xor_u32, BitVec.allOnes_xor]
@[go_sem] theorem xor_u8 (x : BitVec 32) (c : UInt8) : bits .xor .u8 ((x.toNat : Int) % 256) (c.toNat : Int) = ((x.toNat % 256 ^^^ c.toNat : Nat) : Int) := by
  have := c.toNat_lt
  rw [show (x.toNat : Int) % 256 = ((x.toNat % 256 : Nat) : Int) from by omega, u8_xor_nat _ _ (by omega) (by omega)]
theorem half_u32 (x : BitVec 32) : (x.toNat : Int) / (2 : Int) = ((x >>> 1).toNat : Int) := by
  rw [BitVec.toNat_ushiftRight, Nat.shiftRight_eq_div_pow]; omega
theorem xor_poly (x : BitVec 32) : bits .xor .u32 ((x.toNat : Int) / 2) 3988292384 = ((x >>> 1 ^^^ Crc.poly).toNat : Int) := by
  rw [half_u32, show (3988292384 : Int) = ((Crc.poly.toNat : Nat) : Int) from rfl, xor_u32]
theorem step_odd (x : Crc.W) (h : (bits .and .u32 (x.toNat : Int) 1 == 1) = true) : x >>> 1 ^^^ Crc.poly = Crc.step x := by
  rw [and_one_eq] at h; unfold Crc.step; rw [if_pos h]
theorem step_even (x : Crc.W) (h : (bits .and .u32 (x.toNat : Int) 1 == 1) = false) : x >>> 1 = Crc.step x := by
  rw [and_one_eq] at h; unfold Crc.step; rw [if_neg (by rw [h]; decide)]

set_option maxRecDepth 100000 in
set_option maxHeartbeats 400000 in
theorem words_any (w : World) :
    Calls Try.prog 78 #[] w fun e w' => e = .returned (.agg tabV) ∧ New w w' := by
  go_enter Try.func78, Try.ntmps78
  go_wp2_with fail
  have hb0 : Bk ((w.alloc (Obj.cells Try.zeroCells105 105)).alloc (Obj.cells Try.zeroCells105 105)) w.heap.size 105 Try.zeroCells105 := (Bk.ofNew w _ _).alloc _
  have hb1 : Bk ((w.alloc (Obj.cells Try.zeroCells105 105)).alloc (Obj.cells Try.zeroCells105 105)) (w.heap.size + 1) 105 Try.zeroCells105 := by
    have := Bk.ofNew (w.alloc (Obj.cells Try.zeroCells105 105)) 105 Try.zeroCells105
    simpa using this
  have hn : New w ((w.alloc (Obj.cells Try.zeroCells105 105)).alloc (Obj.cells Try.zeroCells105 105)) := (New.alloc _ _).trans (New.alloc _ _)
  generalize (w.alloc (Obj.cells Try.zeroCells105 105)).alloc (Obj.cells Try.zeroCells105 105) = w1 at hb0 hb1 hn ⊢
  go_loopw [5] (fun u5 wr => ∃ (i : Nat) (cs : Array Value), i ≤ 256 ∧ u5 = .int .i64 i ∧ cs.size = 256 ∧ (∀ j, j < i → cs[j]? = some (uv (Crc.tab j))) ∧ Bk wr w.heap.size 105 Try.zeroCells105 ∧ Bk wr (w.heap.size + 1) 105 cs ∧ New w wr) (fun u5 wr => 256 - (intOf u5).toNat)
  case atStart => exact ⟨0, _, by omega, rfl, zero105_size, fun j hj => by omega, hb0, hb1, hn⟩
  case round =>
    clear hb0 hb1 hn
    obtain ⟨i, cs, hi, rfl, hcs, hall, hb0, hb1, hn⟩ := hrel
    have Hcs := Lib.hid hcs; clear hcs
    have Hall := Lib.hid hall; clear hall
    by_cases hlt : i < 256
    · go_wp2_with fail
      go_loop [3,10] (fun u3 u10 => ∃ k : Nat, k ≤ 8 ∧ u10 = .int .i64 k ∧ u3 = uv (Crc.steps k (BitVec.ofNat 32 i))) (fun u3 u10 => 8 - (intOf u10).toNat)
      case atStart => exact ⟨0, by omega, rfl, by simp [Crc.steps]; omega⟩
      case round =>
        obtain ⟨k, hk, rfl, rfl⟩ := hrel
        have hx := (Crc.steps k (BitVec.ofNat 32 i)).isLt
        by_cases hk8 : k < 8
        · go_wp2_with fail
          · rename_i ht
            refine ⟨⟨k + 1, by omega, by go_num, ?_⟩, by simp [intOf]; omega⟩
            rw [xor_poly, step_odd _ ht]; rfl
          · rename_i ht
            refine ⟨⟨k + 1, by omega, by go_num, ?_⟩, by simp [intOf]; omega⟩
            rw [half_u32, step_even _ ht]; rfl
        · have hk9 : k = 8 := by omega
          subst hk9
          obtain ⟨v0, hv0⟩ : ∃ v0, wr.cell? ⟨w.heap.size + 1, i, none⟩ = some v0 := ⟨cs[i]'(by rw [Hcs.out]; omega), hb1.cellAt (by simp)⟩
          have hfr := hb1.frozen i
          go_wp2_with fail
          refine ⟨⟨i + 1, cs.setIfInBounds i (uv (Crc.tab i)), by omega, by go_num, by simp [Hcs.out], fun j hj => ?_, hb0.far (by simp) _, hb1.set_ _ _, ?_⟩, by simp [intOf]; omega⟩
          · rcases Nat.lt_or_ge j i with hji | hji
            · rw [Array.getElem?_setIfInBounds_ne (by omega)]; exact Hall.out j hji
            · have : j = i := by omega
              subst this
              rw [Array.getElem?_setIfInBounds_self_of_lt (by rw [Hcs.out]; omega)]
          · exact Below.setCell hn (by show w.heap.size ≤ w.heap.size + 1; omega) _
    · have hi6 : i = 256 := by omega
      subst hi6
      have ht : cs = tabV := tabV_ext cs Hcs.out Hall.out
      subst ht
      go_wp2_with (first
        | (refine wpList_load_row rfl 105 _ rfl (w.heap.size + 1) rfl 105 tabV (0, 0) _ hb1 Try.underlying105 rfl (by rw [tabV_size]; exact info105) ?_)
        | (refine wpList_store_row rfl 105 _ _ rfl w.heap.size tabV rfl rfl _ _ hb0 (by rw [tabV_size]; exact info105) (by rw [tabV_size]; exact zero105_size) tabV_one ?_))
      exact bodyPost_ret (v := .agg tabV) (results_cell_row rfl _ _ w.heap.size 105 tabV (0, 0) _ rfl (hb0.setRow tabV) Try.underlying105 rfl (by rw [tabV_size]; exact info105)) rfl
        ⟨rfl, below_setRow hn (Nat.le_refl _) _⟩
end Go.Proofs.Ytkfcdfcoiglieaa
