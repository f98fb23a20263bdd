/- guard.More and guard.Sum return the chapter's sum of what they are handed; nothing that was there turns. Condition: the slice reads as bytes. -/
import Derived.Test.YtkfcdfcoiglieaaWords
namespace Go.Proofs.Ytkfcdfcoiglieaa
open Go.RowKit

theorem byte_u32 (x : BitVec 32) : (x.toNat : Int) / (256 : Int) = ((x >>> 8).toNat : Int) := by
  rw [BitVec.toNat_ushiftRight, Nat.shiftRight_eq_div_pow]; omega
theorem more_step (n : BitVec 32) (c : UInt8) : bits .xor .u32 ((Crc.tab (n.toNat % 256 ^^^ c.toNat)).toNat : Int) ((n.toNat : Int) / 256) = ((Crc.byteStep n c).toNat : Int) := by
  rw [byte_u32, xor_u32, Crc.tab_step]
theorem uv_not (n : BitVec 32) : Value.int .u32 ((4294967295 - n.toNat : Nat) : Int) = uv (~~~ n) := by
  show _ = Value.int .u32 ((~~~ n).toNat : Int)
  rw [BitVec.toNat_not]
theorem run_snoc (n : BitVec 32) (l : List UInt8) (i : Nat) (h : i < l.length) : Crc.run n (l.take (i + 1)) = Crc.byteStep (Crc.run n (l.take i)) l[i] := by
  rw [List.take_succ_eq_append_getElem h, Crc.run_append]; rfl

set_option maxRecDepth 100000 in
set_option maxHeartbeats 400000 in
theorem more_any (s : BitVec 32) (v : Value) (l : List UInt8) (w : World) (h : RB w v l) :
    Calls Try.prog 30 #[uv s, v] w fun e w' => e = .returned (uv (~~~ (Crc.run (~~~ s) l))) ∧ New w w' := by
  obtain ⟨A, c, rfl, hl, hc, hx⟩ := h.open
  unfold maxLen at hc
  go_enter Try.func30, Try.ntmps30
  go_wp2_with (first
    | (go_at_call 78; refine (words_any _).mono ?_; rintro e w1 ⟨rfl, hn1⟩)
    | (refine wpList_store_row rfl 105 _ _ rfl w1.heap.size tabV rfl rfl _ _ (Bk.ofNew w1 _ _) (by rw [tabV_size]; exact info105) (by rw [tabV_size]; exact zero105_size) tabV_one ?_))
  have hb : Bk ((w1.alloc (Obj.cells Try.zeroCells105 105)).setRow w1.heap.size tabV) w1.heap.size 105 tabV := (Bk.ofNew w1 _ _).setRow _
  have hn : New w ((w1.alloc (Obj.cells Try.zeroCells105 105)).setRow w1.heap.size tabV) := below_setRow (hn1.trans (New.alloc w1 _)) hn1.size _
  generalize (w1.alloc (Obj.cells Try.zeroCells105 105)).setRow w1.heap.size tabV = w2 at hb hn ⊢
  go_loop [6, 14] (fun u6 u14 => ∃ i : Nat, i ≤ l.length ∧ u14 = .int .i64 i ∧ u6 = uv (Crc.run (~~~ s) (l.take i))) (fun _ u14 => l.length - (intOf u14).toNat)
  case atStart => exact ⟨0, by omega, rfl, uv_not s⟩
  case round =>
    obtain ⟨i, hi, rfl, rfl⟩ := hrel
    by_cases hlt : i < l.length
    · obtain ⟨b, o, rfl, hxs⟩ := hx (by omega)
      have hcell := hn.cell (hxs i l[i] (List.getElem?_eq_getElem hlt))
      clear hxs hx
      have hix : (Crc.run (~~~ s) (l.take i)).toNat % 256 ^^^ l[i].toNat < 256 := Nat.xor_lt_two_pow (n := 8) (by omega) l[i].toNat_lt
      have hix' : (((Crc.run (~~~ s) (l.take i)).toNat % 256 ^^^ l[i].toNat : Nat) : Int) < 256 := by omega
      have htab := hb.cellAt (tabV_get _ hix)
      go_wp2
      refine ⟨⟨i + 1, by omega, by go_num, ?_⟩, by simp [intOf]; omega⟩
      rw [run_snoc _ _ _ hlt, more_step]
    · have hi' : i = l.length := by omega
      subst hi'
      rw [List.take_length]
      go_wp2
      go_ret
      exact ⟨congrArg _ (uv_not _), hn⟩

set_option maxHeartbeats 400000 in
theorem sum_any (v : Value) (l : List UInt8) (w : World) (h : RB w v l) :
    Calls Try.prog 28 #[v] w fun e w' => e = .returned (uv (Crc.sumOf l)) ∧ New w w' := by
  have hm := more_any 0#32 v l
  go_enter Try.func28, Try.ntmps28
  go_wp2_with (go_at_call 30; refine (hm _ h).mono ?_; rintro e w1 ⟨rfl, hn1⟩)
  go_ret
  exact ⟨rfl, hn1⟩
end Go.Proofs.Ytkfcdfcoiglieaa
