/- The kit's functions on bytes: SameBytes, CopyBytes, LentBytes, KeptBytes, OverBytes, Pick: what they return and what they write. Conditions: the slices read as bytes. -/
import Derived.Test.YtkfcdfcoiglieaaSlib
import Derived.Deep.RegionWith
import Derived.Deep.RegionHeld3
namespace Go.Proofs.Ytkfcdfcoiglieaa
open Go.RowKit

def strOf (l : List UInt8) : ByteArray := ⟨l.toArray⟩
theorem strOf_inj {l m : List UInt8} : strOf l = strOf m ↔ l = m := by
  constructor
  · intro h
    have := congrArg (fun b : ByteArray => b.data.toList) h
    simpa [strOf] using this
  · rintro rfl; rfl
theorem foldl_push (ns : List Int) (s : ByteArray) : ns.foldl (fun r n => r.push (UInt8.ofNat n.toNat)) s = ⟨s.data ++ (ns.map fun n => UInt8.ofNat n.toNat).toArray⟩ := by
  induction ns generalizing s with
  | nil => simp
  | cons n ns ih => rw [List.foldl_cons, ih]; simp [ByteArray.push]
theorem run_str {w : World} {v : Value} {l : List UInt8} (h : RB w v l) : (convert 22 9 v).run Try.prog w = .ok (.string (strOf l)) w := by
  obtain ⟨A, c, rfl, h1, h2, hx⟩ := h.open
  rw [run_convert_bytes_string w _ _ _ A l.length c Try.underlying22 Try.underlying5 Try.underlying9]
  rcases A with _ | a
  · have hc0 : c = 0 := by
      rcases Nat.eq_zero_or_pos c with h | h
      · exact h
      · obtain ⟨_, _, h, _⟩ := hx h; cases h
    have hl0 : l = [] := List.eq_nil_of_length_eq_zero (by omega)
    subst hl0
    rfl
  · have hload : (loadCells a l.length).run Try.prog w = .ok ((l.map fun c => (c.toNat : Int)).map (Value.int .u8)).toArray w := by
      have := run_loadCells_list (P := Try.prog) w a (l.map bv) (fun j v hv => by
        have hj : j < l.length := by
          have := (List.getElem?_eq_some_iff.1 hv).1; simpa using this
        obtain ⟨b, o, e, hcell⟩ := hx (by omega)
        injection e with e
        subst e
        have ha : (⟨b, o, none⟩ : Addr).add j = ⟨b, o + j, none⟩ := by unfold Addr.add; split <;> simp_all
        rw [ha, hcell j l[j] (List.getElem?_eq_getElem hj)]
        rw [← hv]; simp [hj])
      rw [List.length_map] at this
      rw [this, List.map_map]; rfl
    rw [run_bytesToString w a _ _ _ hload, foldl_push]
    have : (l.map fun c => (c.toNat : Int)).map (fun n => UInt8.ofNat n.toNat) = l := by
      rw [List.map_map]; conv => rhs; rw [← List.map_id l]
      exact List.map_congr_left (fun c _ => by simp)
    rw [this]; simp [strOf, ByteArray.empty, ByteArray.emptyWithCapacity]; rfl
@[go_sem] theorem strOf_beq (l m : List UInt8) : ((strOf l).toList == (strOf m).toList) = decide (l = m) := by
  rw [strOf, strOf, ByteArray.toList_mk, ByteArray.toList_mk, Bool.beq_eq_decide_eq]

@[go_sem] theorem strOf_bne (l m : List UInt8) : ((strOf l).toList != (strOf m).toList) = !decide (l = m) := by
  rw [bne, strOf_beq]

set_option maxRecDepth 100000 in
set_option maxHeartbeats 400000 in
theorem same_any (v1 v2 : Value) (l1 l2 : List UInt8) (w : World) (h1 : RB w v1 l1) (h2 : RB w v2 l2) :
    Calls Try.prog 31 #[v1, v2] w fun e w' => e = .returned (.bool (decide (l1 = l2))) ∧ w = w' := by
  have r1 := run_str h1
  have r2 := run_str h2
  go_enter Try.func31, Try.ntmps31
  go_wp2
  go_ret
  exact ⟨rfl, rfl⟩

def zs (n : Nat) : List Value := List.replicate n (.int .u8 0)
theorem length_zs (n : Nat) : (zs n).length = n := List.length_replicate
theorem make_bytes (n : Nat) (h : n ≤ 1073741824) (w : World) :
    (Instr.makeSlice 22 (.int .i64 (n : Int)) (.int .i64 (n : Int))).run Try.prog w = .ok (.slice (some ⟨w.heap.size, 0, none⟩) n n) (w.alloc (.cells (zs n).toArray 5)) := by
  obtain ⟨i0, hi0, hz0, hz1, hz2⟩ := info_parts info_u8
  have hr := run_make (P := Try.prog) w 22 5 i0 _ Try.underlying22 hi0 hz0 .i64 .i64 n n (by omega) (by omega) (by rw [hz2]; omega) (by omega)
  simp only [Int.toNat_natCast, hz1, Nat.mul_one] at hr
  rw [hr]
  have : (madeCells (Value.int .u8 0).cells n) = (zs n).toArray := by
    apply Array.toList_inj.1
    show (madeCells #[Value.int .u8 0] n).toList = _
    rw [toList_madeCells_one]; rfl
  rw [this]

theorem rb_lent {w : World} {g : Nat} {l : List UInt8} {m : Nat} (h : Bk w g 5 (l.map bv).toArray) (hm : l.length = m) (hl : m ≤ 1073741824) : RB w (.slice (some ⟨g, 0, none⟩) m m) l := by
  subst hm
  have := Rd.ofBk (xs := l.map bv) (c := l.length) h (fun i x hx => by simpa using hx) (by simp) (by unfold maxLen; omega)
  rwa [List.length_map] at this
/-- What stands in the room behind a list that is lent. -/
def mk8 (i : Nat) : UInt8 := UInt8.ofNat (160 + i % 90)
def lentL (l : List UInt8) : List UInt8 := l ++ [mk8 l.length, mk8 (l.length + 1), mk8 (l.length + 2)]
theorem length_lentL (l : List UInt8) : (lentL l).length = l.length + 3 := by simp [lentL]
theorem oneu8 : (Try.prog.info? 5).map (·.size) = some 1 := by
  obtain ⟨i0, hi0, hz0, hz1, hz2⟩ := info_parts info_u8
  rw [hi0]; simp [hz1]

/-- The room behind a list that is lent, k of its marks set. -/
def stage (l : List UInt8) (k : Nat) : List Value := l.map bv ++ ([bv (mk8 l.length), bv (mk8 (l.length + 1)), bv (mk8 (l.length + 2))].take k ++ zs (3 - k))
theorem stage_zero (l : List UInt8) : splice (zs (l.length + 3)) 0 (l.map bv) = stage l 0 := by
  simp [splice, stage, zs]
theorem stage_succ (l : List UInt8) (k : Nat) (h : k < 3) : (stage l k).set (l.length + k) (bv (mk8 (l.length + k))) = stage l (k + 1) := by
  unfold stage
  rw [List.set_append_right _ _ (by simp)]
  congr 1
  match k, h with
  | 0, _ => simp [zs, List.replicate]
  | 1, _ => simp [zs, List.replicate]
  | 2, _ => simp [zs]
theorem stage_three (l : List UInt8) : stage l 3 = (lentL l).map bv := by simp [stage, lentL, zs]
theorem stage_length (l : List UInt8) (k : Nat) (h : k ≤ 3) : (stage l k).length = l.length + 3 := by
  unfold stage; simp [zs]; omega

set_option maxRecDepth 100000 in
set_option maxHeartbeats 400000 in
theorem lent_any (v : Value) (l : List UInt8) (w : World) (h : RB w v l) (hl : l.length ≤ 1000000000) :
    Calls Try.prog 26 #[v] w fun e w' => e = .returned (.slice (some ⟨w.heap.size, 0, none⟩) l.length (l.length + 3)) ∧ Bk w' w.heap.size 5 ((lentL l).map bv).toArray ∧ New w w' := by
  obtain ⟨A, c, rfl, hl1, hc1, hx⟩ := h.open
  have hmk := make_bytes (l.length + 3) (by omega)
  have ec : ((l.length + 3 : Nat) : Int) = (l.length : Int) + 3 := by omega
  rw [ec] at hmk
  clear ec
  have cp1 : (l.map bv).length = Nat.min l.length (l.length + 3) := by rw [List.length_map]; exact (Nat.min_eq_left (by omega)).symm
  have cp2 : 0 < (l.map bv).length → (some (⟨w.heap.size, 0, none⟩ : Addr)) = some ⟨w.heap.size, 0, none⟩ ∧ ∃ ad, A = some ad ∧ ∀ j v, (l.map bv)[j]? = some v → (w.alloc (.cells (zs (l.length + 3)).toArray 5)).cell? (ad.add j) = some v := by
    intro h0
    rw [List.length_map] at h0
    obtain ⟨b, o, rfl, hcell⟩ := hx (by omega)
    refine ⟨rfl, _, rfl, fun j v hv => ?_⟩
    have ha : (⟨b, o, none⟩ : Addr).add j = ⟨b, o + j, none⟩ := by unfold Addr.add; split <;> simp_all
    have hj : j < l.length := by have := (List.getElem?_eq_some_iff.1 hv).1; simpa using this
    have hv' : v = bv l[j] := by simp [hj] at hv; exact hv.symm
    rw [ha, hv']
    exact (New.alloc w _).cell (hcell j l[j] (List.getElem?_eq_getElem hj))
  have cp3 : 0 + (l.map bv).length ≤ (zs (l.length + 3)).length := by rw [List.length_map, length_zs]; omega
  go_enter Try.func26, Try.ntmps26
  go_wp2_with (refine wpList_copy_splice rfl _ _ _ _ rfl 5 Try.underlying22 oneu8 _ _ _ _ _ _ rfl rfl w.heap.size 0 (zs (l.length + 3)) 5 (Bk.ofNew w _ _) (l.map bv) cp1 cp2 cp3 (bv_one _) w.heap.size w (New.alloc w _) (Nat.le_refl _) ?_; intro w1 hB1 hn1)
  have hB : Bk w1 w.heap.size 5 (stage l 0).toArray := by rw [← stage_zero]; exact hB1.out
  clear hmk cp1 cp2 cp3 hB1
  go_loopw [4] (fun u4 wr => ∃ k : Nat, k ≤ 3 ∧ u4 = .int .i64 (l.length + k : Nat) ∧ Bk wr w.heap.size 5 (stage l k).toArray ∧ New w wr) (fun u4 _ => l.length + 3 - (intOf u4).toNat)
  case atStart => exact ⟨0, by omega, by go_num, hB, hn1⟩
  case round =>
    clear hB hn1
    obtain ⟨k, hk, rfl, hB, hn⟩ := hrel
    by_cases hlt : k < 3
    · have hfr := hB.frozen (l.length + k)
      obtain ⟨v0, hv0⟩ : ∃ v0, wr.cell? ⟨w.heap.size, l.length + k, none⟩ = some v0 := ⟨_, hB.cellAt (i := l.length + k) (by rw [List.getElem?_toArray]; exact List.getElem?_eq_getElem (by rw [stage_length _ _ hk]; omega))⟩
      have hkl : (l.length : Int) + (k : Int) < (l.length : Int) + 3 := by omega
      go_wp2
      have hm : Value.int .u8 (160 + ((l.length : Int) + (k : Int)) % 90) = bv (mk8 (l.length + k)) := by
        show _ = Value.int .u8 (((mk8 (l.length + k)).toNat : Nat) : Int)
        congr 1
        unfold mk8
        rw [UInt8.toNat_ofNat_of_lt' (by show _ < 256; omega)]
        omega
      rw [hm]
      refine ⟨⟨k + 1, by omega, by go_num, ?_, Below.setCell hn (by show w.heap.size ≤ w.heap.size; omega) _⟩, by simp [intOf]; omega⟩
      have := hB.set_ (l.length + k) (bv (mk8 (l.length + k)))
      rwa [List.setIfInBounds_toArray, stage_succ l k hlt] at this
    · have hk3 : k = 3 := by omega
      subst hk3
      rw [stage_three] at hB
      go_wp2
      go_ret
      exact ⟨rfl, hB, hn⟩

set_option maxRecDepth 100000 in
set_option maxHeartbeats 400000 in
theorem copy_any (v : Value) (l : List UInt8) (w : World) (h : RB w v l) (hl : l.length ≤ 1000000000) :
    Calls Try.prog 49 #[v] w fun e w' => ∃ v', e = .returned v' ∧ OwnB w' w.heap.size v' l ∧ New w w' := by
  obtain ⟨i0, hi0, hz0, hz1, hz2⟩ := info_parts info_u8
  obtain ⟨A, c, rfl, hl1, hc1⟩ := h.shape
  have hc2 : ([] : List Value).length + (l.map bv).length ≤ maxLen := by unfold maxLen; rw [List.length_map, List.length_nil]; omega
  have hc3 : (([] : List Value).length + (l.map bv).length) * 1 ≤ 140737488355328 := by rw [List.length_map, List.length_nil]; omega
  have hown : OwnP isB (w.alloc (.cells #[] 5)) w.heap.size 5 (.slice (some ⟨w.heap.size, 0, none⟩) 0 0) [] := OwnP.made (Nat.le_refl _) rfl rfl (Nat.le_refl _) (by simp [maxLen]) (by simp) (by simp)
  have hr := h.new_ (New.alloc w (.cells #[] 5))
  have hsz : w.heap.size ≤ (w.alloc (.cells #[] 5)).heap.size := by simp
  go_enter Try.func49, Try.ntmps49
  go_wp2_with (at_builtin; refine wpList_append_rd _ rfl _ _ _ rfl w.heap.size 5 i0 _ 1 Try.underlying22 hi0 hz0 hz1 hz2 rfl isB_zero _ _ rfl hown _ (l.map bv) rfl hr (bv_one _) (isB_map _) hc2 hc3 hsz ?_; intro v' w' hown' hg' _)
  go_ret
  rw [List.nil_append] at hown'
  exact ⟨_, rfl, hown', grown_below (New.alloc w _) hown hg' hsz⟩

theorem ret_int {k : IntKind} {a b : Int} (h : a = b) : Ending.returned (.int k a) = .returned (.int k b) := by rw [h]
/-- satchelkit.Pick. -/
def pick (x n : Int) : Int := if n < 1 then 0 else x % n
set_option maxRecDepth 100000 in
set_option maxHeartbeats 400000 in
theorem pick_any (x n : Int) (w : World) (hn1 : n ≤ 9223372036854775807) :
    Calls Try.prog 37 #[.int .i64 x, .int .i64 n] w fun e w' => e = .returned (.int .i64 (pick x n)) ∧ w = w' := by
  by_cases h1 : n < 1
  · go_enter Try.func37, Try.ntmps37
    go_wp2
    go_ret
    exact ⟨by rw [pick, if_pos h1]; rfl, rfl⟩
  · go_enter Try.func37, Try.ntmps37
    go_wp2
    · rename_i ht
      have hb : x.tmod n = x % n - (if 0 ≤ x ∨ n ∣ x then 0 else n.natAbs) := Int.tmod_eq_emod
      have := Int.emod_nonneg x (show n ≠ 0 by omega)
      have := Int.emod_lt_of_pos x (show 0 < n by omega)
      have ht' : x.tmod n = x % n - n := by
        rw [hb]
        split at hb
        · omega
        · rename_i hs; rw [if_neg hs]; omega
      go_ret
      exact ⟨ret_int (by rw [pick, if_neg (by omega), show wrap64 (x.tmod n + n) = x.tmod n + n from IntWalk.wrap64_in _ ⟨by omega, by omega⟩]; omega), rfl⟩
    · rename_i ht
      have hb : x.tmod n = x % n - (if 0 ≤ x ∨ n ∣ x then 0 else n.natAbs) := Int.tmod_eq_emod
      have := Int.emod_nonneg x (show n ≠ 0 by omega)
      have := Int.emod_lt_of_pos x (show 0 < n by omega)
      have ht' : x.tmod n = x % n := by
        rw [hb]
        split at hb
        · rename_i hs; rw [if_pos hs]; omega
        · omega
      go_ret
      exact ⟨ret_int (by rw [pick, if_neg (by omega)]; exact ht'), rfl⟩
theorem pick_range (x n : Int) (h : 0 < n) : 0 ≤ pick x n ∧ pick x n < n := by
  unfold pick; rw [if_neg (by omega)]
  exact ⟨Int.emod_nonneg x (by omega), Int.emod_lt_of_pos x h⟩
end Go.Proofs.Ytkfcdfcoiglieaa
