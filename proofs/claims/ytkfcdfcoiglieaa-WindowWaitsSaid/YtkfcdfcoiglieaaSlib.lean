/- slices.Grow of nil, slices.Concat, slices.Equal, slices.Clone at bytes: what they return; nothing that was there turns. Conditions: the slices read as bytes; their lengths fit. -/
import Derived.Test.YtkfcdfcoiglieaaRows
import Derived.Test.YtkfcdfcoiglieaaAppend
import Derived.Deep.QuietTactic
import Derived.BigQuiet
import Derived.Lib.SliceRun
namespace Go.Proofs.Ytkfcdfcoiglieaa
open Go.RowKit

theorem sizeOf_u8 (w : World) : (sizeOf 5).run Try.prog w = .ok 1 w := by kernel_rfl
@[go_sem high] theorem run_cut_lh (w : World) (A : Option Addr) (n c : Nat) (kl kh : IntKind) (l h : Int) (h0 : 0 ≤ l) (h1 : l ≤ h) (h2 : h ≤ c) :
    (Instr.slice 22 (.slice A n c) (some (.int kl l)) (some (.int kh h)) none).run Try.prog w = .ok (.slice (cutA A l.toNat c) (h.toNat - l.toNat) (c - l.toNat)) w := by
  have he : Try.prog.elem 22 = 5 := by kernel_rfl
  rw [run_slice_lh w 22 A n c (by rw [he]; exact Try.underlying22) kl kh l h h0 h1 h2, he, sizeOf_u8]
  simp [Result.andThen, sliced, cutA]
@[go_sem high] theorem run_cut_l (w : World) (A : Option Addr) (n c : Nat) (kl : IntKind) (l : Int) (h0 : 0 ≤ l) (h1 : l ≤ n) :
    (Instr.slice 22 (.slice A n c) (some (.int kl l)) none none).run Try.prog w = .ok (.slice (cutA A l.toNat c) (n - l.toNat) (c - l.toNat)) w := by
  have he : Try.prog.elem 22 = 5 := by kernel_rfl
  rw [run_slice_l w 22 A n c (by rw [he]; exact Try.underlying22) kl l h0 h1, he, sizeOf_u8]
  simp [Result.andThen, sliced, cutA]
/-- A slice of bytes of the call's own. -/
def OwnB (w : World) (base : Nat) (v : Value) (l : List UInt8) : Prop := OwnP isB w base 5 v (l.map bv)
theorem OwnB.rb {w : World} {base : Nat} {v : Value} {l : List UInt8} (h : OwnB w base v l) : RB w v l := OwnP.rd h
theorem OwnB.nil (w : World) (base : Nat) : OwnB w base (.slice none 0 0) [] := OwnP.nil _ _ _ _
theorem OwnB.new_ {w w' : World} {base : Nat} {v : Value} {l : List UInt8} (h : OwnB w base v l) (hn : New w w') : OwnB w' base v l := OwnP.new_ h hn
theorem OwnB.mono {w : World} {base base' : Nat} {v : Value} {l : List UInt8} (h : OwnB w base v l) (hb : base' ≤ base) : OwnB w base' v l := OwnP.mono h hb
theorem info_u8 : (Try.prog.info? 5).map (fun i => (i.zero, i.size, i.bytes)) = some (some (.int .u8 0), 1, 1) := by kernel_rfl

set_option maxRecDepth 100000 in
set_option maxHeartbeats 400000 in
theorem grow_nil (n : Nat) (w : World) (hn : n ≤ 1073741824) :
    Calls Try.prog 102 #[.slice none 0 0, .int .i64 n] w fun e w' => ∃ v, e = .returned v ∧ OwnB w' w.heap.size v [] ∧ New w w' := by
  obtain ⟨i0, hi0, hz0, hz1, hz2⟩ := info_parts info_u8
  by_cases h0 : n = 0
  · subst h0
    go_enter Try.func102, Try.ntmps102
    go_wp2_with fail
    go_ret
    exact ⟨_, rfl, OwnB.nil _ _, New.refl _⟩
  · have hpos : 0 < n := by omega
    have hr := Lib.run_append_nil_zeros (P := Try.prog) w 22 3 22 5 i0 (.int .u8 0) .i64 .i64 Try.underlying22 Try.underlying3 hi0 hz0 n hpos (by omega) (by omega) (by rw [hz2]; omega)
    have Hr := Lib.hid hr; clear hr
    clear h0
    go_enter Try.func102, Try.ntmps102
    go_wp2_with (at_builtin; refine Lib.wpList_append_run _ rfl _ _ _ _ rfl _ _ rfl rfl _ _ Hr.out ?_)
    go_ret
    have hge := grownCap_ge w n 0 5
    have hown : OwnP isB (w.alloc (.cells (Builtin.zeroCells #[Value.int .u8 0] n ++ Builtin.zeroCells #[Value.int .u8 0] (grownCap w n 0 5 - n)) 5)) w.heap.size 5 (.slice (some ⟨w.heap.size, 0, none⟩) 0 (grownCap w n 0 5)) [] := by
      refine OwnP.made (Nat.le_refl _) rfl rfl (Nat.zero_le _) (grownCap_le_maxLen w n 0 _ (by unfold maxLen; omega)) (by simp [size_zeroCells]; omega) (fun x hx => ?_)
      rw [Array.toList_append, zeroCells_list, zeroCells_list, List.replicate_append_replicate] at hx
      rw [(List.mem_replicate.1 hx).2]; exact isB_zero
    exact ⟨_, rfl, OwnP.new_ hown (New.drew _), (New.alloc _ _).trans (New.drew _)⟩

def totalLen : List (List UInt8) → Nat
  | [] => 0
  | l :: r => l.length + totalLen r
theorem totalLen_take_succ (ls : List (List UInt8)) (i : Nat) (h : i < ls.length) : totalLen (ls.take (i + 1)) = totalLen (ls.take i) + ls[i].length := by
  induction ls generalizing i with
  | nil => simp at h
  | cons l r ih =>
    cases i with
    | zero => simp [totalLen]
    | succ i => simp [totalLen]; rw [ih i (by simpa using h)]; omega
theorem totalLen_take_le (ls : List (List UInt8)) (i : Nat) : totalLen (ls.take i) ≤ totalLen ls := by
  induction ls generalizing i with
  | nil => simp
  | cons l r ih =>
    cases i with
    | zero => simp [totalLen]
    | succ i => simp [totalLen]; have := ih i; omega
theorem totalLen_flatten (ls : List (List UInt8)) : totalLen ls = ls.flatten.length := by
  induction ls with
  | nil => rfl
  | cons l r ih => simp [totalLen, ih]

/-- The first i lists, one behind the other, as cells. -/
def catV (ls : List (List UInt8)) (i : Nat) : List Value := (ls.take i).flatten.map bv
theorem catV_succ (ls : List (List UInt8)) (i : Nat) (h : i < ls.length) : catV ls i ++ ls[i].map bv = catV ls (i + 1) := by
  unfold catV; rw [List.take_succ_eq_append_getElem h, List.flatten_append, List.map_append]; simp only [List.flatten_cons, List.flatten_nil, List.append_nil]
theorem catV_length (ls : List (List UInt8)) (i : Nat) : (catV ls i).length = totalLen (ls.take i) := by unfold catV; rw [List.length_map, totalLen_flatten]
theorem catV_all (ls : List (List UInt8)) : catV ls ls.length = ls.flatten.map bv := by unfold catV; rw [List.take_length]

set_option maxRecDepth 100000 in
set_option maxHeartbeats 400000 in
theorem concat_any (v : Value) (ls : List (List UInt8)) (w : World) (h : RBs w v ls) (ht : totalLen ls ≤ 1073741824) :
    Calls Try.prog 77 #[v] w fun e w' => ∃ v', e = .returned v' ∧ OwnB w' w.heap.size v' ls.flatten ∧ New w w' := by
  obtain ⟨i0, hi0, hz0, hz1, hz2⟩ := info_parts info_u8
  obtain ⟨A, c, rfl, hl, hc, hx⟩ := h
  unfold maxLen at hc
  go_enter Try.func77, Try.ntmps77
  go_wp2_with fail
  go_loop [3, 11] (fun u3 u11 => ∃ i : Nat, i ≤ ls.length ∧ u11 = .int .i64 i ∧ u3 = .int .i64 (totalLen (ls.take i) : Nat)) (fun _ u11 => ls.length - (intOf u11).toNat)
  case atStart => exact ⟨0, by omega, rfl, by simp [totalLen]⟩
  case round =>
    obtain ⟨i, hi, rfl, rfl⟩ := hrel
    have htl := totalLen_take_le ls i
    by_cases hlt : i < ls.length
    · obtain ⟨b, o, rfl, hxs⟩ := hx (by omega)
      obtain ⟨x, hcell, hr⟩ := hxs i ls[i] (List.getElem?_eq_getElem hlt)
      obtain ⟨A', c', rfl, h1, h2, h3⟩ := hr.open
      have hts := totalLen_take_succ ls i hlt
      have htl' := totalLen_take_le ls (i + 1)
      have hsum : totalLen (ls.take i) + ls[i].length ≤ 1073741824 := by omega
      clear hxs hx h3 hr
      have Hts := Lib.hid hts; clear hts
      go_wp2_with fail
      exact ⟨⟨i + 1, by omega, by go_num, by rw [Hts.out]; go_num⟩, by simp [intOf]; omega⟩
    · have hi' : i = ls.length := by omega
      subst hi'
      rw [List.take_length]
      go_wp2_with (go_at_call 102; refine (grow_nil _ _ ht).mono ?_; rintro e w1 ⟨v1, rfl, hown1, hn1⟩)
      go_loopw [6, 27] (fun u6 u27 wr => ∃ i : Nat, i ≤ ls.length ∧ u27 = .int .i64 i ∧ OwnP isB wr w.heap.size 5 u6 (catV ls i) ∧ New w wr) (fun _ u27 _ => ls.length - (intOf u27).toNat)
      case atStart => exact ⟨0, by omega, rfl, hown1, hn1⟩
      case round =>
        clear hown1 hn1
        obtain ⟨i, hi, rfl, hown, hn⟩ := hrel
        by_cases hlt : i < ls.length
        · obtain ⟨b, o, rfl, hxs⟩ := hx (by omega)
          obtain ⟨x, hcell0, hr0⟩ := hxs i ls[i] (List.getElem?_eq_getElem hlt)
          have hcell := hn.cell hcell0
          have hr := hr0.new_ hn
          have htl' := totalLen_take_le ls (i + 1)
          have Hts := Lib.hid (totalLen_take_succ ls i hlt)
          have hsum : totalLen (ls.take i) + ls[i].length ≤ 1073741824 := by rw [← Hts.out]; omega
          have hsz := hn.size
          have hc1 : (catV ls i).length + (ls[i].map bv).length ≤ maxLen := by unfold maxLen; rw [List.length_map, catV_length]; omega
          have hc2 : ((catV ls i).length + (ls[i].map bv).length) * 1 ≤ 140737488355328 := by rw [List.length_map, catV_length]; omega
          clear hxs hx hcell0 hr0
          go_wp2_with (at_builtin; refine wpList_append_rd _ rfl _ _ _ rfl w.heap.size 5 i0 _ 1 Try.underlying22 hi0 hz0 hz1 hz2 rfl isB_zero _ _ rfl hown _ (ls[i].map bv) rfl hr (bv_one _) (isB_map _) hc1 hc2 hsz ?_; intro v' w' hown' hg' _)
          refine ⟨⟨i + 1, by omega, by go_num, ?_, ?_⟩, by simp [intOf]; omega⟩
          · rw [← catV_succ ls i hlt]; exact hown'
          · exact grown_below hn hown hg' hsz
        · have hi' : i = ls.length := by omega
          subst hi'
          rw [catV_all] at hown
          go_wp2
          go_ret
          exact ⟨_, rfl, hown, hn⟩

theorem drewN_new (w : World) (n : Nat) : New w (w.drewN n) := ⟨rfl, rfl, rfl, Nat.le_refl _, fun _ _ => rfl⟩
theorem take_eq_succ {l m : List UInt8} {i : Nat} (h1 : i < l.length) (h2 : i < m.length) (h : l.take i = m.take i) (he : l[i] = m[i]) : l.take (i + 1) = m.take (i + 1) := by
  rw [List.take_succ_eq_append_getElem h1, List.take_succ_eq_append_getElem h2, h, he]
theorem ne_of_get {l m : List UInt8} {i : Nat} (h1 : i < l.length) (h2 : i < m.length) (he : l[i] ≠ m[i]) : l ≠ m := fun h => by subst h; exact he rfl

set_option maxRecDepth 100000 in
set_option maxHeartbeats 400000 in
theorem equal_any (v1 v2 : Value) (l1 l2 : List UInt8) (w : World) (h1 : RB w v1 l1) (h2 : RB w v2 l2) :
    Calls Try.prog 79 #[v1, v2] w fun e w' => e = .returned (.bool (decide (l1 = l2))) ∧ New w w' := by
  obtain ⟨A1, c1, rfl, hl1, hc1, hx1⟩ := h1.open
  obtain ⟨A2, c2, rfl, hl2, hc2, hx2⟩ := h2.open
  unfold maxLen at hc1 hc2
  by_cases hne : l1.length = l2.length
  · have hb : ((l1.length : Int) != (l2.length : Int)) = false := by simp [hne]
    have Hne := Lib.hid hne
    have hle : l1.length ≤ l2.length := by omega
    clear hne h1 h2
    go_enter Try.func79, Try.ntmps79
    go_wp2_with fail
    go_loopw [13] (fun u13 wr => ∃ i : Nat, i ≤ l1.length ∧ u13 = .int .i64 i ∧ l1.take i = l2.take i ∧ New w wr) (fun u13 _ => l1.length - (intOf u13).toNat)
    case atStart => exact ⟨0, by omega, rfl, rfl, New.refl _⟩
    case round =>
      obtain ⟨i, hi, rfl, heq, hn⟩ := hrel
      have Heq := Lib.hid heq; clear heq
      by_cases hlt : i < l1.length
      · obtain ⟨b1, o1, rfl, hxs1⟩ := hx1 (by omega)
        obtain ⟨b2, o2, rfl, hxs2⟩ := hx2 (by omega)
        have hlt2 : i < l2.length := by omega
        have hcell1 := hn.cell (hxs1 i l1[i] (List.getElem?_eq_getElem hlt))
        have hcell2 := hn.cell (hxs2 i l2[i] (List.getElem?_eq_getElem hlt2))
        have hi1 : (i : Int) < (l1.length : Int) := by omega
        have hi2 : (i : Int) < (l2.length : Int) := by omega
        have hi0 : (0 : Int) ≤ (i : Int) := by omega
        clear hxs1 hxs2 hx1 hx2
        go_wp2_with fail
        go_quiet (fail)

        by_cases he : l1[i] = l2[i]
        · have hbe : ((l1[i].toNat : Int) != (l2[i].toNat : Int)) = false := by rw [he]; simp
          go_wp2
          exact ⟨⟨i + 1, by omega, by go_num, take_eq_succ hlt hlt2 Heq.out he, hn.trans (drewN_new _ _)⟩, by simp [intOf]; omega⟩
        · have hbe : ((l1[i].toNat : Int) != (l2[i].toNat : Int)) = true := by
            rw [bne_iff_ne]; intro h; exact he (UInt8.toNat_inj.1 (by omega))
          have hd := Lib.hid (decide_eq_false (ne_of_get hlt hlt2 he))
          clear he
          go_wp2
          go_ret
          exact ⟨by rw [hd.out]; rfl, hn.trans (drewN_new _ _)⟩
      · have hi' : i = l1.length := by omega
        subst hi'
        have hd := Lib.hid (decide_eq_true (show l1 = l2 by have := Heq.out; rw [List.take_length, Hne.out, List.take_length] at this; exact this))
        clear Heq
        go_wp2
        go_ret
        exact ⟨by rw [hd.out]; rfl, hn⟩
  · have hb : ((l1.length : Int) != (l2.length : Int)) = true := by rw [bne_iff_ne]; omega
    have hd := Lib.hid (decide_eq_false (show ¬ l1 = l2 from fun h => hne (by rw [h])))
    clear hne h1 h2
    go_enter Try.func79, Try.ntmps79
    go_wp2_with fail
    go_ret
    exact ⟨by rw [hd.out]; rfl, New.refl _⟩

set_option maxRecDepth 100000 in
set_option maxHeartbeats 400000 in
theorem clone_any (v : Value) (l : List UInt8) (w : World) (h : RB w v l) (hl : l.length ≤ 1073741824) :
    Calls Try.prog 80 #[v] w fun e w' => ∃ v', e = .returned v' ∧ OwnB w' w.heap.size v' l ∧ New w w' := by
  obtain ⟨i0, hi0, hz0, hz1, hz2⟩ := info_parts info_u8
  obtain ⟨A, c, rfl, hl1, hc1, hx1⟩ := h.open
  rcases A with _ | a
  · have hc0 : c = 0 := by
      rcases Nat.eq_zero_or_pos c with h | h
      · exact h
      · obtain ⟨_, _, h, _⟩ := hx1 h; cases h
    have hl0 : l = [] := List.eq_nil_of_length_eq_zero (by omega)
    subst hl0; subst hc0
    have he := fun w a n c => Lib.run_eql_slice_nil (P := Try.prog) w 22 5 a n c 0 0 Try.underlying22
    go_enter Try.func80, Try.ntmps80
    go_wp2_with fail
    go_ret
    exact ⟨_, rfl, OwnB.nil _ _, New.refl _⟩
  · have he := fun w a n c => Lib.run_eql_slice_nil (P := Try.prog) w 22 5 a n c 0 0 Try.underlying22
    go_enter Try.func80, Try.ntmps80
    have hc2 : ([] : List Value).length + (l.map bv).length ≤ maxLen := by unfold maxLen; rw [List.length_map, List.length_nil]; omega
    have hc3 : (([] : List Value).length + (l.map bv).length) * 1 ≤ 140737488355328 := by rw [List.length_map, List.length_nil]; omega
    have hown : OwnP isB (w.alloc (.cells #[] 5)) w.heap.size 5 (.slice (some ⟨w.heap.size, 0, none⟩) 0 0) [] := OwnP.made (Nat.le_refl _) rfl rfl (Nat.le_refl _) (by simp [maxLen]) (by simp) (by simp)
    have hr := h.new_ (New.alloc w (.cells #[] 5))
    have hsz : w.heap.size ≤ (w.alloc (.cells #[] 5)).heap.size := by simp
    go_wp2_with (at_builtin; refine wpList_append_rd _ rfl _ _ _ rfl w.heap.size 5 i0 _ 1 Try.underlying22 hi0 hz0 hz1 hz2 rfl isB_zero _ _ rfl hown _ (l.map bv) rfl hr (bv_one _) (isB_map _) hc2 hc3 hsz ?_; intro v' w' hown' hg' _)
    go_ret
    rw [List.nil_append] at hown'
    exact ⟨_, rfl, hown', grown_below (New.alloc w _) hown hg' hsz⟩
end Go.Proofs.Ytkfcdfcoiglieaa
