/- The chapter's own answers for guard (satchelref04): Sum, Put, Check return what guard.Sum, Put, Check return. Conditions: the slice reads as bytes; its length fits. -/
import Derived.Test.YtkfcdfcoiglieaaGuard
import Derived.Test.YtkfcdfcoiglieaaKit2
namespace Go.Proofs.Ytkfcdfcoiglieaa
open Go.RowKit

theorem unlike_eq (m : Crc.W) (c : UInt8) (k : Nat) (hk : k < 8) : (((m.toNat : Int) % 2) != ((c.toNat : Int) / 2 ^ k % 2)) = (m.getLsbD 0 ^^ (Crc.cast8 c).getLsbD k) := by
  have h1 : m.getLsbD 0 = decide (m.toNat % 2 = 1) := by simp [BitVec.getLsbD, Nat.testBit_zero]
  have h2 : (Crc.cast8 c).getLsbD k = decide (c.toNat / 2 ^ k % 2 = 1) := by
    rw [Crc.cast8, BitVec.getLsbD_setWidth]
    have : decide (k < 32) = true := by simp; omega
    rw [this, Bool.true_and]
    simp only [BitVec.getLsbD, UInt8.toNat_toBitVec, Nat.testBit_eq_decide_div_mod_eq]
  have h3 : (c.toNat : Int) / 2 ^ k % 2 = ((c.toNat / 2 ^ k % 2 : Nat) : Int) := by simp
  rw [h1, h2, h3]
  have a1 := Nat.mod_two_eq_zero_or_one m.toNat
  have a2 := Nat.mod_two_eq_zero_or_one (c.toNat / 2 ^ k)
  rcases a1 with a1 | a1 <;> rcases a2 with a2 | a2 <;> rw [a2] <;> simp [a1] <;> omega
theorem step_bitw (m : Crc.W) (b : Bool) : Crc.step (m ^^^ Crc.bitw b) = if (m.getLsbD 0 ^^ b) = true then (m >>> 1) ^^^ Crc.poly else m >>> 1 := by
  have hb : (m ^^^ Crc.bitw b) >>> 1 = m >>> 1 := by
    rw [BitVec.ushiftRight_xor_distrib]
    have : Crc.bitw b >>> 1 = 0#32 := by cases b <;> decide
    rw [this, BitVec.xor_zero]
  have h0 : (m ^^^ Crc.bitw b).getLsbD 0 = (m.getLsbD 0 ^^ b) := by
    rw [BitVec.getLsbD_xor]; cases b <;> rfl
  unfold Crc.step
  rw [hb, h0]
theorem feed_lows_succ (n : Crc.W) (c : UInt8) (k : Nat) : Crc.feed n (Crc.lows (Crc.cast8 c) (k + 1)) = Crc.step (Crc.feed n (Crc.lows (Crc.cast8 c) k) ^^^ Crc.bitw ((Crc.cast8 c).getLsbD k)) := by
  simp only [Crc.lows, Crc.feed_append, Crc.feed]

set_option maxRecDepth 100000 in
set_option maxHeartbeats 400000 in
theorem rsum_any (v : Value) (l : List UInt8) (w : World) (h : RB w v l) :
    Calls Try.prog 29 #[v] w fun e w' => e = .returned (uv (Crc.sumOf l)) ∧ w = w' := by
  obtain ⟨A, c, rfl, hl, hc, hx⟩ := h.open
  unfold maxLen at hc
  go_enter Try.func29, Try.ntmps29
  go_wp2_with fail
  go_loop [3, 4] (fun u3 u4 => ∃ i : Nat, i ≤ l.length ∧ u4 = .int .i64 i ∧ u3 = uv (Crc.run (~~~ 0#32) (l.take i))) (fun _ u4 => l.length - (intOf u4).toNat)
  case atStart => exact ⟨0, by omega, rfl, rfl⟩
  case round =>
    obtain ⟨i, hi, rfl, rfl⟩ := hrel
    generalize hn : Crc.run (~~~ 0#32) (l.take i) = n
    have Hn := Lib.hid hn; clear hn
    by_cases hlt : i < l.length
    · obtain ⟨b, o, rfl, hxs⟩ := hx (by omega)
      have hcell := hxs i l[i] (List.getElem?_eq_getElem hlt)
      clear hxs hx
      go_wp2_with fail
      go_loop [3, 5] (fun u3 u5 => ∃ k : Nat, k ≤ 8 ∧ u5 = .int .i64 k ∧ u3 = uv (Crc.feed n (Crc.lows (Crc.cast8 l[i]) k))) (fun _ u5 => 8 - (intOf u5).toNat)
      case atStart => exact ⟨0, by omega, rfl, rfl⟩
      case round =>
        obtain ⟨k, hk, rfl, rfl⟩ := hrel
        generalize hm : Crc.feed n (Crc.lows (Crc.cast8 l[i]) k) = m
        have Hm := Lib.hid hm; clear hm
        by_cases hk8 : k < 8
        · go_wp2
          · rename_i ht
            rw [unlike_eq m l[i] k hk8] at ht
            exact ⟨⟨k + 1, by omega, by go_num, by rw [feed_lows_succ, Hm.out, step_bitw, if_pos ht, xor_poly]⟩, by simp [intOf]; omega⟩
          · rename_i ht
            rw [unlike_eq m l[i] k hk8] at ht
            exact ⟨⟨k + 1, by omega, by go_num, by rw [feed_lows_succ, Hm.out, step_bitw, if_neg (by rw [ht]; decide), half_u32]⟩, by simp [intOf]; omega⟩
        · have hk' : k = 8 := by omega
          subst hk'
          go_wp2
          refine ⟨⟨i + 1, by omega, by go_num, ?_⟩, by simp [intOf]; omega⟩
          rw [run_snoc _ _ _ hlt, Hn.out, Crc.byteStep_feed, ← Hm.out]; rfl
    · have hi' : i = l.length := by omega
      subst hi'
      go_wp2
      go_ret
      refine ⟨congrArg _ ((uv_not _).trans ?_), rfl⟩
      rw [← Hn.out, List.take_length]; rfl

set_option maxRecDepth 100000 in
set_option maxHeartbeats 400000 in
theorem rput_any (v : Value) (l : List UInt8) (w : World) (h : RB w v l) (hl : l.length ≤ 1000000000) :
    Calls Try.prog 32 #[v] w fun e w' => ∃ v', e = .returned v' ∧ OwnB w' w.heap.size v' (putL l) ∧ New w w' := by
  obtain ⟨i0, hi0, hz0, hz1, hz2⟩ := info_parts info_u8
  obtain ⟨A, c, rfl, hl1, hc1⟩ := h.shape
  have hs := rsum_any (.slice A l.length c) l
  have Hs := Lib.hid hs; clear hs
  generalize hcs : Crc.sumOf l = n at Hs
  have Hcs := Lib.hid hcs; clear hcs
  have hc2 : ([] : List Value).length + (l.map bv).length ≤ maxLen := by unfold maxLen; rw [List.length_map, List.length_nil]; omega
  have hc3 : (([] : List Value).length + (l.map bv).length) * 1 ≤ 140737488355328 := by rw [List.length_map, List.length_nil]; omega
  have hc4 : ([] ++ l.map bv).length + ((le4 n).map bv).length ≤ maxLen := by unfold maxLen; rw [List.nil_append, List.length_map, List.length_map, show (le4 n).length = 4 from rfl]; omega
  have hc5 : (([] ++ l.map bv).length + ((le4 n).map bv).length) * 1 ≤ 140737488355328 := by rw [List.nil_append, List.length_map, List.length_map, show (le4 n).length = 4 from rfl]; omega
  have hown : OwnP isB (w.alloc (.cells #[] 5)) w.heap.size 5 (.slice (some ⟨w.heap.size, 0, none⟩) 0 0) [] := OwnP.made (Nat.le_refl _) rfl rfl (Nat.le_refl _) (by simp [maxLen]) (by simp) (by simp)
  have hr := h.new_ (New.alloc w (.cells #[] 5))
  have hsz : w.heap.size ≤ (w.alloc (.cells #[] 5)).heap.size := by simp
  have hnn := n.isLt
  go_enter Try.func32, Try.ntmps32
  go_wp2_with (first
    | (go_at_call 29; refine (Hs.out _ h).mono ?_; rintro e w1 ⟨rfl, rfl⟩)
    | (at_builtin; refine wpList_append_rd _ rfl (.tmp 6) (.tmp 7) _ rfl w.heap.size 5 i0 _ 1 Try.underlying22 hi0 hz0 hz1 hz2 rfl isB_zero _ _ rfl hown _ (l.map bv) rfl hr (bv_one _) (isB_map _) hc2 hc3 hsz ?_; intro v1 w1 hown1 hg1 _; have hn1 : New w w1 := grown_below (New.alloc w _) hown hg1 hsz)
    | (at_builtin; refine wpList_append_rd _ rfl (.tmp 8) (.tmp 20) _ rfl w.heap.size 5 i0 _ 1 Try.underlying22 hi0 hz0 hz1 hz2 rfl isB_zero v1 ([] ++ l.map bv) rfl (hown1.new_ (New.alloc w1 _)) _ ((le4 n).map bv) rfl (rd_le4 w1 n) (bv_one _) (isB_map _) hc4 hc5 (Nat.le_trans hn1.size (New.alloc w1 _).size) ?_; intro v2 w2 hown2 hg2 _))
  go_ret
  refine ⟨_, rfl, ?_, grown_below (hn1.trans (New.alloc w1 _)) (hown1.new_ (New.alloc w1 _)) hg2 (Nat.le_trans hn1.size (New.alloc w1 _).size)⟩
  unfold OwnB putL
  rw [Hcs.out, List.map_append]
  exact hown2

set_option maxRecDepth 100000 in
set_option maxHeartbeats 400000 in
theorem rcheck_any (v : Value) (l : List UInt8) (w : World) (h : RB w v l) (hl : l.length ≤ 1000000000) :
    Calls Try.prog 36 #[v] w (CheckPost w l) := by
  obtain ⟨i0, hi0, hz0, hz1, hz2⟩ := info_parts info_u8
  obtain ⟨A, c, rfl, hl1, hc1⟩ := h.shape
  by_cases h4 : 4 ≤ l.length
  · have hd : checkL l = if putL (l.take (l.length - 4)) = l then some (l.take (l.length - 4)) else none := by unfold checkL; simp [h4]
    have Hd := Lib.hid hd
    have hrk := h.take (l.length - 4) (by omega)
    generalize hk : l.take (l.length - 4) = k at Hd hrk
    have Hk := Lib.hid hk
    have hlk : k.length = l.length - 4 := by rw [← hk]; simp
    have hkl : k.length ≤ 1000000000 := by omega
    have Hlk := Lib.hid hlk
    clear hd hk
    have hc2 : ([] : List Value).length + (k.map bv).length ≤ maxLen := by unfold maxLen; rw [List.length_map, List.length_nil]; omega
    have hc3 : (([] : List Value).length + (k.map bv).length) * 1 ≤ 140737488355328 := by rw [List.length_map, List.length_nil]; omega
    have hown : OwnP isB (w.alloc (.cells #[] 5)) w.heap.size 5 (.slice (some ⟨w.heap.size, 0, none⟩) 0 0) [] := OwnP.made (Nat.le_refl _) rfl rfl (Nat.le_refl _) (by simp [maxLen]) (by simp) (by simp)
    have hr := hrk.new_ (New.alloc w (.cells #[] 5))
    have hsz : w.heap.size ≤ (w.alloc (.cells #[] 5)).heap.size := by simp
    have hgt : ¬ (l.length : Int) < 4 := by omega
    clear hlk
    go_enter Try.func36, Try.ntmps36
    go_wp2_with (at_builtin; refine wpList_append_rd _ rfl _ _ _ rfl w.heap.size 5 i0 _ 1 Try.underlying22 hi0 hz0 hz1 hz2 rfl isB_zero _ _ rfl hown _ (k.map bv) rfl hr (bv_one _) (isB_map _) hc2 hc3 hsz ?_; intro v1 w1 hown1 hg1 _)
    have hn1 : New w w1 := grown_below (New.alloc w _) hown hg1 hsz
    have hr1 : RB w1 v1 k := OwnP.rd hown1
    have hstr : (convert 22 9 (.slice A l.length c)).run Try.prog w1.drew = .ok (.string (strOf l)) w1.drew := run_str (h.new_ (hn1.trans (New.drew _)))
    by_cases heq : putL k = l
    · have hdec : decide (putL k = l) = true := decide_eq_true heq
      have Heq := Lib.hid heq; clear heq
      go_region_with (go_at_call 32; refine (rput_any _ k _ (by exact hr1.new_ (New.drew w1)) hkl).mono ?_; rintro e w2 ⟨v2, rfl, hown2, hn2⟩; have hs2 := run_str hown2.rb; have hs3 := run_str (h.new_ ((hn1.trans (New.drew _)).trans hn2)))
      all_goals
        go_wp2
        go_ret2
        exact checkPost_some (by rw [Hd.out, if_pos Heq.out]) (OwnP.new_ (OwnP.new_ hown1 (New.drew _)) hn2) ((hn1.trans (New.drew _)).trans hn2)
    · have hdec : decide (putL k = l) = false := decide_eq_false heq
      have Heq := Lib.hid heq; clear heq
      go_region_with (go_at_call 32; refine (rput_any _ k _ (by exact hr1.new_ (New.drew w1)) hkl).mono ?_; rintro e w2 ⟨v2, rfl, hown2, hn2⟩; have hs2 := run_str hown2.rb; have hs3 := run_str (h.new_ ((hn1.trans (New.drew _)).trans hn2)))
      all_goals
        go_wp2
        go_ret2
        exact checkPost_none (by rw [Hd.out, if_neg Heq.out]) ((hn1.trans (New.drew _)).trans hn2)
  · have hd : checkL l = none := by unfold checkL; rw [if_neg (fun h => h4 h.1)]
    have Hd := Lib.hid hd; clear hd
    have hlt : l.length < 4 := by omega
    clear h4
    go_enter Try.func36, Try.ntmps36
    go_wp2_with fail
    go_ret2
    exact checkPost_none Hd.out (New.refl _)
end Go.Proofs.Ytkfcdfcoiglieaa
