/- GuardSums and GuardChecks return true; nothing that was there turns. Conditions: the arguments read as bytes. -/
import Derived.Test.YtkfcdfcoiglieaaAw4
namespace Go.Proofs.Ytkfcdfcoiglieaa
open Go.RowKit

theorem more_sum (a b : List UInt8) : ~~~ (Crc.run (~~~ (Crc.sumOf a)) b) = Crc.sumOf (a ++ b) := by
  unfold Crc.sumOf
  rw [BitVec.not_not, Crc.run_append]
/-- guard.More behind a sum. -/
theorem more_next (a : List UInt8) (v : Value) (l : List UInt8) (w : World) (h : RB w v l) :
    Calls Try.prog 30 #[uv (Crc.sumOf a), v] w fun e w' => e = .returned (uv (Crc.sumOf (a ++ l))) ∧ New w w' :=
  (more_any _ v l w h).mono fun e w' ⟨he, hn⟩ => ⟨by rw [he, more_sum], hn⟩
/-- What LentBytes returns, read, and read with its room. -/
theorem lent_rb {w : World} {g : Nat} {l : List UInt8} (h : Bk w g 5 ((lentL l).map bv).toArray) (hl : l.length ≤ 1000000000) :
    RB w (.slice (some ⟨g, 0, none⟩) l.length (l.length + 3)) l ∧ RB w (.slice (some ⟨g, 0, none⟩) (l.length + 3) (l.length + 3)) (lentL l) := by
  have h2 : RB w (.slice (some ⟨g, 0, none⟩) (l.length + 3) (l.length + 3)) (lentL l) := rb_lent h (length_lentL l) (by omega)
  refine ⟨?_, h2⟩
  have := h2.take l.length (by omega)
  rwa [show (lentL l).take l.length = l from List.take_left' rfl] at this

set_option maxRecDepth 100000 in
set_option maxHeartbeats 800000 in
theorem sums_law (v0 v1 : Value) (a b : List UInt8) (w : World) (ha : RB w v0 a) (hb : RB w v1 b) :
    Calls Try.prog 3 #[v0, v1] w fun e w' => e = .returned (.bool true) ∧ New w w' := by
  obtain ⟨i0, hi0, hz0, hz1, hz2⟩ := info_parts info_u8
  obtain ⟨A0, c0, rfl, h01, h02⟩ := ha.shape
  obtain ⟨A1, c1, rfl, h11, h12⟩ := hb.shape
  by_cases hla : (1000 : Int) < (a.length : Int)
  · go_enter Try.func3, Try.ntmps3
    go_wp2_with fail
    refine (awake4 _).mono ?_
    rintro e w1 ⟨rfl, hn1⟩
    go_wp2
    go_ret
    exact ⟨rfl, hn1⟩
  · by_cases hlb : (1000 : Int) < (b.length : Int)
    · go_enter Try.func3, Try.ntmps3
      go_wp2_with fail
      refine (awake4 _).mono ?_
      rintro e w1 ⟨rfl, hn1⟩
      go_wp2
      go_ret
      exact ⟨rfl, hn1⟩
    · have hla' : a.length ≤ 1000 := by omega
      have hlb' : b.length ≤ 1000 := by omega
      have hc2 : ([] : List Value).length + (a.map bv).length ≤ maxLen := by unfold maxLen; rw [List.length_map, List.length_nil]; omega
      have hc3 : (([] : List Value).length + (a.map bv).length) * 1 ≤ 140737488355328 := by rw [List.length_map, List.length_nil]; omega
      have hc4 : ([] ++ a.map bv).length + (b.map bv).length ≤ maxLen := by unfold maxLen; rw [List.nil_append, List.length_map, List.length_map]; omega
      have hc5 : (([] ++ a.map bv).length + (b.map bv).length) * 1 ≤ 140737488355328 := by rw [List.nil_append, List.length_map, List.length_map]; omega
      go_enter Try.func3, Try.ntmps3
      go_wp2_with fail
      refine (lent_any _ a _ ha (by omega)).mono ?_
      rintro e w1 ⟨rfl, hB1, hn1⟩
      go_wp2_with fail
      refine (lent_any _ b _ (hb.new_ hn1) (by omega)).mono ?_
      rintro e w2 ⟨rfl, hB2, hn2⟩
      have hn12 := hn1.trans hn2
      have hown : OwnP isB (w2.alloc (.cells #[] 5)) w2.heap.size 5 (.slice (some ⟨w2.heap.size, 0, none⟩) 0 0) [] := OwnP.made (Nat.le_refl _) rfl rfl (Nat.le_refl _) (by simp [maxLen]) (by simp) (by simp)
      have hra := (ha.new_ hn12).new_ (New.alloc w2 (.cells #[] 5))
      have hsz : w2.heap.size ≤ (w2.alloc (.cells #[] 5)).heap.size := by simp
      go_wp2_with (first
        | (at_builtin; refine wpList_append_rd _ rfl (.tmp 23) (.tmp 24) _ rfl w2.heap.size 5 i0 _ 1 Try.underlying22 hi0 hz0 hz1 hz2 rfl isB_zero _ _ rfl hown _ (a.map bv) rfl hra (bv_one _) (isB_map _) hc2 hc3 hsz ?_; intro v3 w3 hown3 hg3 _; have hn3 : New w2 w3 := grown_below (New.alloc w2 _) hown hg3 hsz)
        | (at_builtin; refine wpList_append_rd _ rfl (.tmp 25) (.tmp 26) _ rfl w2.heap.size 5 i0 _ 1 Try.underlying22 hi0 hz0 hz1 hz2 rfl isB_zero v3 ([] ++ a.map bv) rfl hown3 _ (b.map bv) rfl (hb.new_ (hn12.trans hn3)) (bv_one _) (isB_map _) hc4 hc5 hn3.size ?_; intro v4 w4 hown4 hg4 _; have hn4 : New w2 w4 := grown_below hn3 hown3 hg4 hn3.size))
      have hall : RB w4 v4 (a ++ b) := by
        have := OwnP.rd hown4
        rw [List.nil_append, ← List.map_append] at this
        exact this
      have hx := (lent_rb (hB1.new_ (hn2.trans hn4)) (by omega)).1
      have hy := (lent_rb (hB2.new_ hn4) (by omega)).1
      have ha4 := ha.new_ (hn12.trans hn4)
      refine (put_any _ a _ hx (by omega)).mono ?_
      rintro e w5 ⟨v5, rfl, ho5, hn5⟩
      have hsz5 := (hn12.trans hn4).size
      go_wp2_with fail
      refine (sum_any _ a _ (hx.new_ hn5)).mono ?_
      rintro e w6 ⟨rfl, hn6⟩
      go_wp2_with fail
      have h56 := hn5.trans hn6
      refine (rsum_any _ a _ (ha4.new_ h56)).mono ?_
      rintro e w7 ⟨rfl, rfl⟩
      go_wp2_with fail
      refine (rsum_any _ a _ (ha4.new_ h56)).mono ?_
      rintro e w7 ⟨rfl, rfl⟩
      go_wp2_with fail
      refine (more_next a _ b _ (hy.new_ h56)).mono ?_
      rintro e w8 ⟨rfl, hn8⟩
      go_wp2_with fail
      refine (rsum_any _ (a ++ b) _ ((hall.new_ h56).new_ hn8)).mono ?_
      rintro e w9 ⟨rfl, rfl⟩
      go_wp2_with fail
      have h58 := h56.trans hn8
      refine (rput_any _ a _ (ha4.new_ h58) (by omega)).mono ?_
      rintro e w10 ⟨v10, rfl, ho10, hn10⟩
      go_wp2_with fail
      have ho5' := ho5.new_ ((hn6.trans hn8).trans hn10)
      refine (same_any _ _ (putL a) (putL a) _ ho5'.rb ho10.rb).mono ?_
      rintro e w11 ⟨rfl, rfl⟩
      go_wp2_with fail
      have h4_10 := h58.trans hn10
      refine (over_any _ _ _ _ ho5').mono ?_
      rintro e w12 ⟨rfl, hm12⟩
      have h4_12 : New w4 w12 := h4_10.thenMod hm12 (fun k hk => (ho5'.lt k hk).1)
      go_wp2_with fail
      refine (kept_any _ _ a _ ((lent_rb (hB1.new_ (hn2.trans hn4)) (by omega)).2.new_ h4_12) (ha4.new_ h4_12) (by omega)).mono ?_
      rintro e w13 ⟨rfl, hn13⟩
      go_wp2_with fail
      refine (kept_any _ _ b _ (((lent_rb (hB2.new_ hn4) (by omega)).2.new_ h4_12).new_ hn13) (hb.new_ (((hn12.trans hn4).trans h4_12).trans hn13)) (by omega)).mono ?_
      rintro e w14 ⟨rfl, hn14⟩
      go_wp2_with fail
      refine (awake4 _).mono ?_
      rintro e w15 ⟨rfl, hn15⟩
      go_wp2
      go_ret
      exact ⟨rfl, ((((hn12.trans hn4).trans h4_12).trans hn13).trans hn14).trans hn15⟩

set_option maxRecDepth 100000 in
set_option maxHeartbeats 800000 in
theorem checks_law (v0 : Value) (b : List UInt8) (w : World) (hb : RB w v0 b) :
    Calls Try.prog 4 #[v0] w fun e w' => e = .returned (.bool true) ∧ New w w' := by
  obtain ⟨A0, c0, rfl, h01, h02⟩ := hb.shape
  by_cases hlb : (1000 : Int) < (b.length : Int)
  · go_enter Try.func4, Try.ntmps4
    go_wp2_with fail
    refine (awake4 _).mono ?_
    rintro e w1 ⟨rfl, hn1⟩
    go_wp2
    go_ret
    exact ⟨rfl, hn1⟩
  · have hlb' : b.length ≤ 1000 := by omega
    go_enter Try.func4, Try.ntmps4
    go_wp2_with fail
    refine (lent_any _ b _ hb (by omega)).mono ?_
    rintro e w1 ⟨rfl, hB1, hn1⟩
    have hx := lent_rb hB1 (by omega)
    have hb1 := hb.new_ hn1
    go_wp2_with fail
    refine (check_any _ b _ hx.1 (by omega)).mono ?_
    rintro e w2 ⟨v2, rfl, ho2, hn2⟩
    go_wp2_with fail
    refine (rcheck_any _ b _ (hb1.new_ hn2) (by omega)).mono ?_
    rintro e w3 ⟨v3, rfl, ho3, hn3⟩
    go_wp2_with fail
    have ho2' := ho2.new_ hn3
    refine (same_any _ _ _ _ _ ho2'.rb ho3.rb).mono ?_
    rintro e w4 ⟨rfl, rfl⟩
    go_wp2_with fail
    have h1_3 := hn2.trans hn3
    refine (over_any _ _ _ _ ho2').mono ?_
    rintro e w5 ⟨rfl, hm5⟩
    have h1_5 : New w1 w5 := h1_3.thenMod hm5 (fun k hk => (ho2'.lt k hk).1)
    go_wp2_with fail
    refine (kept_any _ _ b _ (hx.2.new_ h1_5) (hb1.new_ h1_5) (by omega)).mono ?_
    rintro e w6 ⟨rfl, hn6⟩
    go_wp2_with fail
    refine (awake4 _).mono ?_
    rintro e w7 ⟨rfl, hn7⟩
    go_wp2
    go_ret
    exact ⟨rfl, ((hn1.trans h1_5).trans hn6).trans hn7⟩

theorem more_zero (v : Value) (l : List UInt8) (w : World) (h : RB w v l) :
    Calls Try.prog 30 #[.int .u32 0, v] w fun e w' => e = .returned (uv (Crc.sumOf l)) ∧ New w w' := more_any 0#32 v l w h
/-- satchelkit.Pick below a number that is not nought. -/
theorem pick_nat (x m : Int) (w : World) (h : 1 ≤ m) (hm : m ≤ 9223372036854775807) :
    Calls Try.prog 37 #[.int .i64 x, .int .i64 m] w fun e w' => ∃ k : Nat, (k : Int) < m ∧ e = .returned (.int .i64 k) ∧ w = w' := by
  have hr := pick_range x m (by omega)
  refine (pick_any x m w hm).mono fun e w' ⟨he, hw⟩ => ⟨(pick x m).toNat, by omega, ?_, hw⟩
  rw [he, Int.toNat_of_nonneg hr.1]

set_option maxRecDepth 100000 in
set_option maxHeartbeats 800000 in
theorem pieces_law (v0 : Value) (x y : Int) (b : List UInt8) (w : World) (hb : RB w v0 b) :
    Calls Try.prog 7 #[v0, .int .i64 x, .int .i64 y] w fun e w' => e = .returned (.bool true) ∧ New w w' := by
  obtain ⟨A0, c0, rfl, h01, h02⟩ := hb.shape
  by_cases hlb : (1000 : Int) < (b.length : Int)
  · go_enter Try.func7, Try.ntmps7
    go_wp2_with fail
    refine (awake4 _).mono ?_
    rintro e w1 ⟨rfl, hn1⟩
    go_wp2
    go_ret
    exact ⟨rfl, hn1⟩
  · have hlb' : b.length ≤ 1000 := by omega
    go_enter Try.func7, Try.ntmps7
    go_wp2_with fail
    refine (awake4 _).mono ?_
    rintro e w1 ⟨rfl, hn1⟩
    go_wp2_with fail
    refine (pick_nat x ((b.length : Int) + 1) _ (by omega) (by omega)).mono ?_
    rintro e w2 ⟨i, hi, rfl, rfl⟩
    go_wp2_with fail
    refine (pick_nat y ((b.length : Int) - (i : Int) + 1) _ (by omega) (by omega)).mono ?_
    rintro e w3 ⟨j, hj, rfl, rfl⟩
    have hi' : i ≤ b.length := by omega
    have hij : i + j ≤ b.length := by omega
    have hb1 := hb.new_ hn1
    go_wp2_with fail
    have e0 : (0 : Int) ≤ (i : Int) := by omega
    have e1 : (i : Int) ≤ (b.length : Int) := by omega
    have e2 : (0 : Int) ≤ (i : Int) + (j : Int) := by omega
    have e3 : (i : Int) + (j : Int) ≤ (b.length : Int) := by omega
    have e4 : (i : Int) ≤ (i : Int) + (j : Int) := by omega
    have e5 : (i : Int) ≤ (c0 : Int) := by omega
    have e6 : (i : Int) + (j : Int) ≤ (c0 : Int) := by omega
    have em : ((i : Int) + (j : Int)).toNat = i + j := by omega
    have ej : i + j - i = j := by omega
    have hp1 := hb1.take i hi'
    have hp2 := hb1.cut i (i + j) (by omega) hij
    have hp3 := hb1.cut (i + j) b.length hij (Nat.le_refl _)
    rw [ej] at hp2
    generalize hl1 : b.take i = l1 at hp1
    generalize hl2 : (b.drop i).take j = l2 at hp2
    generalize hl3 : (b.drop (i + j)).take (b.length - (i + j)) = l3 at hp3
    have hcat : Hid (l1 ++ (l2 ++ l3) = b) := by
      show l1 ++ (l2 ++ l3) = b
      rw [← List.append_assoc, ← hl1, ← hl2, ← hl3, List.take_of_length_le (by simp : (b.drop (i + j)).length ≤ b.length - (i + j)), ← List.take_add, List.take_append_drop]
    clear hl1 hl2 hl3
    go_region_held3 (fun _ => True) (trivial) (first
      | (go_at_call_of 30 (Value.int IntKind.u32 0); refine (more_zero _ l1 _ (hp1.new_ (New.drew w1))).mono ?_; rintro e w2 ⟨rfl, hn2⟩)
      | (go_at_call_of 30 (uv (Crc.sumOf l1)); refine (more_next l1 _ l2 _ ((hp2.new_ (New.drew w1)).new_ hn2)).mono ?_; rintro e w3 ⟨rfl, hn3⟩)
      | (go_at_call_of 30 (uv (Crc.sumOf (l1 ++ l2))); refine (more_next (l1 ++ l2) _ l3 _ (((hp3.new_ (New.drew w1)).new_ hn2).new_ hn3)).mono ?_; rintro e w4 ⟨rfl, hn4⟩))
    rw [hcat.out]
    have hn14 := (((New.drew w1).trans hn2).trans hn3).trans hn4
    have hb4 := hb1.new_ hn14
    go_wp2_with fail
    refine (sum_any _ b _ hb4).mono ?_
    rintro e w5 ⟨rfl, hn5⟩
    go_wp2_with fail
    refine (more_next b _ [] _ (RB.nil _)).mono ?_
    rintro e w6 ⟨rfl, hn6⟩
    rw [List.append_nil]
    go_wp2_with fail
    refine (more_zero _ b _ ((hb4.new_ hn5).new_ hn6)).mono ?_
    rintro e w7 ⟨rfl, hn7⟩
    go_wp2
    go_ret
    exact ⟨rfl, (((hn1.trans hn14).trans hn5).trans hn6).trans hn7⟩
end Go.Proofs.Ytkfcdfcoiglieaa
