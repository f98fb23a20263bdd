/- GuardLong returns true; nothing that was there turns. Conditions: the arguments read as bytes. -/
import Derived.Test.YtkfcdfcoiglieaaSums
namespace Go.Proofs.Ytkfcdfcoiglieaa
open Go.RowKit

theorem checkL_short (l : List UInt8) (h : l.length < 4) : checkL l = none := by
  unfold checkL; rw [if_neg (fun hh => by have := hh.1; omega)]
theorem checkL_some {l d : List UInt8} (h : checkL l = some d) : 4 ≤ l.length ∧ putL d = l ∧ d = l.take (l.length - 4) := by
  unfold checkL at h
  split at h
  · rename_i hh
    injection h with h
    subst h
    exact ⟨hh.1, hh.2, rfl⟩
  · cases h
theorem OwnB.shape {w : World} {base : Nat} {v : Value} {l : List UInt8} {n : Nat} (h : OwnB w base v l) (hn : l.length = n) : ∃ A c, v = .slice A n c ∧ n ≤ c ∧ c ≤ 9223372036854775807 := by
  subst hn; exact h.rb.shape

set_option maxRecDepth 100000 in
set_option maxHeartbeats 1600000 in
theorem long_law (v0 v2 : Value) (x : Int) (b m : List UInt8) (w : World) (hb : RB w v0 b) (hm : RB w v2 m) :
    Calls Try.prog 9 #[v0, .int .i64 x, v2] w fun e w' => e = .returned (.bool true) ∧ New w w' := by
  obtain ⟨i0, hi0, hz0, hz1, hz2⟩ := info_parts info_u8
  obtain ⟨A0, c0, rfl, h01, h02⟩ := hb.shape
  obtain ⟨A2, c2, rfl, h21, h22⟩ := hm.shape
  by_cases hlb : (1000 : Int) < (b.length : Int)
  · go_enter Try.func9, Try.ntmps9
    go_wp2_with fail
    refine (awake4 _).mono ?_
    rintro e w1 ⟨rfl, hn1⟩
    go_wp2
    go_ret
    exact ⟨rfl, hn1⟩
  · by_cases hl1 : m.length = 1
    · have hlb' : b.length ≤ 1000 := by omega
      have Hl1 := Lib.hid hl1
      have hl1b : ((m.length : Int) != 1) = false := by rw [hl1]; rfl
      clear hl1
      go_enter Try.func9, Try.ntmps9
      go_wp2_with fail
      refine (awake4 _).mono ?_
      rintro e w1 ⟨rfl, hn1⟩
      have hb1 := hb.new_ hn1
      have hm1 := hm.new_ hn1
      go_wp2_with fail
      refine (put_any _ b _ hb1 (by omega)).mono ?_
      rintro e w2 ⟨v8, rfl, ho2, hn2⟩
      obtain ⟨A8, c8, rfl, h81, h82⟩ := ho2.shape (length_putL b)
      have Hlen := Lib.hid (length_putL b)
      go_wp2_with fail
      refine (pick_nat x 4 _ (by omega) (by omega)).mono ?_
      rintro e w3 ⟨k, hk, rfl, rfl⟩
      have hk' : k < 4 := by omega
      have e5 : (k : Int) ≤ (c8 : Int) := by omega
      go_wp2_with fail
      refine (check_bad _ ((putL b).take k) _ (ho2.rb.take k (by omega)) (by rw [List.length_take]; omega) (checkL_short _ (by rw [List.length_take]; omega))).mono ?_
      rintro e w4 ⟨v4, rfl, ho4, hn4⟩
      go_wp2_with fail
      refine (copy_any _ (putL b) _ (ho2.rb.new_ hn4) (by rw [length_putL]; omega)).mono ?_
      rintro e w5 ⟨v5, rfl, ho5, hn5⟩
      have hc2 : ((putL b).map bv).length + (m.map bv).length ≤ maxLen := by unfold maxLen; rw [List.length_map, List.length_map, Hlen.out, Hl1.out]; omega
      have hc3 : (((putL b).map bv).length + (m.map bv).length) * 1 ≤ 140737488355328 := by rw [List.length_map, List.length_map, Hlen.out, Hl1.out]; omega
      have hm5 : RB w5 (.slice A2 m.length c2) m := (hm1.new_ (hn2.trans hn4)).new_ hn5
      have hsz := hn5.size
      go_wp2_with (at_builtin; refine wpList_append_rd _ rfl _ _ _ rfl w4.heap.size 5 i0 _ 1 Try.underlying22 hi0 hz0 hz1 hz2 rfl isB_zero _ _ rfl ho5 _ (m.map bv) rfl hm5 (bv_one _) (isB_map _) hc2 hc3 hsz ?_; intro v6 w6 hown6 hg6 _)
      have hn46 : New w4 w6 := grown_below hn5 ho5 hg6 hsz
      have ho6 : OwnB w6 w4.heap.size v6 (putL b ++ m) := by
        unfold OwnB; rw [List.map_append]; exact hown6
      refine (check_any _ (putL b ++ m) _ ho6.rb (by rw [List.length_append, Hlen.out, Hl1.out]; omega)).mono ?_
      rintro e w7 ⟨v7, rfl, ho7, hn7⟩
      have hn27 : New w2 w7 := (hn4.trans hn46).trans hn7
      cases hck : checkL (putL b ++ m) with
      | none =>
        rw [hck] at ho7
        obtain ⟨A7, c7, rfl, h71, h72⟩ := ho7.rb.shape
        have herr : errOf (none : Option (List UInt8)) 4 = 4 := rfl
        go_wp2_with fail
        refine (check_put _ b _ (ho2.rb.new_ hn27) (by omega)).mono ?_
        rintro e w8 ⟨v9, rfl, ho9, hn9⟩
        obtain ⟨A9, c9, rfl, h91, h92⟩ := ho9.rb.shape
        go_wp2
        go_ret
        exact ⟨rfl, ((hn1.trans hn2).trans hn27).trans hn9⟩
      | some d =>
        rw [hck] at ho7
        obtain ⟨_, _, hd⟩ := checkL_some hck
        have hdl : d.length = b.length + 1 := by
          rw [hd, List.length_take, List.length_append, Hlen.out, Hl1.out]; omega
        have hdt : d.take b.length = b := by
          rw [hd, List.take_take, List.length_append, Hlen.out, Hl1.out, Nat.min_eq_left (by omega)]
          unfold putL
          rw [List.append_assoc]
          exact List.take_left' rfl
        obtain ⟨A7, c7, rfl, h71, h72⟩ := OwnB.shape (l := d) ho7 hdl
        have Hdt := Lib.hid hdt
        have herr : errOf (some d) 4 = 0 := rfl
        clear hd hdl hdt hck
        have ho7' : OwnB w7 w6.heap.size (.slice A7 (b.length + 1) c7) d := ho7
        clear ho7
        have e7 : (b.length : Int) ≤ (c7 : Int) := by omega
        go_wp2_with fail
        refine (check_put _ b _ (ho2.rb.new_ hn27) (by omega)).mono ?_
        rintro e w8 ⟨v9, rfl, ho9, hn9⟩
        obtain ⟨A9, c9, rfl, h91, h92⟩ := ho9.rb.shape
        have hy := (ho7'.new_ hn9).rb.take b.length (by omega)
        rw [Hdt.out] at hy
        go_wp2_with fail
        refine (same_any _ _ b b _ hy (((hb1.new_ hn2).new_ hn27).new_ hn9)).mono ?_
        rintro e w9 ⟨rfl, rfl⟩
        go_wp2
        go_ret
        exact ⟨rfl, ((hn1.trans hn2).trans hn27).trans hn9⟩
    · have hl1b : ((m.length : Int) != 1) = true := by rw [bne_iff_ne]; omega
      clear hl1
      go_enter Try.func9, Try.ntmps9
      go_wp2_with fail
      refine (awake4 _).mono ?_
      rintro e w1 ⟨rfl, hn1⟩
      go_wp2
      go_ret
      exact ⟨rfl, hn1⟩
end Go.Proofs.Ytkfcdfcoiglieaa
