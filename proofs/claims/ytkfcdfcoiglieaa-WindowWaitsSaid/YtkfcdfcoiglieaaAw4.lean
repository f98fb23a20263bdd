/- What the walks of the laws over guard use: contracts in closed form, the examples ('awake'). No condition. -/
import Derived.Test.YtkfcdfcoiglieaaRef4
import Derived.Lib.SlBytesConst
namespace Go.Proofs.Ytkfcdfcoiglieaa
open Go.RowKit

theorem New.thenMod {S : Nat → Prop} {a b c : World} (h : New a b) (k : Mod S b c) (hS : ∀ i, S i → a.heap.size ≤ i) : New a c :=
  Below.trans h (k.below h.size hS)
theorem rb_new (w : World) (l : List UInt8) (cs : Array Value) (h : cs.toList = l.map bv) (n : Nat) (hn : n = l.length) (hs : n ≤ 1073741824) : RB (w.alloc (.cells cs 5)) (.slice (some ⟨w.heap.size, 0, none⟩) n n) l := by
  subst hn
  have := Rd.ofBk (xs := l.map bv) (c := l.length) (Bk.ofNew w 5 cs) (fun i x hx => by rw [← h] at hx; simpa using hx) (by simp) (by unfold maxLen; omega)
  rwa [List.length_map] at this
/-- The bytes of a constant: their row bears a mark. -/
theorem rb_const (w : World) (l : List UInt8) (cs : Array Value) (fr : Nat × Nat) (h : cs.toList = l.map bv) (n : Nat) (hn : n = l.length) (hs : n ≤ 1073741824) : RB (w.alloc (.cells cs 5 fr)) (.slice (some ⟨w.heap.size, 0, none⟩) n n) l := by
  subst hn
  refine ⟨_, l.length, by rw [List.length_map], by rw [List.length_map]; exact Nat.le_refl _, by unfold maxLen; omega, fun _ => ⟨_, 0, rfl, fun i x hx => ?_⟩⟩
  have hb : (w.alloc (.cells cs 5 fr)).heap[w.heap.size]? = some (.cells cs 5 fr) := heap_alloc_new w _
  rw [cell_of_row _ _ _ _ _ _ hb, Nat.zero_add]
  rw [← h] at hx; simpa using hx
theorem const_conv (w : World) (C : Array Value) (n c : Nat) :
    (convert 22 22 (.slice (some ⟨w.heap.size, 0, none⟩) n c)).run Try.prog (w.alloc (.cells C 5)) = .ok (.slice (some ⟨w.heap.size, 0, none⟩) n c) (w.alloc (.cells C 5 (C.size, C.size + 1))) :=
  Lib.run_convert_bytes_const (P := Try.prog) w 22 5 C n c Try.underlying22 Try.underlying5
theorem checkL_put (l : List UInt8) : checkL (putL l) = some l := by
  have hl := length_putL l
  have ht : (putL l).take ((putL l).length - 4) = l := by rw [hl]; exact List.take_left' (by omega)
  unfold checkL
  rw [ht, if_pos ⟨by omega, rfl⟩]
/-- guard.Check of guarded bytes. -/
theorem check_put (v : Value) (l : List UInt8) (w : World) (h : RB w v (putL l)) (hl : l.length ≤ 999999990) :
    Calls Try.prog 35 #[v] w fun e w' => ∃ v', e = .returned (.tuple #[v', .int .i64 0]) ∧ OwnB w' w.heap.size v' l ∧ New w w' :=
  (check_any v _ w h (by rw [length_putL]; omega)).mono fun e w' ⟨v', he, ho, hn⟩ => ⟨v', by rw [he, checkL_put]; rfl, by rw [checkL_put] at ho; exact ho, hn⟩
/-- guard.Check of bytes that guard nothing. -/
theorem check_bad (v : Value) (l : List UInt8) (w : World) (h : RB w v l) (hl : l.length ≤ 1000000000) (hb : checkL l = none) :
    Calls Try.prog 35 #[v] w fun e w' => ∃ v', e = .returned (.tuple #[v', .int .i64 4]) ∧ OwnB w' w.heap.size v' [] ∧ New w w' :=
  (check_any v _ w h hl).mono fun e w' ⟨v', he, ho, hn⟩ => ⟨v', by rw [he, hb]; rfl, by rw [hb] at ho; exact ho, hn⟩
theorem sum_ab : ((((Crc.sumOf [49, 50, 51, 52, 53, 54, 55, 56, 57]).toNat : Nat) : Int) == 3421780262) = true := by decide +kernel

set_option maxRecDepth 100000 in
set_option maxHeartbeats 400000 in
theorem awake4 (w : World) : Calls Try.prog 25 #[] w fun e w' => e = .returned (.bool true) ∧ New w w' := by
  have hs := sum_ab
  have kc := const_conv
  go_enter Try.func25, Try.ntmps25
  go_wp2_with fail
  refine (put_any _ [97, 98] _ (by exact rb_const w [97, 98] _ _ rfl _ rfl (by decide)) (by decide)).mono ?_
  rintro e w1 ⟨v1, rfl, ho1, hn1⟩
  go_wp2_with fail
  refine (check_put _ [97, 98] _ ho1.rb (by decide)).mono ?_
  rintro e w2 ⟨v2, rfl, ho2, hn2⟩
  go_wp2_with fail
  refine (sum_any _ [49, 50, 51, 52, 53, 54, 55, 56, 57] _ (by exact rb_const w2 [49, 50, 51, 52, 53, 54, 55, 56, 57] _ _ rfl _ rfl (by decide))).mono ?_
  rintro e w3 ⟨rfl, hn3⟩
  go_wp2_with fail
  have hn23 := (New.alloc w2 _).trans hn3
  refine (same_any _ _ [97, 98] [97, 98] _ ((ho2.new_ hn23).new_ (New.alloc _ _)).rb (by exact rb_const w3 [97, 98] _ _ rfl _ rfl (by decide))).mono ?_
  rintro e w4 ⟨rfl, rfl⟩
  go_wp2
  go_ret
  exact ⟨rfl, ((((New.alloc w _).trans hn1).trans hn2).trans hn23).trans (New.alloc _ _)⟩

set_option maxRecDepth 100000 in
set_option maxHeartbeats 400000 in
theorem known4 (w : World) : Calls Try.prog 5 #[] w fun e w' => e = .returned (.bool true) ∧ New w w' := by
  have hs : ((((Crc.sumOf []).toNat : Nat) : Int) == 0) = true := by decide +kernel
  have hs1 : ((((~~~ (Crc.run (~~~ (Crc.sumOf [49, 50, 51, 52])) [53, 54, 55, 56, 57])).toNat : Nat) : Int) == 3421780262) = true := by decide +kernel
  have kc := const_conv
  have hp0 : putL [] = [0, 0, 0, 0] := by decide +kernel
  have Hp0 := Lib.hid hp0; clear hp0
  have hb1 : checkL [0, 0, 0] = none := by decide +kernel
  have Hb1 := Lib.hid hb1; clear hb1
  have hb2 : checkL [0, 0, 0, 1] = none := by decide +kernel
  have Hb2 := Lib.hid hb2; clear hb2
  go_enter Try.func5, Try.ntmps5
  go_wp2_with fail
  refine (check_put _ [] _ (by rw [Hp0.out]; exact rb_new w [0, 0, 0, 0] _ rfl _ rfl (by decide)) (by decide)).mono ?_
  rintro e w1 ⟨v1, rfl, ho1, hn1⟩
  obtain ⟨A1, c1, rfl, _, _⟩ := ho1.rb.shape
  go_wp2_with fail
  refine (check_bad _ [0, 0, 0] _ (by exact rb_new w1 [0, 0, 0] _ rfl _ rfl (by decide)) (by decide) Hb1.out).mono ?_
  rintro e w2 ⟨v2, rfl, ho2, hn2⟩
  go_wp2_with fail
  refine (check_bad _ [0, 0, 0, 1] _ (by exact rb_new w2 [0, 0, 0, 1] _ rfl _ rfl (by decide)) (by decide) Hb2.out).mono ?_
  rintro e w3 ⟨v3, rfl, ho3, hn3⟩
  go_wp2_with fail
  refine (sum_any _ [] _ (RB.nil _)).mono ?_
  rintro e w4 ⟨rfl, hn4⟩
  go_wp2_with fail
  refine (sum_any _ [49, 50, 51, 52] _ (by exact rb_const w4 [49, 50, 51, 52] _ _ rfl _ rfl (by decide))).mono ?_
  rintro e w5 ⟨rfl, hn5⟩
  go_wp2_with fail
  refine (more_any _ _ [53, 54, 55, 56, 57] _ (by exact rb_const w5 [53, 54, 55, 56, 57] _ _ rfl _ rfl (by decide))).mono ?_
  rintro e w6 ⟨rfl, hn6⟩
  go_wp2_with fail
  refine (put_any _ [] _ (RB.nil _) (by decide)).mono ?_
  rintro e w7 ⟨v7, rfl, ho7, hn7⟩
  go_wp2_with fail
  refine (same_any _ _ [0, 0, 0, 0] [0, 0, 0, 0] _ (by rw [← Hp0.out]; exact (ho7.new_ (New.alloc _ _)).rb) (by exact rb_new w7 [0, 0, 0, 0] _ rfl _ rfl (by decide))).mono ?_
  rintro e w8 ⟨rfl, rfl⟩
  go_wp2_with fail
  refine (awake4 _).mono ?_
  rintro e w9 ⟨rfl, hn9⟩
  go_wp2
  go_ret
  exact ⟨rfl, (((((((((((New.alloc w _).trans hn1).trans (New.alloc _ _)).trans hn2).trans (New.alloc _ _)).trans hn3).trans hn4).trans (New.alloc _ _)).trans hn5).trans (New.alloc _ _)).trans hn6).trans hn7 |>.trans (New.alloc _ _) |>.trans hn9⟩
end Go.Proofs.Ytkfcdfcoiglieaa
