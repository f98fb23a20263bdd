/- satchellaw11.FrameKnown returns true. No condition. -/
import Derived.Test.YtkfcdfcoiglieaaFrameK
namespace Go.Proofs.Ytkfcdfcoiglieaa
open Go.RowKit

theorem readf_bad {b : List UInt8} {n : Int} (h : errR b = n) (h0 : n ≠ 0) (v : Value) (w : World) (hr : RB w v b) (hl : b.length ≤ 1000000000) :
    Calls Try.prog 57 #[v] w fun e w' => ∃ v', e = .returned (.tuple #[fv Frm.zero v', .int .i64 n]) ∧ RB w' v' [] ∧ New w w' :=
  (readf_any v b w hr hl).mono fun e w' ⟨v', he, ho, hn⟩ => by
    have hz : readF b = Frm.zero := by unfold readF; rw [h, if_neg h0]
    rw [hz, h] at he
    rw [hz] at ho
    exact ⟨v', he, ho.rb, hn⟩
theorem chk_lit (f : Frm) (n : Int) (h : checkF f = n) (hb : f.body = []) (w : World) :
    Calls Try.prog 54 #[fv f (.slice none 0 0)] w fun e w' => e = .returned (.int .i64 n) ∧ New w w' :=
  (checkf_any f _ w (by rw [hb]; exact RB.nil w)).mono fun e w' ⟨he, hn⟩ => ⟨by rw [he, h], hn⟩
theorem err_25 : errR ((layF synF).take 25) = 4 := by decide +kernel
theorem err_long : errR (List.replicate 1427 0) = 3 := by unfold errR; rw [if_pos (by rw [List.length_replicate]; omega)]
theorem z0 : Crc.run 4294967295#32 (List.replicate 50 0) = 3765994465#32 := by decide +kernel
theorem z1 : Crc.run 3765994465#32 (List.replicate 50 0) = 1719089461#32 := by decide +kernel
theorem z2 : Crc.run 1719089461#32 (List.replicate 50 0) = 3610611488#32 := by decide +kernel
theorem z3 : Crc.run 3610611488#32 (List.replicate 50 0) = 915298185#32 := by decide +kernel
theorem z4 : Crc.run 915298185#32 (List.replicate 50 0) = 4100324156#32 := by decide +kernel
theorem z5 : Crc.run 4100324156#32 (List.replicate 50 0) = 1254846509#32 := by decide +kernel
theorem z6 : Crc.run 1254846509#32 (List.replicate 50 0) = 1286104729#32 := by decide +kernel
theorem z7 : Crc.run 1286104729#32 (List.replicate 50 0) = 3118330611#32 := by decide +kernel
theorem z8 : Crc.run 3118330611#32 (List.replicate 50 0) = 2443575837#32 := by decide +kernel
theorem z9 : Crc.run 2443575837#32 (List.replicate 50 0) = 4252780165#32 := by decide +kernel
theorem z10 : Crc.run 4252780165#32 (List.replicate 50 0) = 217088070#32 := by decide +kernel
theorem z11 : Crc.run 217088070#32 (List.replicate 50 0) = 2282905052#32 := by decide +kernel
theorem z12 : Crc.run 2282905052#32 (List.replicate 50 0) = 1795492600#32 := by decide +kernel
theorem z13 : Crc.run 1795492600#32 (List.replicate 50 0) = 3042019226#32 := by decide +kernel
theorem z14 : Crc.run 3042019226#32 (List.replicate 50 0) = 858146173#32 := by decide +kernel
theorem z15 : Crc.run 858146173#32 (List.replicate 50 0) = 2540723484#32 := by decide +kernel
theorem z16 : Crc.run 2540723484#32 (List.replicate 50 0) = 2896873365#32 := by decide +kernel
theorem z17 : Crc.run 2896873365#32 (List.replicate 50 0) = 709378835#32 := by decide +kernel
theorem z18 : Crc.run 709378835#32 (List.replicate 50 0) = 185918190#32 := by decide +kernel
theorem z19 : Crc.run 185918190#32 (List.replicate 50 0) = 4193577087#32 := by decide +kernel
theorem z20 : Crc.run 4193577087#32 (List.replicate 50 0) = 351429140#32 := by decide +kernel
theorem z21 : Crc.run 351429140#32 (List.replicate 50 0) = 1418223572#32 := by decide +kernel
theorem z22 : Crc.run 1418223572#32 (List.replicate 50 0) = 1499449743#32 := by decide +kernel
theorem z23 : Crc.run 1499449743#32 (List.replicate 50 0) = 4088509846#32 := by decide +kernel
theorem z24 : Crc.run 4088509846#32 (List.replicate 50 0) = 1159845569#32 := by decide +kernel
theorem z25 : Crc.run 1159845569#32 (List.replicate 50 0) = 4288418140#32 := by decide +kernel
theorem z26 : Crc.run 4288418140#32 (List.replicate 50 0) = 2144426781#32 := by decide +kernel
theorem z27 : Crc.run 2144426781#32 (List.replicate 50 0) = 1800320891#32 := by decide +kernel
theorem z28 : Crc.run 1800320891#32 (List.replicate 22 0) = 18790059#32 := by decide +kernel
theorem run_z : Crc.run (~~~ 0#32) (List.replicate 1422 0) = 18790059#32 := by
  have h : (List.replicate 1422 0 : List UInt8) = List.replicate 50 0 ++ (List.replicate 50 0 ++ (List.replicate 50 0 ++ (List.replicate 50 0 ++ (List.replicate 50 0 ++ (List.replicate 50 0 ++ (List.replicate 50 0 ++ (List.replicate 50 0 ++ (List.replicate 50 0 ++ (List.replicate 50 0 ++ (List.replicate 50 0 ++ (List.replicate 50 0 ++ (List.replicate 50 0 ++ (List.replicate 50 0 ++ (List.replicate 50 0 ++ (List.replicate 50 0 ++ (List.replicate 50 0 ++ (List.replicate 50 0 ++ (List.replicate 50 0 ++ (List.replicate 50 0 ++ (List.replicate 50 0 ++ (List.replicate 50 0 ++ (List.replicate 50 0 ++ (List.replicate 50 0 ++ (List.replicate 50 0 ++ (List.replicate 50 0 ++ (List.replicate 50 0 ++ (List.replicate 50 0 ++ (List.replicate 22 0)))))))))))))))))))))))))))) := by
    simp only [List.replicate_append_replicate]
  rw [h, show (~~~ 0#32 : BitVec 32) = 4294967295#32 from by decide]
  simp only [Crc.run_append, z0, z1, z2, z3, z4, z5, z6, z7, z8, z9, z10, z11, z12, z13, z14, z15, z16, z17, z18, z19, z20, z21, z22, z23, z24, z25, z26, z27, z28]
theorem check_z : checkL (List.replicate 1426 0) = none := by
  unfold checkL
  rw [if_neg]
  intro ⟨_, h⟩
  rw [List.length_replicate, List.take_replicate] at h
  have h2 : (putL (List.replicate 1422 0))[1422]? = (List.replicate 1426 (0 : UInt8))[1422]? := by
    have : min (1426 - 4) 1426 = 1422 := by omega
    rw [this] at h; rw [h]
  rw [List.getElem?_replicate, if_pos (by omega), putL, Crc.sumOf, run_z, List.getElem?_append_right (by rw [List.length_replicate]; omega), List.length_replicate] at h2
  exact absurd h2 (by decide +kernel)
theorem err_zero : errR (List.replicate 1426 0) = 210 := by
  unfold errR; rw [if_neg (by rw [List.length_replicate]; omega), if_neg (by rw [List.length_replicate]; omega), check_z]
theorem rb_zs (w : World) (n : Nat) (h : n ≤ 1073741824) : RB (w.alloc (.cells (zs n).toArray 5)) (.slice (some ⟨w.heap.size, 0, none⟩) n n) (List.replicate n 0) :=
  rb_new w _ _ (by simp [zs]) n (by simp) h
theorem make_1427 (w : World) : (Instr.makeSlice 22 (.int .i64 1427) (.int .i64 1427)).run Try.prog w = .ok (.slice (some ⟨w.heap.size, 0, none⟩) 1427 1427) (w.alloc (.cells (zs 1427).toArray 5)) := make_bytes 1427 (by omega) w
theorem make_1426 (w : World) : (Instr.makeSlice 22 (.int .i64 1426) (.int .i64 1426)).run Try.prog w = .ok (.slice (some ⟨w.heap.size, 0, none⟩) 1426 1426) (w.alloc (.cells (zs 1426).toArray 5)) := make_bytes 1426 (by omega) w

set_option maxRecDepth 100000 in
set_option maxHeartbeats 1600000 in
theorem known11 (w : World) : Calls Try.prog 17 #[] w fun e w' => e = .returned (.bool true) ∧ New w w' := by
  have M1 := Lib.hid make_1427
  have M2 := Lib.hid make_1426
  have mk1 := M1.out
  have mk2 := M2.out
  go_enter Try.func17, Try.ntmps17
  go_wp2_with fail
  refine (syn_any _).mono ?_
  rintro e w1 ⟨rfl, hn1⟩
  go_wp2_with fail
  refine (put_syn _).mono ?_
  rintro e w2 ⟨A, c, rfl, hc1, hc2, hown, hn2⟩
  have hn := hn1.trans hn2
  have hb25 : (25 : Int) ≤ (c : Int) := by omega
  go_wp2_with fail
  refine (readf_bad err_25 (by decide) _ _ (hown.rb.take 25 (by omega)) (by simp; omega)).mono ?_
  rintro e w3 ⟨v3, rfl, hr3, hn3⟩
  obtain ⟨A3, c3, rfl, hl3, hc3⟩ := hr3.shape
  have hm3 := hn.trans hn3
  go_wp2_with fail
  generalize hw4 : w3.alloc (.cells #[.int .i64 Frm.zero.typ, .int .i64 Frm.zero.ses, .int .i64 Frm.zero.boot, .int .i64 Frm.zero.seq, .int .i64 Frm.zero.ack, .slice A3 0 c3] 47) = w4
  have hs4 : w4.heap.size = w3.heap.size + 1 := by rw [← hw4]; simp
  have hm4 : New w w4 := by rw [← hw4]; exact hm3.trans (New.alloc _ _)
  clear hw4
  have hz := rb_zs w4 1427 (by omega)
  rw [hs4] at hz
  refine (readf_bad err_long (by decide) _ _ hz (by rw [List.length_replicate]; omega)).mono ?_
  rintro e w5 ⟨v5, rfl, hr5, hn5⟩
  obtain ⟨A5, c5, rfl, hl5, hc5⟩ := hr5.shape
  have hm5 := (hm4.trans (New.alloc w4 (.cells (zs 1427).toArray 5))).trans hn5
  clear hz hs4
  go_wp2_with fail
  generalize hw6 : w5.alloc (.cells #[.int .i64 Frm.zero.typ, .int .i64 Frm.zero.ses, .int .i64 Frm.zero.boot, .int .i64 Frm.zero.seq, .int .i64 Frm.zero.ack, .slice A5 0 c5] 47) = w6
  have hs6 : w6.heap.size = w5.heap.size + 1 := by rw [← hw6]; simp
  have hm6 : New w w6 := by rw [← hw6]; exact hm5.trans (New.alloc _ _)
  clear hw6
  have hz := rb_zs w6 1426 (by omega)
  rw [hs6] at hz
  refine (readf_bad err_zero (by decide) _ _ hz (by rw [List.length_replicate]; omega)).mono ?_
  rintro e w7 ⟨v7, rfl, hr7, hn7⟩
  obtain ⟨A7, c7, rfl, hl7, hc7⟩ := hr7.shape
  have hm7 := (hm6.trans (New.alloc w6 (.cells (zs 1426).toArray 5))).trans hn7
  clear hz hs6 mk1 mk2
  go_wp2_with fail
  refine (awake11 _).mono ?_
  rintro e w8 ⟨rfl, hn8⟩
  have hm8 := (hm7.trans (New.alloc w7 (.cells #[.int .i64 Frm.zero.typ, .int .i64 Frm.zero.ses, .int .i64 Frm.zero.boot, .int .i64 Frm.zero.seq, .int .i64 Frm.zero.ack, .slice A7 0 c7] 47))).trans hn8
  go_wp2_with fail
  refine (chk_lit ⟨6, 0, 0, 0, 0, []⟩ 213 (by decide) rfl _).mono ?_
  rintro e w9 ⟨rfl, hn9⟩
  go_wp2_with fail
  refine (chk_lit ⟨1, 0, 0, 0, 0, []⟩ 2 (by decide) rfl _).mono ?_
  rintro e w10 ⟨rfl, hn10⟩
  go_wp2_with fail
  refine (chk_lit ⟨3, 1, 1, 0, 0, []⟩ 2 (by decide) rfl _).mono ?_
  rintro e w11 ⟨rfl, hn11⟩
  go_wp2
  go_ret
  exact ⟨rfl, ((hm8.trans hn9).trans hn10).trans hn11⟩
end Go.Proofs.Ytkfcdfcoiglieaa
