/- WindowKnown, walked. No condition. -/
import Derived.Test.YtkfcdfcoiglieaaAw13
namespace Go.Proofs.Ytkfcdfcoiglieaa
open Go.RowKit

def kn3 : Wn := dueW 18 (dueW 17 (dueW 10 twoW))
def kn5 : Wn := dueW 34 (dueW 33 kn3)
def kn6 : Wn := (ackW 1 40 kn5).1
def kn7 : Wn := (ackW 1 40 kn6).1
def kn8 : Wn := pushW kn7 [99]
def kv1 : Wn := pushW (newWn 1) [97]
def kv2 : Wn := dueW 0 kv1
def kv3 : Wn := (ackW 1 12 kv2).1
theorem due_33 : dueIs kn3 33 [] = true := by decide +kernel
theorem due_34 : dueIs (dueW 33 kn3) 34 [1, 2] = true := by decide +kernel
theorem when_66 : whenW kn5 = .tuple #[.int .i64 66, .bool true] := by kernel_rfl
theorem ack_1 : ((ackW 1 40 kn5).2 : Int) = 1 := by decide +kernel
theorem ack_0 : ((ackW 1 40 kn6).2 : Int) = 0 := by decide +kernel
theorem kn5_last : kn5.last = 2 := by decide +kernel
theorem kn6_last : kn6.last = 2 := by decide +kernel
theorem kn7_last : kn7.last = 2 := by decide +kernel
theorem kn7_len : kn7.l.length < kn7.size := by decide +kernel
theorem kn8_open : ((kn8.l.length : Nat) : Int) = 2 := by decide +kernel
theorem kn8_mean : kn8.mean = 4616189618054758400 := by decide +kernel
theorem kn8_spread : kn8.spread = 4607182418800017408 := by decide +kernel
theorem kv_ack : ((ackW 1 12 kv2).2 : Int) = 1 := by decide +kernel
theorem kv2_last : kv2.last = 1 := by decide +kernel
theorem kv3_mean : kv3.mean = 4617315517961601024 := by decide +kernel
theorem kv3_spread : kv3.spread = 4613374868287651840 := by decide +kernel
theorem drew_new {w w' : World} (h : ∃ n, w' = w.drewN n) : New w w' := by obtain ⟨n, rfl⟩ := h; exact drewN_new w n
theorem rd_12 (w : World) : Rd (w.alloc (.cells #[.int .i64 1, .int .i64 2] 3)) (.slice (some ⟨w.heap.size, 0, none⟩) 2 2) ([1, 2].map iv) := (rd_ints w [1, 2]).resolve_right (by decide)
theorem keep_12 {F : Nat → Prop} {w W : World} (hlt : ∀ k, F k → k < w.heap.size) (hm : Mod F (w.alloc (.cells #[.int .i64 1, .int .i64 2] 3)) W) : Rd W (.slice (some ⟨w.heap.size, 0, none⟩) 2 2) ([1, 2].map iv) :=
  rd_keep (rd_12 w) hm (fun k hk hf => by have hk : w.heap.size = k := Option.some.inj hk; have := hlt k hf; omega)
theorem wopen_nat (g : Nat) (s : Wn) (F : Nat → Prop) (w : World) (h : Win w F g s) : Calls Try.prog 68 #[ptr g] w fun e w' => e = .returned (.int .i64 (s.l.length : Nat)) ∧ w = w' := wopen_any g s F w h.rep h.ok.s1

set_option maxRecDepth 100000 in
set_option maxHeartbeats 3200000 in
theorem known13 (w : World) : Calls Try.prog 21 #[] w fun e w' => e = .returned (.bool true) ∧ New w w' := by
  have kc := const_conv
  have pe := beq_ptr
  have o1 := order_self (x := 4616189618054758400) (by decide +kernel)
  have o2 := order_self (x := 4607182418800017408) (by decide +kernel)
  have o3 := order_self (x := 4617315517961601024) (by decide +kernel)
  have o4 := order_self (x := 4613374868287651840) (by decide +kernel)
  go_enter Try.func21, Try.ntmps21
  go_wp2_with fail
  refine (wnew_bad 0 _ (by decide)).mono ?_
  rintro e w0 ⟨rfl, rfl⟩
  go_wp2_with fail
  refine (two_any w).mono ?_
  rintro e w1 ⟨g, F, rfl, hW, hn1, hF⟩
  have HW1 := Lib.hid hW; clear hW
  go_wp2_with fail
  refine (win_new 1 _ (by decide) (by decide)).mono ?_
  rintro e w2 ⟨rfl, hV, hn2⟩
  have HV2 := Lib.hid hV; clear hV
  have HW2 := Lib.hid (HW1.out.new_ hn2)
  have hFV : ∀ k, F k → k < w1.heap.size := HW1.out.lt
  have sep : ∀ k, k = w1.heap.size → ¬ F k := fun k hk hf => by have := hFV k hf; omega
  have Sep := Lib.hid sep
  have n2 := hn1.trans hn2
  have n1' := hn1
  clear hn1 hn2 HW1 sep
  go_wp2_with fail
  refine (ldue_any g twoW F 10 _ [1, 2] _ (HW2.out.new_ (New.alloc _ _)) (by decide) (by decide) (rd_12 w2) (fun W hm => keep_12 HW2.out.lt hm)).mono ?_
  rw [due_10]
  rintro e w3 ⟨rfl, hW3, hm3⟩
  have HW3 := Lib.hid hW3
  have HV3 := Lib.hid ((HV2.out.new_ (New.alloc _ _)).mod hm3 Sep.out)
  have n3 := (n2.trans (New.alloc w2 _)).thenMod hm3 hF
  clear hW3 hm3 HW2 HV2 n2
  go_wp2_with fail
  refine (ldue_any g _ F 17 _ [] _ HW3.out (by decide) (by decide) (Rd.nil _) (fun W hm => Rd.nil _)).mono ?_
  rw [due_17]
  rintro e w4 ⟨rfl, hW4, hm4⟩
  have HW4 := Lib.hid hW4
  have HV4 := Lib.hid (HV3.out.mod hm4 Sep.out)
  have n4 := n3.thenMod hm4 hF
  clear hW4 hm4 HW3 HV3 n3
  go_wp2_with fail
  refine (ldue_any g _ F 18 _ [1, 2] _ (HW4.out.new_ (New.alloc _ _)) (by decide) (by decide) (rd_12 w4) (fun W hm => keep_12 HW4.out.lt hm)).mono ?_
  rw [due_18]
  rintro e w5 ⟨rfl, hW5, hm5⟩
  have HW5 := Lib.hid (show Win w5 F g kn3 from hW5)
  have HV5 := Lib.hid ((HV4.out.new_ (New.alloc _ _)).mod hm5 Sep.out)
  have n5 := (n4.trans (New.alloc w4 _)).thenMod hm5 hF
  clear hW5 hm5 HW4 HV4 n4
  go_wp2_with fail
  refine (ldue_any g kn3 F 33 _ [] _ HW5.out (by decide) (by decide) (Rd.nil _) (fun W hm => Rd.nil _)).mono ?_
  rw [due_33]
  rintro e w6 ⟨rfl, hW6, hm6⟩
  have HW6 := Lib.hid hW6
  have HV6 := Lib.hid (HV5.out.mod hm6 Sep.out)
  have n6 := n5.thenMod hm6 hF
  clear hW6 hm6 HW5 HV5 n5
  go_wp2_with fail
  refine (ldue_any g _ F 34 _ [1, 2] _ (HW6.out.new_ (New.alloc _ _)) (by decide) (by decide) (rd_12 w6) (fun W hm => keep_12 HW6.out.lt hm)).mono ?_
  rw [due_34]
  rintro e w7 ⟨rfl, hW7, hm7⟩
  have HW7 := Lib.hid (show Win w7 F g kn5 from hW7)
  have HV7 := Lib.hid ((HV6.out.new_ (New.alloc _ _)).mod hm7 Sep.out)
  have n7 := (n6.trans (New.alloc w6 _)).thenMod hm7 hF
  clear hW7 hm7 HW6 HV6 n6
  go_wp2_with fail
  refine (win_when g kn5 F _ HW7.out).mono ?_
  rw [when_66]
  rintro e w8 ⟨rfl, hq8⟩
  have m8 := drew_new hq8
  have HW8 := Lib.hid (HW7.out.new_ m8)
  have HV8 := Lib.hid (HV7.out.new_ m8)
  have n8 := n7.trans m8
  clear hq8 m8
  clear HW7 HV7 n7
  go_wp2_with fail
  refine (win_ack g kn5 F 1 40 _ HW8.out (by decide) (by rw [kn5_last]; decide) (by decide) (by decide)).mono ?_
  rw [ack_1]
  rintro e w9 ⟨rfl, hW9, hm9⟩
  have HW9 := Lib.hid (show Win w9 F g kn6 from hW9)
  have HV9 := Lib.hid (HV8.out.mod hm9 Sep.out)
  have n9 := n8.thenMod hm9 hF
  clear hW9 hm9 HW8 HV8 n8
  go_wp2_with fail
  refine (win_ack g kn6 F 1 40 _ HW9.out (by decide) (by rw [kn6_last]; decide) (by decide) (by decide)).mono ?_
  rw [ack_0]
  rintro e wa ⟨rfl, hWa, hma⟩
  have HWa := Lib.hid (show Win wa F g kn7 from hWa)
  have HVa := Lib.hid (HV9.out.mod hma Sep.out)
  have na := n9.thenMod hma hF
  clear hWa hma HW9 HV9 n9
  go_wp2_with fail
  refine (win_ack_bad g kn7 F 3 40 _ HWa.out (.inr (.inl (by rw [kn7_last]; decide)))).mono ?_
  rintro e wb ⟨rfl, rfl⟩
  go_wp2_with fail
  refine (win_push1 3 g kn7 F _ [99] _ (HWa.out.new_ (New.alloc _ _)) kn7_len (by rw [kn7_last]; decide) (by exact rb_const wa [99] _ _ rfl _ rfl (by decide)) (by decide) (by rw [kn7_last]; rfl)).mono ?_
  rintro e wc ⟨rfl, hWc, hmc⟩
  have HWc := Lib.hid (show Win wc _ g kn8 from hWc)
  have HVc := Lib.hid ((HVa.out.new_ (New.alloc _ _)).mod hmc Sep.out)
  have nc := (na.trans (New.alloc wa _)).thenMod hmc hF
  clear hWc hmc HWa HVa na
  go_wp2_with fail
  refine (wtimes_any g kn8 _ _ HWc.out.rep HWc.out.ok.s1).mono ?_
  rw [kn8_mean, kn8_spread]
  rintro e wd ⟨rfl, hqd⟩
  have md := drew_new hqd
  have HWd := Lib.hid (HWc.out.new_ md)
  have HVd := Lib.hid (HVc.out.new_ md)
  have nd := nc.trans md
  clear hqd md
  clear HWc HVc nc
  go_wp2_with fail
  refine (wopen_nat g kn8 _ _ HWd.out).mono ?_
  rw [kn8_open]
  rintro e we ⟨rfl, rfl⟩
  go_wp2_with fail
  clear HWd
  refine (win_push1 1 _ (newWn 1) _ _ [97] _ (HVd.out.new_ (New.alloc _ _)) (by decide) (by decide) (by exact rb_const wd [97] _ _ rfl _ rfl (by decide)) (by decide) rfl).mono ?_
  rintro e wf ⟨rfl, hVf, hmf⟩
  have HVf := Lib.hid (show Win wf _ w1.heap.size kv1 from hVf)
  have nf := (nd.trans (New.alloc wd _)).thenMod hmf (fun i hi => by rw [hi]; exact New.size n1')
  have gf : ∀ k, Grown (wd.alloc (.cells #[.int .u8 97] 5 (1, 2))) wf (fun k => k = w1.heap.size) k → w.heap.size ≤ k := fun k hk => by
    have h1 := New.size n1'
    have h2 := New.size nd
    rcases hk.1 with h | h
    · omega
    · rw [World.size_alloc] at h; omega
  clear hVf hmf HVd nd
  go_wp2_with fail
  refine (win_due _ kv1 _ 0 _ HVf.out (by decide) (by decide)).mono ?_
  rintro e wg ⟨v9, rfl, _, hVg, hmg⟩
  have HVg := Lib.hid (show Win wg _ w1.heap.size kv2 from hVg)
  have ng := nf.thenMod hmg gf
  clear hVg hmg HVf nf
  go_wp2_with fail
  refine (win_ack _ kv2 _ 1 12 _ HVg.out (by decide) (by rw [kv2_last]; decide) (by decide) (by decide)).mono ?_
  rw [kv_ack]
  rintro e wh ⟨rfl, hVh, hmh⟩
  have HVh := Lib.hid (show Win wh _ w1.heap.size kv3 from hVh)
  have nh := ng.thenMod hmh gf
  clear hVh hmh HVg ng
  go_wp2_with fail
  refine (wtimes_any _ kv3 _ _ HVh.out.rep HVh.out.ok.s1).mono ?_
  rw [kv3_mean, kv3_spread]
  rintro e wi ⟨rfl, hqi⟩
  have ni := nh.trans (drew_new hqi)
  clear hqi HVh nh
  go_wp2_with fail
  refine (awake13 wi).mono ?_
  rintro e wj ⟨rfl, hnj⟩
  go_wp2
  go_ret
  exact ⟨rfl, ni.trans hnj⟩
end Go.Proofs.Ytkfcdfcoiglieaa
