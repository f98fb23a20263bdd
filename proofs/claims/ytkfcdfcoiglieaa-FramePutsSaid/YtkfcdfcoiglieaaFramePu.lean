/- satchellaw11.FramePuts returns true. Conditions: the frame's body reads as bytes. -/
import Derived.Test.YtkfcdfcoiglieaaRefG
import Derived.Test.YtkfcdfcoiglieaaKit2
import Derived.Test.YtkfcdfcoiglieaaSums
namespace Go.Proofs.Ytkfcdfcoiglieaa
open Go.RowKit

theorem same_self (v1 v2 : Value) (l : List UInt8) (w : World) (h1 : RB w v1 l) (h2 : RB w v2 l) :
    Calls Try.prog 31 #[v1, v2] w fun e w' => e = .returned (.bool true) ∧ w = w' :=
  (same_any v1 v2 l l w h1 h2).mono fun e w' ⟨he, hw⟩ => ⟨by rw [he]; simp, hw⟩

set_option maxRecDepth 100000 in
set_option maxHeartbeats 4000000 in
theorem puts_law (f : Frm) (vb : Value) (w : World) (h : RB w vb f.body) :
    Calls Try.prog 11 #[fv f vb] w fun e w' => e = .returned (.bool true) ∧ New w w' := by
  obtain ⟨A, c, rfl, hl, hc⟩ := h.shape
  have hB0 := Bk.ofNew w 47 #[.int .i64 f.typ, .int .i64 f.ses, .int .i64 f.boot, .int .i64 f.seq, .int .i64 f.ack, .slice A f.body.length c]
  have hN0 := New.alloc w (.cells #[.int .i64 f.typ, .int .i64 f.ses, .int .i64 f.boot, .int .i64 f.seq, .int .i64 f.ack, .slice A f.body.length c] 47)
  by_cases hlong : (2000 : Int) < (f.body.length : Int)
  · go_enter Try.func11, Try.ntmps11
    go_wp2
    go_ret
    exact ⟨rfl, hN0⟩
  go_enter Try.func11, Try.ntmps11
  go_upto_region 4 with fail
  have hs0 := World.size_alloc w (.cells #[.int .i64 f.typ, .int .i64 f.ses, .int .i64 f.boot, .int .i64 f.seq, .int .i64 f.ack, .slice A f.body.length c] 47)
  have hB1 := Bk.ofNew (w.alloc (.cells #[.int .i64 f.typ, .int .i64 f.ses, .int .i64 f.boot, .int .i64 f.seq, .int .i64 f.ack, .slice A f.body.length c] 47)) 47 #[.int .i64 f.typ, .int .i64 f.ses, .int .i64 f.boot, .int .i64 f.seq, .int .i64 f.ack, .slice A f.body.length c]
  have hB0 := hB0.alloc (.cells #[.int .i64 f.typ, .int .i64 f.ses, .int .i64 f.boot, .int .i64 f.seq, .int .i64 f.ack, .slice A f.body.length c] 47)
  have hN1 := hN0.trans (New.alloc (w.alloc (.cells #[.int .i64 f.typ, .int .i64 f.ses, .int .i64 f.boot, .int .i64 f.seq, .int .i64 f.ack, .slice A f.body.length c] 47)) (.cells #[.int .i64 f.typ, .int .i64 f.ses, .int .i64 f.boot, .int .i64 f.seq, .int .i64 f.ack, .slice A f.body.length c] 47))
  rw [hs0] at hB1
  generalize (w.alloc (.cells #[.int .i64 f.typ, .int .i64 f.ses, .int .i64 f.boot, .int .i64 f.seq, .int .i64 f.ack, .slice A f.body.length c] 47)).alloc (.cells #[.int .i64 f.typ, .int .i64 f.ses, .int .i64 f.boot, .int .i64 f.seq, .int .i64 f.ack, .slice A f.body.length c] 47) = w1 at hB0 hB1 hN1 ⊢
  clear hN0 hs0
  obtain ⟨g0, hg0⟩ : ∃ g, g = w.heap.size := ⟨_, rfl⟩
  obtain ⟨g1, hg1⟩ : ∃ g, g = w.heap.size + 1 := ⟨_, rfl⟩
  rw [← hg1] at hB1 ⊢
  rw [← hg0] at hB0 ⊢
  have hg01 : g0 ≠ g1 := by omega
  have hw1 : w.heap.size ≤ g1 := by omega
  clear hg0 hg1
  have h1 := h.new_ hN1
  have hlt0 := hB0.lt
  have hlt1 := hB1.lt
  have m5 := hB0.cellAt (i := 5) rfl
  go_wp2_with fail
  refine (lent_any _ f.body _ h1 (by omega)).mono ?_
  rintro e w2 ⟨rfl, hL2, hn2⟩
  have hB02 := hB0.new_ hn2
  have hB12 := hB1.new_ hn2
  have k5 := hB12.cellAt (i := 5) rfl
  have kf := hB12.frozen 5
  have hlt12 := hB12.lt
  clear m5
  go_upto_region 5 with fail
  have hgl : w1.heap.size ≠ g1 := by omega
  obtain ⟨LB, hLB⟩ : ∃ v, v = Value.slice (some ⟨w1.heap.size, 0, none⟩) f.body.length (f.body.length + 3) := ⟨_, rfl⟩
  rw [← hLB]
  have HLB := Lib.hid hLB
  clear hLB
  have hB03 := hB02.far (p := ⟨g1, 5, none⟩) hg01 LB
  have hB13 := hB12.set_ 5 LB
  have hL3 := hL2.far (p := ⟨g1, 5, none⟩) hgl LB
  have hN3 : New w (w2.setCell ⟨g1, 5, none⟩ LB) := Below.setCell (hN1.trans hn2) (by omega) LB
  have hsz2 := hn2.size
  have hLlt := hL3.lt
  generalize w2.setCell ⟨g1, 5, none⟩ LB = w3 at hB03 hB13 hL3 hN3 hLlt ⊢
  clear k5 kf hB02 hB12 hL2 hlt12 hB0 hB1
  have hrLB : RB w3 LB f.body := by rw [HLB.out]; exact (lent_rb hL3 (by omega)).1
  have hr3 := h.new_ hN3
  have m0 := hB03.cellAt (i := 0) rfl
  have m1 := hB03.cellAt (i := 1) rfl
  have m2 := hB03.cellAt (i := 2) rfl
  have m3 := hB03.cellAt (i := 3) rfl
  have m4 := hB03.cellAt (i := 4) rfl
  have m5 := hB03.cellAt (i := 5) rfl
  have k0 := hB13.cellAt (i := 0) rfl
  have k1 := hB13.cellAt (i := 1) rfl
  have k2 := hB13.cellAt (i := 2) rfl
  have k3 := hB13.cellAt (i := 3) rfl
  have k4 := hB13.cellAt (i := 4) rfl
  have k5 := hB13.cellAt (i := 5) rfl
  go_wp2_with fail
  refine (putf_any f LB _ hrLB).mono ?_
  rintro e w4 ⟨v4, rfl, ho4, hn4⟩
  clear m0 m1 m2 m3 m4 m5 k0 k1 k2 k3 k4 k5
  have hB04 := hB03.new_ hn4
  have hB14 := hB13.new_ hn4
  have m0 := hB04.cellAt (i := 0) rfl
  have m1 := hB04.cellAt (i := 1) rfl
  have m2 := hB04.cellAt (i := 2) rfl
  have m3 := hB04.cellAt (i := 3) rfl
  have m4 := hB04.cellAt (i := 4) rfl
  have m5 := hB04.cellAt (i := 5) rfl
  go_wp2_with fail
  refine (rputf_any f _ _ (hr3.new_ hn4)).mono ?_
  rintro e w5 ⟨v6, rfl, ho6, hn5⟩
  clear m0 m1 m2 m3 m4 m5
  have hB05 := hB04.new_ hn5
  have hB15 := hB14.new_ hn5
  have hn45 := hn4.trans hn5
  have ho5 := ho4.new_ hn5
  generalize (if checkF f = 0 then layF f else []) = X at ho5 ho6
  have m0 := hB05.cellAt (i := 0) rfl
  have m1 := hB05.cellAt (i := 1) rfl
  have m2 := hB05.cellAt (i := 2) rfl
  have m3 := hB05.cellAt (i := 3) rfl
  have m4 := hB05.cellAt (i := 4) rfl
  have m5 := hB05.cellAt (i := 5) rfl
  have k0 := hB15.cellAt (i := 0) rfl
  have k1 := hB15.cellAt (i := 1) rfl
  have k2 := hB15.cellAt (i := 2) rfl
  have k3 := hB15.cellAt (i := 3) rfl
  have k4 := hB15.cellAt (i := 4) rfl
  have k5 := hB15.cellAt (i := 5) rfl
  go_upto_region 7 with fail
  have hC := fun w' (hn : New w5 w') => checkf_any f LB w' ((hrLB.new_ hn45).new_ hn)
  have hR := fun w' (hn : New w5 w') => rcheckf_any f (.slice A f.body.length c) w' ((hr3.new_ hn45).new_ hn)
  unfold ChkPost at hC hR
  generalize checkF f = n at hC hR ⊢
  have HC := Lib.hid hC
  have HR := Lib.hid hR
  clear hC hR
  go_region_held3 (fun w' => w'.cell? ⟨g1, 0, none⟩ = some (.int .i64 f.typ) ∧ w'.cell? ⟨g1, 1, none⟩ = some (.int .i64 f.ses) ∧ w'.cell? ⟨g1, 2, none⟩ = some (.int .i64 f.boot) ∧ w'.cell? ⟨g1, 3, none⟩ = some (.int .i64 f.seq) ∧ w'.cell? ⟨g1, 4, none⟩ = some (.int .i64 f.ack) ∧ w'.cell? ⟨g1, 5, none⟩ = some LB ∧ w'.cell? ⟨g0, 0, none⟩ = some (.int .i64 f.typ) ∧ w'.cell? ⟨g0, 1, none⟩ = some (.int .i64 f.ses) ∧ w'.cell? ⟨g0, 2, none⟩ = some (.int .i64 f.boot) ∧ w'.cell? ⟨g0, 3, none⟩ = some (.int .i64 f.seq) ∧ w'.cell? ⟨g0, 4, none⟩ = some (.int .i64 f.ack) ∧ w'.cell? ⟨g0, 5, none⟩ = some (.slice A f.body.length c)) (first | exact ⟨k0, k1, k2, k3, k4, k5, m0, m1, m2, m3, m4, m5⟩ | exact ⟨(hnA.cell k0), (hnA.cell k1), (hnA.cell k2), (hnA.cell k3), (hnA.cell k4), (hnA.cell k5), (hnA.cell m0), (hnA.cell m1), (hnA.cell m2), (hnA.cell m3), (hnA.cell m4), (hnA.cell m5)⟩ | exact ⟨((hnA.trans hnB).cell k0), ((hnA.trans hnB).cell k1), ((hnA.trans hnB).cell k2), ((hnA.trans hnB).cell k3), ((hnA.trans hnB).cell k4), ((hnA.trans hnB).cell k5), ((hnA.trans hnB).cell m0), ((hnA.trans hnB).cell m1), ((hnA.trans hnB).cell m2), ((hnA.trans hnB).cell m3), ((hnA.trans hnB).cell m4), ((hnA.trans hnB).cell m5)⟩) (first
    | (go_at_call 31; refine (same_self v4 v6 X _ (ho5.rb.new_ (New.drew w5)) (ho6.rb.new_ (New.drew w5))).mono ?_; rintro e w6 ⟨rfl, rfl⟩)
    | (go_at_call 54; refine (HC.out _ (New.drew w5)).mono ?_; rintro e w6 ⟨rfl, hnA⟩)
    | (go_at_call 55; refine (HR.out _ ((New.drew w5).trans hnA)).mono ?_; rintro e w7 ⟨rfl, hnB⟩))
  have hn7 := ((New.drew w5).trans hnA).trans hnB
  have ho7 := ho5.new_ hn7
  have hB07 := hB05.new_ hn7
  have hB17 := hB15.new_ hn7
  have hL7 := hL3.new_ (hn45.trans hn7)
  have hN7 := (hN3.trans hn45).trans hn7
  clear m0 m1 m2 m3 m4 m5 k0 k1 k2 k3 k4 k5 HC HR
  go_wp2_with fail
  refine (over_any v4 w3.heap.size (X.map bv) _ ho7).mono ?_
  rintro e w8 ⟨rfl, hM⟩
  have hS : ∀ k, v4.ownBlock = some k → w3.heap.size ≤ k := fun k hk => (OwnP.lt ho7 k hk).1
  have hsz3 := hN3.size
  have hB08 := hB07.mod hM (fun hk => by have := hS _ hk; omega)
  have hB18 := hB17.mod hM (fun hk => by have := hS _ hk; omega)
  have hL8 := hL7.mod hM (fun hk => by have := hS _ hk; omega)
  have hN8 : New w w8 := hN7.thenMod hM (fun i hi => by have := hS _ hi; omega)
  have hr8 := h.new_ hN8
  have hLB := HLB.out
  subst hLB
  have m5 := hB08.cellAt (i := 5) rfl
  have k5 := hB18.cellAt (i := 5) rfl
  go_wp2_with fail
  refine (kept_any _ _ f.body _ (lent_rb hL8 (by omega)).2 hr8 (by omega)).mono ?_
  rintro e w9 ⟨rfl, hn9⟩
  go_wp2_with fail
  refine (awake11 _).mono ?_
  rintro e w10 ⟨rfl, hn10⟩
  go_wp2
  go_ret
  exact ⟨rfl, (hN8.trans hn9).trans hn10⟩
end Go.Proofs.Ytkfcdfcoiglieaa
