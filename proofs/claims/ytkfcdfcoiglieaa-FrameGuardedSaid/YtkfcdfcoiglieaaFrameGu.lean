/- satchellaw11.FrameGuarded returns true. Conditions: the frame's body reads as bytes. -/
import Derived.Test.YtkfcdfcoiglieaaFrameRe
import Derived.Test.YtkfcdfcoiglieaaRefG
import Derived.Test.YtkfcdfcoiglieaaFrameTu
namespace Go.Proofs.Ytkfcdfcoiglieaa
open Go.RowKit

set_option maxRecDepth 100000 in
set_option maxHeartbeats 400000 in
theorem guarded_any (v : Value) (l : List UInt8) (w : World) (h : RB w v l) (hl : l.length ≤ 1000000000) :
    Calls Try.prog 61 #[v] w fun e w' => ∃ v', e = .returned v' ∧ OwnB w' w.heap.size v' (putL l) ∧ New w w' := by
  go_enter Try.func61, Try.ntmps61
  go_wp2_with fail
  refine (rput_any v l _ h hl).mono ?_
  rintro e w1 ⟨v1, rfl, ho, hn⟩
  go_wp2
  go_ret
  exact ⟨_, rfl, ho, hn⟩

theorem OwnP.takeK {Pr : Value → Prop} {w : World} {base : Nat} {e : TypeId} {A : Option Addr} {n c : Nat} {xs : List Value} (h : OwnP Pr w base e (.slice A n c) xs) (k : Nat) (hk : k ≤ n) : OwnP Pr w base e (.slice A k c) (xs.take k) := by
  rcases h with ⟨h, rfl⟩ | ⟨g, o, cap, cur, hv, h2, h3, h4, h5, h6, h7, h8⟩
  · injection h with e1 e2 e3
    subst e1; subst e2; subst e3
    obtain rfl : k = 0 := by omega
    exact .inl ⟨rfl, rfl⟩
  · injection hv with e1 e2 e3
    subst e1; subst e2; subst e3
    have hl : (xs.take k).length = k := by rw [List.length_take]; omega
    refine .inr ⟨g, o, c, cur, by rw [hl], h2, h3, by omega, h5, h6, ?_, h8⟩
    rw [hl, ← h7, List.take_take, Nat.min_eq_left hk]
theorem OwnB.form {w : World} {base : Nat} {A : Option Addr} {n c : Nat} {l : List UInt8} (h : OwnB w base (.slice A n c) l) (hn : 0 < n) :
    ∃ g o, A = some ⟨g, o, none⟩ ∧ base ≤ g ∧ l.length = n ∧ n ≤ c ∧ c ≤ maxLen ∧ g < w.heap.size ∧ ∀ i, w.frozen? ⟨g, i, none⟩ = false := by
  rcases h with ⟨h, _⟩ | ⟨g, o, cap, cur, hv, h2, h3, h4, h5, h6, h7, h8⟩
  · injection h with e1 e2 e3; omega
  · injection hv with e1 e2 e3
    subst e1; subst e2; subst e3
    rw [List.length_map] at h4 ⊢
    exact ⟨g, o, rfl, h2, rfl, h4, h5, h3.lt, h3.frozen⟩

set_option maxRecDepth 100000 in
set_option maxHeartbeats 4000000 in
theorem guarded_law (f : Frm) (vb : Value) (x1 : Int) (x2 : UInt8) (x3 : Int) (w : World) (h : RB w vb f.body) :
    Calls Try.prog 13 #[fv f vb, .int .i64 x1, bv x2, .int .i64 x3] w fun e w' => e = .returned (.bool true) ∧ New w w' := by
  obtain ⟨A, c, rfl, hl, hc⟩ := h.shape
  have hB0 := Bk.ofNew w 47 #[.int .i64 f.typ, .int .i64 f.ses, .int .i64 f.boot, .int .i64 f.seq, .int .i64 f.ack, .slice A f.body.length c]
  have hN0 := New.alloc w (.cells #[.int .i64 f.typ, .int .i64 f.ses, .int .i64 f.boot, .int .i64 f.seq, .int .i64 f.ack, .slice A f.body.length c] 47)
  by_cases hlong : (100 : Int) < (f.body.length : Int)
  · go_enter Try.func13, Try.ntmps13
    go_wp2
    go_ret
    exact ⟨rfl, hN0⟩
  obtain ⟨i0, hi0, hz0, hz1, hz2⟩ := info_parts info_u8
  go_enter Try.func13, Try.ntmps13
  go_upto_region 1 with fail
  generalize w.alloc (.cells #[.int .i64 f.typ, .int .i64 f.ses, .int .i64 f.boot, .int .i64 f.seq, .int .i64 f.ack, .slice A f.body.length c] 47) = w1 at hB0 hN0 ⊢
  have m0 := hB0.cellAt (i := 0) rfl
  have m1 := hB0.cellAt (i := 1) rfl
  have m2 := hB0.cellAt (i := 2) rfl
  have m3 := hB0.cellAt (i := 3) rfl
  have m4 := hB0.cellAt (i := 4) rfl
  have m5 := hB0.cellAt (i := 5) rfl
  go_wp2_with fail
  refine (rlay_any f (.slice A f.body.length c) _ (h.new_ hN0) (by omega)).mono ?_
  rintro e w2 ⟨v2, rfl, ho2, hn2⟩
  clear m0 m1 m2 m3 m4 m5
  obtain ⟨l, hlL⟩ : ∃ l, headOf f = l := ⟨_, rfl⟩
  have hll : l.length = 22 + f.body.length := by rw [← hlL]; exact length_headOf f
  rw [hlL] at ho2
  clear hlL
  obtain ⟨A2, c2, rfl, hl2, hc2⟩ := ho2.rb.shape
  have hpl := length_putL l
  have ho3 : OwnB w2 w1.heap.size (.slice A2 ((putL l).length - 4) c2) ((putL l).take ((putL l).length - 4)) := by
    have := OwnP.takeK ho2 ((putL l).length - 4) (by omega)
    rwa [← List.map_take] at this
  have hlp : ((putL l).take ((putL l).length - 4)).length = l.length := by rw [List.length_take]; omega
  generalize (putL l).take ((putL l).length - 4) = l3 at ho3 hlp
  have e1 : (putL l).length - 4 = l3.length := by omega
  rw [e1] at ho3
  have Hpl : Hid ((((putL l).length : Nat) : Int) = (l3.length : Int) + 4) := by show _ = _; omega
  have hll3 : 22 ≤ l3.length := by omega
  have hll4 : l3.length ≤ 122 := by omega
  have hpl3 : (putL l).length = l3.length + 4 := by omega
  rw [hpl3] at hl2 ⊢
  clear ho2 hpl hll hlp e1 hpl3
  have hN2 := hN0.trans hn2
  go_wp2_with fail
  refine (pick_any x1 l3.length _ (by omega)).mono ?_
  rintro e w3 ⟨rfl, rfl⟩
  obtain ⟨hk0, hk1⟩ := pick_range x1 l3.length (by omega)
  obtain ⟨k, hk⟩ : ∃ k : Nat, pick x1 l3.length = k := ⟨(pick x1 l3.length).toNat, by omega⟩
  rw [hk] at hk0 hk1 ⊢
  clear hk hk0
  obtain ⟨g, o, rfl, hgb, _, hcc, hcm, hgl, hfz⟩ := ho3.form (by omega)
  have hkl : k < l3.length := by omega
  obtain ⟨y, hy, hcell, _⟩ := OwnP.cellAt (xs := l3.map bv) ho3 hkl
  clear hy
  have hf0 := hfz (o + k)
  clear hfz
  go_upto_region 6 with fail
  have ho4 : OwnP isB (w2.setCell ⟨g, o + k, none⟩ (bv x2)) w1.heap.size 5 (.slice (some ⟨g, o, none⟩) l3.length c2) ((l3.set k x2).map bv) := by
    rw [List.map_set]; exact OwnP.store ho3 hkl ⟨x2, rfl⟩
  have hN4 : New w (w2.setCell ⟨g, o + k, none⟩ (bv x2)) := Below.setCell hN2 (Nat.le_trans hN0.size hgb) _
  have hN14 : w1.heap.size ≤ (w2.setCell ⟨g, o + k, none⟩ (bv x2)).heap.size := by have := hn2.size; simp; exact this
  have hl4 : (l3.set k x2).length = l3.length := List.length_set
  generalize w2.setCell ⟨g, o + k, none⟩ (bv x2) = w4 at ho4 hN4 hN14 ⊢
  generalize l3.set k x2 = l4 at ho4 hl4
  rw [← hl4] at ho4 hll3 hll4 ⊢
  clear hl4 hcell hf0 hkl hk1 hgl ho3 hn2 hl2 hgb hcc hcm
  obtain ⟨hp0, hp1⟩ := pick_range x3 3 (by omega)
  obtain ⟨mo, hmo⟩ : ∃ k : Nat, pick x3 3 = k := ⟨(pick x3 3).toNat, by omega⟩
  have hm2 : mo ≤ 2 := by omega
  have Hmo := Lib.hid hmo
  clear hmo hp0 hp1
  go_wp2_with fail
  go_loopw [9, 10] (fun u9 u10 wr => ∃ (i : Nat), i ≤ mo ∧ u10 = .int .i64 i ∧ OwnB wr w1.heap.size u9 (l4 ++ List.replicate i x2) ∧ New w wr ∧ w1.heap.size ≤ wr.heap.size) (fun _ u10 _ => mo - (intOf u10).toNat)
  case atStart => exact ⟨0, by omega, rfl, by rw [List.replicate_zero, List.append_nil]; exact ho4, hN4, hN14⟩
  case round =>
    clear ho4 hN4 hN14
    obtain ⟨i, hi, rfl, ho, hN, hsz⟩ := hrel
    go_wp2_with fail
    refine (pick_any x3 3 _ (by omega)).mono ?_
    rintro e w5 ⟨rfl, rfl⟩
    have hm := Hmo.out
    rw [hm]
    clear hm
    generalize hll : l4 ++ List.replicate i x2 = ll at ho
    have hlln : ll.length = l4.length + i := by rw [← hll]; simp
    have hllb : ll.length ≤ 124 := by omega
    have Hlln := Lib.hid hlln
    have Hll := Lib.hid hll
    clear hlln hll
    obtain ⟨A7, c7, rfl, hl7, hc7⟩ := ho.rb.shape
    by_cases hlt : i < mo
    · have hown : OwnP isB (wr.alloc (.cells #[bv x2] 5)) w1.heap.size 5 (.slice A7 ll.length c7) (ll.map bv) := OwnP.new_ ho (New.alloc _ _)
      have hrd : Rd (wr.alloc (.cells #[bv x2] 5)) (.slice (some ⟨wr.heap.size, 0, none⟩) 1 1) ([x2].map bv) :=
        Rd.ofBk (xs := [x2].map bv) (Bk.ofNew wr _ _) (fun i x hx => by simpa using hx) (by simp) (by simp [maxLen])
      have hc2' : (ll.map bv).length + ([x2].map bv).length ≤ maxLen := by unfold maxLen; simp; omega
      have hc3' : ((ll.map bv).length + ([x2].map bv).length) * 1 ≤ 140737488355328 := by simp; omega
      have hsz1 : w1.heap.size ≤ (wr.alloc (.cells #[bv x2] 5)).heap.size := by simp; omega
      go_wp2_with (at_builtin; refine wpList_append_rd _ rfl _ _ _ rfl w1.heap.size 5 i0 _ 1 Try.underlying22 hi0 hz0 hz1 hz2 rfl isB_zero _ _ rfl hown _ ([x2].map bv) rfl hrd (bv_one _) (isB_map _) hc2' hc3' hsz1 ?_; intro v' w' hown' hg' _)
      have hlt2 := hN0.size
      refine ⟨⟨i + 1, by omega, by go_num, ?_, (hN.trans (New.alloc _ _)).thenMod (grown_mod hg') (fun k hk => Nat.le_trans hlt2 (OwnP.lt hown k hk).1), Nat.le_trans hsz1 hg'.size⟩, by simp [intOf]; omega⟩
      rw [List.replicate_succ', ← List.append_assoc, Hll.out]
      unfold OwnB
      rw [List.map_append]
      exact hown'
    · have him : i = mo := by omega
      subst him
      go_wp2_with fail
      refine (guarded_any _ ll _ ho.rb (by omega)).mono ?_
      rintro e w6 ⟨v6, rfl, ho6, hn6⟩
      have hpl6 := length_putL ll
      obtain ⟨b, hb⟩ : ∃ b, putL ll = b := ⟨_, rfl⟩
      rw [hb] at ho6 hpl6
      clear hb
      have hbl : b.length ≤ 1000 := by omega
      clear hpl6
      obtain ⟨F, hF⟩ : ∃ F, readF b = F := ⟨_, rfl⟩
      obtain ⟨n, hn⟩ : ∃ n, errR b = n := ⟨_, rfl⟩
      have HR := Lib.hid (fun (v : Value) (w : World) (h : RB w v b) => readf_gen v b F n w h (by omega) hF hn)
      have HRR := Lib.hid (fun (v : Value) (w : World) (h : RB w v b) => rreadf_gen v b F n w h (by omega) hF hn)
      clear hF hn
      have hN6 := hN.trans hn6
      go_wp2_with fail
      refine (HR.out _ _ ho6.rb).mono ?_
      rintro e w7 ⟨A5, c5, rfl, ho7, hn7⟩
      go_wp2_with fail
      have hB8 := Bk.ofNew w7 47 #[.int .i64 F.typ, .int .i64 F.ses, .int .i64 F.boot, .int .i64 F.seq, .int .i64 F.ack, .slice A5 F.body.length c5]
      have hN8 := hn7.trans (New.alloc w7 (.cells #[.int .i64 F.typ, .int .i64 F.ses, .int .i64 F.boot, .int .i64 F.seq, .int .i64 F.ack, .slice A5 F.body.length c5] 47))
      have ho8 := ho7.new_ (New.alloc w7 (.cells #[.int .i64 F.typ, .int .i64 F.ses, .int .i64 F.boot, .int .i64 F.seq, .int .i64 F.ack, .slice A5 F.body.length c5] 47))
      generalize w7.alloc (.cells #[.int .i64 F.typ, .int .i64 F.ses, .int .i64 F.boot, .int .i64 F.seq, .int .i64 F.ack, .slice A5 F.body.length c5] 47) = w8 at hB8 hN8 ho8 ⊢
      generalize w7.heap.size = g8 at hB8 ⊢
      have hlt8 := hB8.lt
      refine (HRR.out _ _ (ho6.rb.new_ hN8)).mono ?_
      rintro e w9 ⟨A6, c6, rfl, ho9, hn9⟩
      have hB9 := hB8.new_ hn9
      have ho89 := ho8.new_ hn9
      have hlt9 := hB9.lt
      have m0 := hB9.cellAt (i := 0) rfl
      have m1 := hB9.cellAt (i := 1) rfl
      have m2 := hB9.cellAt (i := 2) rfl
      have m3 := hB9.cellAt (i := 3) rfl
      have m4 := hB9.cellAt (i := 4) rfl
      have m5 := hB9.cellAt (i := 5) rfl
      go_wp2_with fail
      refine (samef_same F _ _ _ (ho89.rb.new_ (New.alloc _ _)) (ho9.rd.new_ (New.alloc _ _))).mono ?_
      rintro e w10 ⟨rfl, hn10⟩
      go_wp2_with fail
      refine (awake11 _).mono ?_
      rintro e w11 ⟨rfl, hn11⟩
      go_wp2
      go_ret
      exact ⟨rfl, ((((hN6.trans hN8).trans hn9).trans (New.alloc _ _)).trans hn10).trans hn11⟩
end Go.Proofs.Ytkfcdfcoiglieaa
