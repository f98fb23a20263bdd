/- The examples of chapter 13 ('awake'): two windows' packets, when they are due. No condition. -/
import Derived.Test.YtkfcdfcoiglieaaWinC
import Derived.Test.YtkfcdfcoiglieaaAw4
namespace Go.Proofs.Ytkfcdfcoiglieaa
open Go.RowKit

theorem PkRow.get {w : World} {base : Nat} {v : Value} {out : List Pk} (h : PkRow w base v out) : ∃ A c, v = .slice A out.length c ∧ out.length ≤ c ∧ c ≤ 9223372036854775807 ∧ (out ≠ [] → ∃ b, A = some ⟨b, 0, none⟩ ∧ base ≤ b ∧ ∀ (i : Nat) (k : Pk), out[i]? = some k → w.cell? ⟨b, i * 2, none⟩ = some (.int .i64 k.seq) ∧ ∃ u, w.cell? ⟨b, i * 2 + 1, none⟩ = some u ∧ OwnP isB w base 5 u (k.body.map bv)) := by
  obtain ⟨us, h1, ⟨h2, h3⟩, h4⟩ := h
  rcases h3 with ⟨rfl, h3⟩ | ⟨g, cap, cur, rfl, hb, hg, hc1, hc2, hc3, hc4⟩
  · refine ⟨none, 0, by rw [h3], by omega, by omega, fun hne => absurd (List.eq_nil_of_length_eq_zero h3) hne⟩
  · refine ⟨_, cap, rfl, hc1, by unfold maxLen at hc2; exact hc2, fun _ => ⟨g, rfl, hb, fun i k hk => ?_⟩⟩
    have hil : i < us.length := by rw [h1]; exact (List.getElem?_eq_some_iff.1 hk).1
    have hu : us[i]? = some us[i] := List.getElem?_eq_getElem hil
    obtain ⟨f1, f2⟩ := pkflat_get out us i k us[i] hk hu
    have key : ∀ (j : Nat) (x : Value), (pkflat out us)[j]? = some x → w.cell? ⟨g, j, none⟩ = some x := fun j x hx => by
      refine Bk.cellAt (g := g) hg ?_
      rw [← hc4, List.getElem?_take] at hx
      split at hx
      · simpa using hx
      · cases hx
    exact ⟨by rw [Nat.mul_comm]; exact key _ _ f1, us[i], by rw [Nat.mul_comm]; exact key _ _ f2, h4 i k _ hk hu⟩
def iv (n : Int) : Value := .int .i64 n
/-- Are just these numbers due? -/
def dueIs (s : Wn) (now : Int) (want : List Int) : Bool := decide ((outW now s).map (·.seq) = want)

set_option maxRecDepth 100000 in
set_option maxHeartbeats 1600000 in
theorem ldue_any (g : Nat) (s : Wn) (F : Nat → Prop) (now : Int) (wv : Value) (want : List Int) (w : World) (h : Win w F g s) (ht0 : 0 ≤ now) (ht1 : now ≤ 2147483647) (hr : Rd w wv (want.map iv))
    (hsep : ∀ (W : World), Mod F w W → Rd W wv (want.map iv)) :
    Calls Try.prog 73 #[ptr g, .int .i64 now, wv] w fun e w' => e = .returned (.bool (dueIs s now want)) ∧ Win w' F g (dueW now s) ∧ Mod F w w' := by
  obtain ⟨B, cb, rfl, hb1, hb2, hb3⟩ := hr
  rw [List.length_map] at hb1 hsep ⊢
  clear hb3
  have hb2' : cb ≤ 9223372036854775807 := hb2
  clear hb2
  go_enter Try.func73, Try.ntmps73
  go_wp2_with fail
  refine (win_due g s F now _ h ht0 ht1).mono ?_
  rintro e w1 ⟨v, rfl, hp, hW, hm⟩
  obtain ⟨A, c, rfl, hc1, hc2, hx⟩ := hp.get
  obtain ⟨B', cb', e, l1, l2, hb3⟩ := hsep w1 hm
  injection e with e1 e2 e3
  subst e1; subst e3
  clear e2 l1 l2
  have Hdue : Hid (dueIs s now want = decide ((outW now s).map (·.seq) = want)) := rfl
  have HW := Lib.hid hW; have HM := Lib.hid hm
  generalize outW now s = out at *
  have hlo : out.length ≤ 9223372036854775807 := by omega
  clear hp hW hm hsep h
  by_cases hl : out.length = want.length
  · have hb : ((out.length : Int) != (want.length : Int)) = false := by rw [hl]; simp
    have Hl := Lib.hid hl
    have hlw : want.length ≤ out.length := by omega
    have hlw2 : out.length ≤ want.length := by omega
    have hlI : (want.length : Int) ≤ (out.length : Int) := by omega
    have hlI2 : (out.length : Int) ≤ (want.length : Int) := by omega
    clear hl
    have Hx := Lib.hid hx; have Hb3 := Lib.hid hb3
    clear hx hb3
    go_wp2
    go_loopw [8] (fun u8 wr => ∃ (i : Nat), i ≤ out.length ∧ u8 = .int .i64 i ∧ (out.map (·.seq)).take i = want.take i ∧ ∃ n, wr = w1.drewN n) (fun u8 _ => out.length - (intOf u8).toNat)
    case atStart => exact ⟨0, Nat.zero_le _, rfl, rfl, 0, rfl⟩
    case round =>
      obtain ⟨i, hi, rfl, ht, n, rfl⟩ := hrel
      have Ht := Lib.hid ht; clear ht
      by_cases hlt : i < out.length
      · have hne : out ≠ [] := fun e => by rw [e] at hlt; simp at hlt
        obtain ⟨b, rfl, _, hcell⟩ := Hx.out hne
        obtain ⟨k1, _⟩ := hcell i out[i] (List.getElem?_eq_getElem hlt)
        obtain ⟨bb, ob, rfl, hcw⟩ := Hb3.out (by omega)
        have hlt2 : i < want.length := by omega
        have k2 := hcw i (iv want[i]) (by simp [hlt2])
        unfold iv at k2
        clear hcell hcw hne
        have iI0 : (0 : Int) ≤ (i : Int) := by omega
        have iI1 : (i : Int) < (out.length : Int) := by omega
        have iI2 : (i : Int) < (want.length : Int) := by omega
        have hs1 : (out.map (·.seq)).take (i + 1) = (out.map (·.seq)).take i ++ [out[i].seq] := by
          rw [List.take_succ_eq_append_getElem (by simpa using hlt)]; simp
        have hs2 : want.take (i + 1) = want.take i ++ [want[i]] := List.take_succ_eq_append_getElem hlt2
        have Hs1 := Lib.hid hs1; have Hs2 := Lib.hid hs2; clear hs1 hs2
        by_cases hq : out[i].seq = want[i]
        · have hqb : (out[i].seq != want[i]) = false := by simpa using hq
          have Hq := Lib.hid hq; clear hq
          go_wp2
          go_quiet (fail)
          go_wp2
          go_roundw
          case rel => exact ⟨i + 1, by omega, by go_num, by rw [Hs1.out, Hs2.out, Ht.out, Hq.out], _, rfl⟩
          case measure => simp [intOf]; omega
        · have hqb : (out[i].seq != want[i]) = true := by simpa using hq
          have Hq := Lib.hid hq; clear hq
          have Hr : Hid (dueIs s now want = false) := by
            show _ = _
            rw [Hdue.out]
            exact decide_eq_false (fun e => Hq.out (by
              have h1 : (out.map (·.seq))[i]? = want[i]? := by rw [e]
              simpa [hlt, hlt2] using h1))
          go_wp2
          go_quiet (fail)
          go_wp2
          go_ret
          exact ⟨by rw [Hr.out]; rfl, HW.out.new_ ((drewN_new w1 n).trans (drewN_new _ nq)), HM.out.trans (Mod.of_new ((drewN_new w1 n).trans (drewN_new _ nq)) F) (fun _ h _ => h)⟩
      · have hil : i = out.length := by omega
        subst hil
        have Hr : Hid (dueIs s now want = true) := by
          show _ = _
          rw [Hdue.out]
          refine decide_eq_true ?_
          have := Ht.out
          rwa [Hl.out, List.take_length, ← Hl.out, List.take_of_length_le (by simp)] at this
        go_wp2
        go_ret
        exact ⟨by rw [Hr.out]; rfl, HW.out.new_ (drewN_new _ _), HM.out.trans (Mod.of_new (drewN_new _ _) F) (fun _ h _ => h)⟩
  · have hb : ((out.length : Int) != (want.length : Int)) = true := by simp; omega
    have Hr : Hid (dueIs s now want = false) := by
      show _ = _
      rw [Hdue.out]
      exact decide_eq_false (fun e => hl (by rw [← e]; simp))
    go_wp2
    go_ret
    exact ⟨by rw [Hr.out]; rfl, HW.out, HM.out⟩

/-- Two windows' bodies, and the window of the examples. -/
def twoW : Wn := pushW (pushW (newWn 2) [97]) [98]
theorem beq_ptr (p : Nat) (w : World) : (binOp .eql 67 (.pointer (some ⟨p, 0, none⟩)) (.pointer none)).run Try.prog w = .ok (.bool false) w := by kernel_rfl
theorem bne_ptr (p : Nat) (w : World) : (binOp .neq 67 (.pointer (some ⟨p, 0, none⟩)) (.pointer none)).run Try.prog w = .ok (.bool true) w := by kernel_rfl
set_option maxRecDepth 100000 in
set_option maxHeartbeats 1600000 in
theorem two_any (w : World) : Calls Try.prog 72 #[] w fun e w' => ∃ g F, e = .returned (ptr g) ∧ Win w' F g twoW ∧ New w w' ∧ (∀ k, F k → w.heap.size ≤ k) := by
  have kc := const_conv
  have pe := beq_ptr
  go_enter Try.func72, Try.ntmps72
  go_wp2_with fail
  refine (win_new 2 _ (by decide) (by decide)).mono ?_
  rintro e w1 ⟨rfl, hW1, hn1⟩
  have HW1 := Lib.hid hW1; clear hW1
  go_wp2_with fail
  refine (win_push1 1 _ _ _ _ [97] _ (HW1.out.new_ (New.alloc _ _)) (by decide) (by decide) (by exact rb_const w1 [97] _ _ rfl _ rfl (by decide)) (by decide) rfl).mono ?_
  rintro e w2 ⟨rfl, hW2, hm2⟩
  have HW2 := Lib.hid hW2; clear hW2
  go_wp2_with fail
  refine (win_push1 2 _ _ _ _ [98] _ (HW2.out.new_ (New.alloc _ _)) (by decide) (by decide) (by exact rb_const w2 [98] _ _ rfl _ rfl (by decide)) (by decide) rfl).mono ?_
  rintro e w3 ⟨rfl, hW3, hm3⟩
  have HW3 := Lib.hid hW3; clear hW3
  go_wp2_with fail
  refine (win_full _ _ _ _ _ (HW3.out.new_ (New.alloc _ _)) (by decide)).mono ?_
  rintro e w4 ⟨rfl, hn4⟩
  go_wp2
  go_ret
  have g2 : ∀ k, Grown (w1.alloc (.cells #[.int .u8 97] 5 (1, 2))) w2 (fun k => k = w.heap.size) k → w.heap.size ≤ k := fun k hk => by
    have := New.size hn1
    rcases hk.1 with h | h
    · omega
    · rw [World.size_alloc] at h; omega
  have n2 : New w w2 := (hn1.trans (New.alloc _ _)).thenMod hm2 (fun i hi => by rw [hi]; exact Nat.le_refl _)
  have g3 : ∀ k, Grown (w2.alloc (.cells #[.int .u8 98] 5 (1, 2))) w3 (Grown (w1.alloc (.cells #[.int .u8 97] 5 (1, 2))) w2 (fun k => k = w.heap.size)) k → w.heap.size ≤ k := fun k hk => by
    have := New.size n2
    rcases hk.1 with h | h
    · exact g2 k h
    · rw [World.size_alloc] at h; omega
  have n3 : New w w3 := (n2.trans (New.alloc _ _)).thenMod hm3 g2
  exact ⟨_, _, rfl, HW3.out.new_ ((New.alloc w3 _).trans hn4), (n3.trans (New.alloc _ _)).trans hn4, g3⟩

theorem rd_ints (w : World) (l : List Int) : Rd (w.alloc (.cells (l.map iv).toArray 3)) (.slice (some ⟨w.heap.size, 0, none⟩) l.length l.length) (l.map iv) ∨ 1000000 < l.length := by
  by_cases h : l.length ≤ 1000000
  · left
    have := Rd.ofBk (xs := l.map iv) (c := l.length) (Bk.ofNew w 3 (l.map iv).toArray) (fun i x hx => by simpa using hx) (by simp) (by unfold maxLen; omega)
    rwa [List.length_map] at this
  · right; omega
theorem due_10 : dueIs twoW 10 [1, 2] = true := by decide +kernel
theorem due_17 : dueIs (dueW 10 twoW) 17 [] = true := by decide +kernel
theorem due_18 : dueIs (dueW 17 (dueW 10 twoW)) 18 [1, 2] = true := by decide +kernel
/-- What a law's own slice of numbers reads as, whatever becomes of the window. -/
theorem rd_keep {F : Nat → Prop} {w W : World} {v : Value} {xs : List Value} (h : Rd w v xs) (hm : Mod F w W) (hs : ∀ k, v.ownBlock = some k → ¬ F k) : Rd W v xs := by
  obtain ⟨A, c, rfl, h1, h2, h3⟩ := h
  refine ⟨A, c, rfl, h1, h2, fun hc => ?_⟩
  obtain ⟨b, o, rfl, hx⟩ := h3 hc
  refine ⟨b, o, rfl, fun i x hi => ?_⟩
  have := hx i x hi
  exact (World.cell?_of_block (a := ⟨b, o + i, none⟩) (hm.block b (World.block_lt_of_cell? w _ this) (hs b rfl))).trans this
set_option maxRecDepth 100000 in
set_option maxHeartbeats 1600000 in
theorem awake13 (w : World) : Calls Try.prog 63 #[] w fun e w' => e = .returned (.bool true) ∧ New w w' := by
  have pn := bne_ptr
  have d1 := due_10; have d2 := due_17; have d3 := due_18
  have D1 := Lib.hid d1; have D2 := Lib.hid d2; have D3 := Lib.hid d3
  clear d1 d2 d3
  go_enter Try.func63, Try.ntmps63
  go_wp2_with fail
  refine (two_any w).mono ?_
  rintro e w1 ⟨g, F, rfl, hW, hn, hF⟩
  have HW := Lib.hid hW; clear hW
  have hlt : ∀ k, F k → k < w1.heap.size := HW.out.lt
  go_wp2_with fail
  have hr1 : Rd (w1.alloc (.cells #[.int .i64 1, .int .i64 2] 3)) (.slice (some ⟨w1.heap.size, 0, none⟩) 2 2) ([1, 2].map iv) := (rd_ints w1 [1, 2]).resolve_right (by decide)
  refine (ldue_any g twoW F 10 _ [1, 2] _ (HW.out.new_ (New.alloc _ _)) (by decide) (by decide) hr1 (fun W hm => rd_keep hr1 hm (fun k hk hf => by have hk : w1.heap.size = k := Option.some.inj hk; have := hlt k hf; omega))).mono ?_
  rw [D1.out]
  rintro e w2 ⟨rfl, hW2, hm2⟩
  have HW2 := Lib.hid hW2; clear hW2 hr1
  have hn2 := (hn.trans (New.alloc w1 _)).thenMod hm2 hF
  go_wp2_with fail
  refine (ldue_any g _ F 17 _ [] _ HW2.out (by decide) (by decide) (Rd.nil _) (fun W hm => Rd.nil _)).mono ?_
  rw [D2.out]
  rintro e w3 ⟨rfl, hW3, hm3⟩
  have HW3 := Lib.hid hW3; clear hW3
  have hn3 := hn2.thenMod hm3 hF
  go_wp2_with fail
  have hr3 : Rd (w3.alloc (.cells #[.int .i64 1, .int .i64 2] 3)) (.slice (some ⟨w3.heap.size, 0, none⟩) 2 2) ([1, 2].map iv) := (rd_ints w3 [1, 2]).resolve_right (by decide)
  refine (ldue_any g _ F 18 _ [1, 2] _ (HW3.out.new_ (New.alloc _ _)) (by decide) (by decide) hr3 (fun W hm => rd_keep hr3 hm (fun k hk hf => by have hk : w3.heap.size = k := Option.some.inj hk; have := HW3.out.lt k hf; omega))).mono ?_
  rw [D3.out]
  rintro e w4 ⟨rfl, hW4, hm4⟩
  go_wp2
  go_ret
  exact ⟨rfl, (hn3.trans (New.alloc w3 _)).thenMod hm4 hF⟩
end Go.Proofs.Ytkfcdfcoiglieaa
