/- (*Window).Ack: packets go from the front. Conditions: the window is one, its numbers are in their ranges. -/
import Derived.Test.YtkfcdfcoiglieaaWinB
import Derived.Test.YtkfcdfcoiglieaaSpread
import Derived.Test.YtkfcdfcoiglieaaQTail
import Derived.BigGuardPart
import Derived.Lib.MinMax
namespace Go.Proofs.Ytkfcdfcoiglieaa
open Go.RowKit

/-- A cell of the window's own block is turned. -/
theorem WinRep.setG {w : World} {F : Nat → Prop} {g : Nat} {s s' : Wn} {u : Value} (h : WinRep w F g s) (i : Nat) (hl : s'.l = s.l) (hc : ∀ lv, (winCells s lv).setIfInBounds i u = winCells s' lv) :
    WinRep (w.setCell ⟨g, i, none⟩ u) F g s' := by
  obtain ⟨hFg, lv, ps, hB, hO, hnd, hP⟩ := h
  have keep : ∀ k, k ≠ g → (w.setCell ⟨g, i, none⟩ u).heap[k]? = w.heap[k]? := fun k hk => heap_setCell_other w ⟨g, i, none⟩ k _ hk
  refine ⟨hFg, lv, ps, by rw [← hc]; exact hB.set_ i u, ⟨hO.1.keep fun k hk => keep k (own_ne hO.1 hB (by decide) k hk), hO.2⟩, hnd, by rw [hl]; exact hP.1, fun j p k hp hk => ?_⟩
  rw [hl] at hk
  obtain ⟨q1, v, q2, q3⟩ := hP.2 j p k hp hk
  have pg : p ≠ g := by rintro rfl; unfold Bk at q2 hB; rw [q2] at hB; injection hB with hB; injection hB with _ hB; exact absurd hB (by decide)
  exact ⟨q1, v, (keep p pg).trans q2, q3.1.keep (fun j hj => keep j (own_ne q3.1 hB (by decide) j hj)), q3.2⟩
theorem OwnP.tail {Pr : Value → Prop} {w : World} {base : Nat} {e : TypeId} {A : Option Addr} {n c : Nat} {x : Value} {xs : List Value} (h : OwnP Pr w base e (.slice A n c) (x :: xs)) :
    OwnP Pr w base e (.slice (cutA A 1 c) (n - 1) (c - 1)) xs := by
  rcases h with ⟨_, h⟩ | ⟨g, o, cap, cur, hv, h2, h3, h4, h5, h6, h7, h8⟩
  · cases h
  · injection hv with e1 e2 e3
    subst e1; subst e2; subst e3
    simp only [List.length_cons] at h4 h7
    have h7' : (cur.toList.drop (o + 1)).take xs.length = xs := by
      have := congrArg List.tail h7
      rw [List.tail_cons] at this
      have e : (List.take (xs.length + 1) (List.drop o cur.toList)).tail = (cur.toList.drop (o + 1)).take xs.length := by
        rw [← List.drop_one, List.drop_take, List.drop_drop, show xs.length + 1 - 1 = xs.length from by omega]
      rw [← e]; exact this
    unfold cutA
    by_cases hc : c = 1
    · have hx : xs = [] := List.eq_nil_of_length_eq_zero (by omega)
      subst hx
      rw [if_pos hc]
      exact .inr ⟨g, o, c - 1, cur, by simp, h2, h3, by simp, by omega, by omega, by simp, h8⟩
    · rw [if_neg hc]
      have ha : (⟨g, o, none⟩ : Addr).add 1 = ⟨g, o + 1, none⟩ := by unfold Addr.add; split <;> simp_all
      exact .inr ⟨g, o + 1, c - 1, cur, by simp [ha], h2, h3, by omega, by omega, by omega, h7', h8⟩
theorem ownBlock_cut {A : Option Addr} {n c n' c' k : Nat} (lo : Nat) (h : (Value.slice (cutA A lo c) n' c').ownBlock = some k) : (Value.slice A n c).ownBlock = some k := by
  unfold cutA at h
  split at h
  · cases A with
    | none => cases h
    | some a => exact h
  · cases A with
    | none => cases h
    | some a =>
      rw [← h]
      show (some a.block) = some (a.add lo).block
      unfold Addr.add; split <;> rfl
/-- The first packet is struck. -/
theorem WinRep.pop {w : World} {F : Nat → Prop} {g : Nat} {s : Wn} {k : Pk} {r : List Pk} (h : WinRep w F g s) (hl : s.l = k :: r) {A : Option Addr} {c : Nat} (h2 : w.cell? ⟨g, 2, none⟩ = some (.slice A s.l.length c)) :
    WinRep (w.setCell ⟨g, 2, none⟩ (.slice (cutA A 1 c) (s.l.length - 1) (c - 1))) F g { s with l := r } := by
  obtain ⟨hFg, lv, ps, hB, hO, hnd, hP⟩ := h
  have hlv : lv = .slice A s.l.length c := by
    have := hB.cellAt (i := 2) (v := lv) rfl
    rw [h2] at this; injection this with this; exact this.symm
  subst hlv
  have keep : ∀ k, k ≠ g → (w.setCell ⟨g, 2, none⟩ (.slice (cutA A 1 c) (s.l.length - 1) (c - 1))).heap[k]? = w.heap[k]? := fun k hk => heap_setCell_other w ⟨g, 2, none⟩ k _ hk
  match ps, hP with
  | [], hP => have := hP.1; rw [hl] at this; cases this
  | p :: ps, hP =>
    refine ⟨hFg, _, ps, hB.set_ 2 _, ⟨?_, fun j hj => hO.2 j (ownBlock_cut 1 hj)⟩, (List.nodup_cons.1 hnd).2, by have := hP.1; rw [hl] at this; simpa using this, fun j q kk hq hk => ?_⟩
    · exact (OwnP.tail hO.1).keep fun j hj => keep j (own_ne hO.1 hB (by decide) j (ownBlock_cut 1 hj))
    · obtain ⟨q1, v, q2, q3⟩ := hP.2 (j + 1) q kk (by simpa using hq) (by rw [hl]; simpa using hk)
      have pg : q ≠ g := by rintro rfl; unfold Bk at q2 hB; rw [q2] at hB; injection hB with hB; injection hB with _ hB; exact absurd hB (by decide)
      exact ⟨q1, v, (keep q pg).trans q2, q3.1.keep (fun j hj => keep j (own_ne q3.1 hB (by decide) j hj)), q3.2⟩

/-- The time is told: it is the window's, if it is not behind it. -/
def nowW (s : Wn) (now : Int) : Wn := { s with now := max s.now now }
/-- A packet that was sent once is acknowledged: the mean and the spread move. -/
def tickW (s : Wn) (p : Pk) : Wn :=
  if p.times = 1 then { s with spread := spreadF s.spread s.mean (floatOfInt .f64 (s.now - p.at_)) 4598175219545276416, mean := meanF s.mean (floatOfInt .f64 (s.now - p.at_)) 4593671619917905920 } else s
/-- What Ack leaves, and how many it lets go. -/
def ackL (n : Int) (s : Wn) : List Pk → Wn × Nat
  | [] => ({ s with l := [] }, 0)
  | p :: r => if p.seq ≤ n then ((ackL n (tickW s p) r).1, (ackL n (tickW s p) r).2 + 1) else ({ s with l := p :: r }, 0)
def ackW (n now : Int) (s : Wn) : Wn × Nat := ackL n (nowW s now) s.l

theorem tickW_l (s s' : Wn) (p : Pk) (h : { s with l := [] } = { s' with l := [] }) : { tickW s p with l := [] } = { tickW s' p with l := [] } := by
  cases s; cases s'
  simp only [Wn.mk.injEq, true_and] at h
  obtain ⟨rfl, rfl, rfl, rfl, rfl⟩ := h
  unfold tickW
  split <;> rfl
/-- What is under way ahead does not count. -/
theorem ackL_l (n : Int) : ∀ (s s' : Wn), { s with l := [] } = { s' with l := [] } → ∀ x, ackL n s x = ackL n s' x := by
  have key : ∀ (x : List Pk) (s s' : Wn), { s with l := [] } = { s' with l := [] } → ackL n s x = ackL n s' x := by
    intro x
    induction x with
    | nil => intro s s' h; unfold ackL; rw [h]
    | cons p r ih =>
      intro s s' h
      unfold ackL
      split
      · rw [ih _ _ (tickW_l s s' p h)]
      · have : ({ s with l := p :: r } : Wn) = { ({ s with l := [] } : Wn) with l := p :: r } := rfl
        rw [this, h]
  exact fun s s' h x => key x s s' h
theorem mod_set2 {F : Nat → Prop} {w w2 : World} {g n n' : Nat} (h : Mod F w w2) (hg : F g) (i j : Nat) (u v : Value) : Mod F w ((((w2.drewN n).setCell ⟨g, i, none⟩ u).drewN n').setCell ⟨g, j, none⟩ v) :=
  h.trans (T := F) ⟨rfl, rfl, rfl, by simp, fun k _ hk => (heap_setCell_other _ ⟨g, j, none⟩ k _ (fun e => hk (by rw [e]; exact hg))).trans (heap_setCell_other w2 ⟨g, i, none⟩ k _ (fun e => hk (by rw [e]; exact hg)))⟩ (fun _ h _ => h)

set_option maxRecDepth 100000 in
set_option maxHeartbeats 1600000 in
theorem wack_ok (g : Nat) (s : Wn) (F : Nat → Prop) (n now : Int) (w : World) (h : WinRep w F g s) (hk : WinOk s) (hn0 : 0 ≤ n) (hn1 : n ≤ s.last) (ht0 : 0 ≤ now) (ht1 : now ≤ 2147483647) :
    Calls Try.prog 66 #[ptr g, .int .i64 n, .int .i64 now] w fun e w' => e = .returned (.tuple #[.int .i64 ((ackW n now s).2 : Nat), .int .i64 0]) ∧ WinRep w' F g (ackW n now s).1 ∧ Mod F w w' := by
  obtain ⟨A, c, ps, hB, hc1, hc2, _, _, _, _⟩ := h.open
  unfold winCells at hB
  have k0 := hB.cellAt (i := 0) rfl
  have k1 := hB.cellAt (i := 1) rfl
  have k5 := hB.cellAt (i := 5) rfl
  have kf := hB.frozen 5
  clear hB
  have hs := hk.s1
  have htb : timeB now = true := decide_eq_true ⟨ht0, ht1⟩
  go_enter Try.func66, Try.ntmps66
  go_wp2_with fail
  refine (none_not g s.size _ k0 hs).mono ?_
  rintro e w1 ⟨rfl, rfl⟩
  go_wp2_with fail
  refine (wtime_any now _).mono ?_
  rintro e w1 ⟨rfl, rfl⟩
  go_wp2_with fail
  have hW := h.setG (s' := nowW s now) 5 rfl (u := .int .i64 (max s.now now)) (fun lv => rfl)
  have hM : Mod F w (w.setCell ⟨g, 5, none⟩ (.int .i64 (max s.now now))) := ⟨rfl, rfl, rfl, by simp, fun k _ hk => heap_setCell_other w ⟨g, 5, none⟩ k _ (fun e => hk (by rw [e]; exact h.1))⟩
  have hk2 : WinOk (nowW s now) := by
    refine ⟨hk.s1, hk.s2, hk.len, hk.last0, ?_, ?_, hk.mean, hk.spread, fun k hkm => ?_⟩
    · have := hk.now0; show 0 ≤ max s.now now; omega
    · have := hk.now1; show max s.now now ≤ 2147483647; omega
    · obtain ⟨a, b, c, d, e, f, gg⟩ := hk.pk k hkm
      exact ⟨a, b, by show k.at_ ≤ max s.now now; omega, d, e, f, gg⟩
  have Hfin : Hid (ackL n (nowW s now) (nowW s now).l = ackW n now s) := rfl
  generalize w.setCell ⟨g, 5, none⟩ (.int .i64 (max s.now now)) = w1 at hW hM ⊢
  have hs0 : (nowW s now).l.length = s.l.length := rfl
  have Hs0 := Lib.hid hs0
  generalize nowW s now = s1 at hW hk2 Hfin Hs0
  have hlen := hk.len; have hs2 := hk.s2
  clear k0 k1 k5 kf h hk htb hs0
  go_loopw [8] (fun u8 wr => ∃ (t : Wn) (j : Nat), WinRep wr F g t ∧ WinOk t ∧ t.l.length + j = s.l.length ∧ (ackL n t t.l).1 = (ackW n now s).1 ∧ (ackL n t t.l).2 + j = (ackW n now s).2 ∧ u8 = .int .i64 j ∧ Mod F w wr) (fun u8 _ => s.l.length - (intOf u8).toNat)
  case atStart => exact ⟨s1, 0, hW, hk2, Hs0.out, by rw [Hfin.out], by rw [Hfin.out]; rfl, rfl, hM⟩
  case round =>
    clear hW hk2 hM Hfin Hs0 hc1 hc2
    obtain ⟨t, j, hW, hk, hj, hf1, hf2, rfl, hM⟩ := hrel
    obtain ⟨A, c, ps, hB, hc1, hc2, _, _, _, hx⟩ := hW.open
    unfold winCells at hB
    have k0 := hB.cellAt (i := 0) rfl
    have k2 := hB.cellAt (i := 2) rfl
    have kf := hB.frozen 2
    have HB := Lib.hid hB; clear hB
    have Hf1 := Lib.hid hf1; have Hf2 := Lib.hid hf2; have Hj := Lib.hid hj
    clear hf1 hf2 hj
    by_cases he : t.l.length = 0
    · have hnil : t.l = [] := List.eq_nil_of_length_eq_zero he
      have Hr : Hid ((ackW n now s).1 = t ∧ (ackW n now s).2 = j) := by
        show _ ∧ _
        rw [← Hf1.out, ← Hf2.out, hnil]
        exact ⟨by show { t with l := [] } = t; rw [← hnil], by simp [ackL]⟩
      rw [he] at k2
      clear hx hnil he
      go_wp2
      go_ret2
      rw [Hr.out.1, Hr.out.2]
      exact ⟨rfl, hW, hM⟩
    · have hne : t.l ≠ [] := fun e => he (by rw [e]; rfl)
      have hpos : 0 < t.l.length := by omega
      have hposI : (0 : Int) < (t.l.length : Int) := by omega
      have hposI1 : (1 : Int) ≤ (t.l.length : Int) := by omega
      have hcI1 : (1 : Int) ≤ (c : Int) := by omega
      obtain ⟨b, o, rfl, hx1⟩ := hx hne
      clear hx
      obtain ⟨k, r, hkr⟩ : ∃ k r, t.l = k :: r := by
        cases h : t.l with
        | nil => exact absurd h hne
        | cons k r => exact ⟨k, r, rfl⟩
      obtain ⟨p, v, _, kp, _, hpB, _⟩ := hx1 0 k (by rw [hkr]; rfl)
      rw [Nat.add_zero] at kp
      have Hkr := Lib.hid hkr
      clear hx1 hne he hkr
      unfold pkCells at hpB
      have p0 := hpB.cellAt (i := 0) rfl
      have hko := hk.pk k (by rw [Hkr.out]; exact List.mem_cons_self ..)
      obtain ⟨g1, g2, g3, g4, g5, g6, g7⟩ := hko
      have hn1 := hk.now1; have hn0 := hk.now0
      by_cases hq : k.seq ≤ n
      · go_upto_region 10 with fail
        have hW2 : WinRep (wr.setCell ⟨g, 2, none⟩ (.slice (if c = 1 then some ⟨b, o, none⟩ else some ⟨b, o + 1, none⟩) (t.l.length - 1) (c - 1))) F g { t with l := r } := hW.pop Hkr.out k2
        have hne : p ≠ g := by
          rintro rfl
          have h1 := HB.out; unfold Bk at h1 hpB; rw [h1] at hpB; injection hpB with hpB; injection hpB with _ hpB; exact absurd hpB (by decide)
        have hpB2 : Bk (wr.setCell ⟨g, 2, none⟩ (.slice (if c = 1 then some ⟨b, o, none⟩ else some ⟨b, o + 1, none⟩) (t.l.length - 1) (c - 1))) p 129 _ := hpB.far (p := ⟨g, 2, none⟩) hne _
        have hM2 : Mod F w (wr.setCell ⟨g, 2, none⟩ (.slice (if c = 1 then some ⟨b, o, none⟩ else some ⟨b, o + 1, none⟩) (t.l.length - 1) (c - 1))) := hM.trans (T := F) ⟨rfl, rfl, rfl, by simp, fun k _ hk => heap_setCell_other wr ⟨g, 2, none⟩ k _ (fun e => hk (by rw [e]; exact hW.1))⟩ (fun _ h _ => h)
        generalize (if c = 1 then some (⟨b, o, none⟩ : Addr) else some ⟨b, o + 1, none⟩) = A2 at hW2 hpB2 hM2 ⊢
        generalize wr.setCell ⟨g, 2, none⟩ (.slice A2 (t.l.length - 1) (c - 1)) = w2 at hW2 hpB2 hM2 ⊢
        have hk2 : WinOk { t with l := r } := by
          have hr : r.length ≤ t.l.length := by rw [Hkr.out]; simp
          exact ⟨hk.s1, hk.s2, by have := hk.len; show (r.length : Int) ≤ t.size; omega, hk.last0, hk.now0, hk.now1, hk.mean, hk.spread, fun x hx => hk.pk x (by rw [Hkr.out]; exact List.mem_cons_of_mem _ hx)⟩
        have HB2 := hW2
        obtain ⟨_, lv2, ps2, hB2, _⟩ := HB2
        unfold winCells at hB2
        have q3 := hB2.cellAt (i := 3) rfl
        have q4 := hB2.cellAt (i := 4) rfl
        have q5 := hB2.cellAt (i := 5) rfl
        have f3 := hB2.frozen 3
        have f4 := hB2.frozen 4
        have r2 := hpB2.cellAt (i := 2) rfl
        have r3 := hpB2.cellAt (i := 3) rfl
        have HW2 := Lib.hid hW2; have HM2 := Lib.hid hM2; have Hk2 := Lib.hid hk2
        have Hstep : Hid ((ackL n t t.l).1 = (ackL n (tickW t k) r).1 ∧ (ackL n t t.l).2 = (ackL n (tickW t k) r).2 + 1) := by
          show _ ∧ _
          rw [Hkr.out, ackL, if_pos hq]
          exact ⟨rfl, rfl⟩
        have hj1 : (j : Int) ≤ 64 := by have := Hj.out; omega
        have hlr : Hid (r.length + 1 = t.l.length) := by show _ = _; rw [Hkr.out]; rfl
        clear hB2 hpB hpB2 hW2 hM2 hk2 kp p0 k0 k2 kf hW hM
        by_cases h1 : k.times = 1
        · have ht : (k.times == 1) = true := beq_iff_eq.2 h1
          have H1 := Lib.hid h1; clear h1
          go_wp2
          go_quiet (fail)
          go_wp2
          refine wp_region_quiet_tail 11 (by kernel_rfl) (by kernel_rfl) (by kernel_rfl) ?_
          simp only [List.take_succ_cons, List.take_zero, List.drop_succ_cons, List.drop_zero]
          have hsp := fun m => quiet_of2 (b := nq) (n := m) (spread_is t.spread t.mean (floatOfInt .f64 (t.now - k.at_)) 4598175219545276416 (w2.drewN (nq + m)) hk.spread)
          have Hsp := Lib.hid hsp; clear hsp
          repeat (go_big_quiet_step ((go_at_call 98; exact Hsp.out _)))
          refine wpQuiet_nil ?_
          intro _ hw'
          obtain ⟨nq2, hw''⟩ := hw'
          subst hw''
          go_wp2_with fail
          refine (mean_any t.mean (floatOfInt .f64 (t.now - k.at_)) 4593671619917905920 _).mono ?_
          rintro e w3 ⟨rfl, n3, rfl⟩
          go_wp2
          go_roundw
          case rel =>
            have hs : tickW { t with l := r } k = { t with l := r, spread := spreadF t.spread t.mean (floatOfInt .f64 (t.now - k.at_)) 4598175219545276416, mean := meanF t.mean (floatOfInt .f64 (t.now - k.at_)) 4593671619917905920 } := by
              unfold tickW; rw [if_pos H1.out]
            have hs2 : ∀ x, ackL n (tickW t k) x = ackL n (tickW { t with l := r } k) x := fun x => ackL_l n (tickW t k) (tickW { t with l := r } k) (by rw [hs]; unfold tickW; rw [if_pos H1.out]) x
            have hW3 := (((HW2.out.new_ (drewN_new w2 (nq + nq2))).setG (s' := { t with l := r, spread := spreadF t.spread t.mean (floatOfInt .f64 (t.now - k.at_)) 4598175219545276416 }) 4 rfl (u := .float .f64 (spreadF t.spread t.mean (floatOfInt .f64 (t.now - k.at_)) 4598175219545276416)) (fun lv => rfl)).new_ (drewN_new _ n3)).setG (s' := { t with l := r, spread := spreadF t.spread t.mean (floatOfInt .f64 (t.now - k.at_)) 4598175219545276416, mean := meanF t.mean (floatOfInt .f64 (t.now - k.at_)) 4593671619917905920 }) 3 rfl (u := .float .f64 (meanF t.mean (floatOfInt .f64 (t.now - k.at_)) 4593671619917905920)) (fun lv => rfl)
            have hk3 := Hk2.out
            refine ⟨_, j + 1, hW3, ⟨hk3.s1, hk3.s2, hk3.len, hk3.last0, hk3.now0, hk3.now1, meanF_num hk3.mean, spreadF_num hk3.spread, hk3.pk⟩, by have := hlr.out; have := Hj.out; show r.length + (j + 1) = _; omega, ?_, ?_, by go_num, ?_⟩
            · rw [← Hf1.out, Hstep.out.1, hs2, hs]
            · rw [← Hf2.out, Hstep.out.2, hs2, hs]; exact (fun x => by omega : ∀ x : Nat, x + (j + 1) = x + 1 + j) _
            · exact mod_set2 HM2.out HW2.out.1 _ _ _ _
          case measure => have := hlr.out; have := Hj.out; simp [intOf]; omega
        · have ht : (k.times == 1) = false := beq_eq_false_iff_ne.2 h1
          have H1 := Lib.hid h1; clear h1
          go_wp2
          go_roundw
          case rel =>
            have hs : tickW { t with l := r } k = { t with l := r } := by unfold tickW; rw [if_neg H1.out]
            have hs2 : ∀ x, ackL n (tickW t k) x = ackL n (tickW { t with l := r } k) x := fun x => ackL_l n (tickW t k) (tickW { t with l := r } k) (by rw [hs]; unfold tickW; rw [if_neg H1.out]) x
            refine ⟨_, j + 1, HW2.out, Hk2.out, by have := hlr.out; have := Hj.out; show r.length + (j + 1) = _; omega, ?_, ?_, by go_num, HM2.out⟩
            · rw [← Hf1.out, Hstep.out.1, hs2, hs]
            · rw [← Hf2.out, Hstep.out.2, hs2, hs]; exact (fun x => by omega : ∀ x : Nat, x + (j + 1) = x + 1 + j) _
          case measure => have := hlr.out; have := Hj.out; simp [intOf]; omega
      · have Hstep : Hid ((ackL n t t.l).1 = t ∧ (ackL n t t.l).2 = 0) := by
          show _ ∧ _
          rw [Hkr.out, ackL, if_neg hq]
          exact ⟨by show { t with l := k :: r } = t; rw [← Hkr.out], rfl⟩
        go_wp2
        go_ret2
        rw [← Hf1.out, ← Hf2.out, Hstep.out.1, Hstep.out.2, Nat.zero_add]
        exact ⟨rfl, hW, hM⟩
end Go.Proofs.Ytkfcdfcoiglieaa
