/- A window's operations, as its users call them: the window is one, its numbers are in their ranges before and behind each. -/
import Derived.Test.YtkfcdfcoiglieaaDue
namespace Go.Proofs.Ytkfcdfcoiglieaa
open Go.RowKit

theorem pushW_ok {s : Wn} {b : List UInt8} (h : WinOk s) (hf : s.l.length < s.size) : WinOk (pushW s b) := by
  refine ⟨h.s1, h.s2, ?_, ?_, h.now0, h.now1, h.mean, h.spread, fun k hk => ?_⟩
  · show (((s.l ++ [_]).length : Nat) : Int) ≤ s.size; simp; omega
  · have := h.last0; show 0 ≤ s.last + 1; omega
  · rcases List.mem_append.1 (show k ∈ s.l ++ [_] from hk) with hk | hk
    · exact h.pk k hk
    · rw [List.mem_singleton.1 hk]
      have := h.now0
      exact ⟨(by decide : (0 : Int) ≤ 0), (by decide : (0 : Int) ≤ 0 + 1), this, (by decide : (0 : Int) ≤ 0), (by decide : (0 : Int) ≤ 60), (by decide : (0 : Int) ≤ 0), fun h => absurd (show (1 : Int) ≤ 0 from h) (by decide)⟩
theorem ackL_ok (n : Int) : ∀ (x : List Pk) (s : Wn), WinOk { s with l := x } → WinOk (ackL n s x).1
  | [], s, h => h
  | p :: r, s, h => by
    unfold ackL
    split
    · refine ackL_ok n r (tickW s p) ?_
      have hr : WinOk { s with l := r } := ⟨h.s1, h.s2, by have := h.len; simp only [List.length_cons] at this; show ((r.length : Nat) : Int) ≤ s.size; omega, h.last0, h.now0, h.now1, h.mean, h.spread, fun k hk => h.pk k (List.mem_cons_of_mem _ hk)⟩
      unfold tickW
      split
      · exact ⟨hr.s1, hr.s2, hr.len, hr.last0, hr.now0, hr.now1, meanF_num hr.mean, spreadF_num hr.spread, hr.pk⟩
      · exact hr
    · exact h
theorem tickW_same (s : Wn) (p : Pk) : (tickW s p).size = s.size ∧ (tickW s p).last = s.last ∧ (tickW s p).now = s.now := by
  unfold tickW; split <;> exact ⟨rfl, rfl, rfl⟩
theorem ackL_same (n : Int) : ∀ (x : List Pk) (s : Wn), (ackL n s x).1.size = s.size ∧ (ackL n s x).1.last = s.last ∧ (ackL n s x).1.now = s.now ∧ (ackL n s x).1.l = x.drop (ackL n s x).2 ∧ (ackL n s x).2 ≤ x.length
  | [], s => ⟨rfl, rfl, rfl, rfl, Nat.le_refl _⟩
  | p :: r, s => by
    unfold ackL
    split
    · obtain ⟨h1, h2, h3, h4, h5⟩ := ackL_same n r (tickW s p)
      obtain ⟨t1, t2, t3⟩ := tickW_same s p
      exact ⟨h1.trans t1, h2.trans t2, h3.trans t3, by rw [h4]; rfl, by simp; omega⟩
    · exact ⟨rfl, rfl, rfl, rfl, Nat.zero_le _⟩
theorem ackW_ok {s : Wn} {n now : Int} (h : WinOk s) (h0 : 0 ≤ now) (h1 : now ≤ 2147483647) : WinOk (ackW n now s).1 :=
  ackL_ok n s.l (nowW s now) (nowW_ok h h0 h1)
theorem dueW_ok {s : Wn} {now : Int} (h : WinOk s) (h0 : 0 ≤ now) (h1 : now ≤ 2147483647) : WinOk (dueW now s) := by
  have hn := nowW_ok h h0 h1
  refine ⟨hn.s1, hn.s2, ?_, hn.last0, hn.now0, hn.now1, hn.mean, hn.spread, fun k hk => ?_⟩
  · have := hn.len; show (((s.l.map _).length : Nat) : Int) ≤ _; rw [List.length_map]; exact this
  · obtain ⟨k0, hk0, rfl⟩ := List.mem_map.1 (show k ∈ s.l.map (dueP (nowW s now)) from hk)
    have hp := hn.pk k0 hk0
    unfold dueP
    split
    · rename_i hd
      have hd : dueB k0 (nowW s now).now ≤ (nowW s now).now := of_decide_eq_true hd
      have hw := waitW_range (nowW s now) (k0.times + 1)
      have hnow0 := hn.now0
      refine ⟨by have := hp.t0; show 0 ≤ k0.times + 1; omega, ?_, Int.le_refl _, hn.now0, hw.2, by have := hw.1; show 0 ≤ waitW _ _; omega, fun _ => hw.1⟩
      show k0.times + 1 ≤ (nowW s now).now + 1
      by_cases ht : k0.times = 0
      · omega
      · unfold dueB at hd
        rw [if_neg ht] at hd
        have := hp.t1; have := hp.t0; have := hp.w2 (by omega)
        omega
    · exact hp
/-- Block g is window s; F are its blocks, all there. -/
structure Win (w : World) (F : Nat → Prop) (g : Nat) (s : Wn) : Prop where
  rep : WinRep w F g s
  ok : WinOk s
  lt : ∀ k, F k → k < w.heap.size
  body : ∀ k ∈ s.l, k.body.length ≤ 1000000000
/-- The blocks of F, and those that came. -/
def Grown (w w' : World) (F : Nat → Prop) : Nat → Prop := fun k => (F k ∨ w.heap.size ≤ k) ∧ k < w'.heap.size
theorem Win.mod {w w' : World} {F S : Nat → Prop} {g : Nat} {s : Wn} (h : Win w F g s) (hm : Mod S w w') (hS : ∀ k, F k → ¬ S k) : Win w' F g s :=
  ⟨h.rep.mod hm hS, h.ok, fun k hk => Nat.lt_of_lt_of_le (h.lt k hk) hm.size, h.body⟩
theorem Win.new_ {w w' : World} {F : Nat → Prop} {g : Nat} {s : Wn} (h : Win w F g s) (hn : New w w') : Win w' F g s := h.mod (Mod.of_new hn (fun _ => False)) (fun _ _ h => h)
theorem win_new (n : Int) (w : World) (h1 : 1 ≤ n) (h2 : n ≤ 64) : Calls Try.prog 64 #[.int .i64 n] w fun e w' =>
    e = .returned (.tuple #[ptr w.heap.size, .int .i64 0]) ∧ Win w' (fun k => k = w.heap.size) w.heap.size (newWn n) ∧ New w w' :=
  (wnew_any n w h1 h2).mono fun _ _ ⟨he, hr, hn, hz⟩ => ⟨he, ⟨hr, ⟨h1, h2, by show ((([] : List Pk).length : Nat) : Int) ≤ n; simp; omega, (by decide : (0 : Int) ≤ 0), (by decide : (0 : Int) ≤ 0), (by decide : (0 : Int) ≤ 2147483647), (by decide +kernel : nanB 4616189618054758400 = false), (by decide +kernel : nanB 4607182418800017408 = false), fun k hk => by cases hk⟩, fun k hk => by omega, fun k hk => by cases hk⟩, hn⟩
theorem win_push (g : Nat) (s : Wn) (F : Nat → Prop) (v : Value) (b : List UInt8) (w : World) (h : Win w F g s) (hf : s.l.length < s.size) (hl : s.last ≤ 2147483647) (hb : RB w v b) (hbl : b.length ≤ 1000000000) :
    Calls Try.prog 65 #[ptr g, v] w fun e w' => e = .returned (.tuple #[.int .i64 (s.last + 1), .int .i64 0]) ∧ Win w' (Grown w w' F) g (pushW s b) ∧ Mod F w w' :=
  (push_ok g s F v b w h.rep h.ok.s1 h.ok.s2 hf h.ok.last0 hl hb hbl).mono fun _ _ ⟨he, hr, hm⟩ => ⟨he, ⟨hr.cut, pushW_ok h.ok hf, fun k hk => hk.2, fun k hk => by
    rcases List.mem_append.1 (show k ∈ s.l ++ [_] from hk) with hk | hk
    · exact h.body k hk
    · rw [List.mem_singleton.1 hk]; exact hbl⟩, hm⟩
/-- The same, the number given. -/
theorem win_push1 (m : Int) (g : Nat) (s : Wn) (F : Nat → Prop) (v : Value) (b : List UInt8) (w : World) (h : Win w F g s) (hf : s.l.length < s.size) (hl : s.last ≤ 2147483647) (hb : RB w v b) (hbl : b.length ≤ 1000000000) (hm : m = s.last + 1) :
    Calls Try.prog 65 #[ptr g, v] w fun e w' => e = .returned (.tuple #[.int .i64 m, .int .i64 0]) ∧ Win w' (Grown w w' F) g (pushW s b) ∧ Mod F w w' := by
  rw [hm]; exact win_push g s F v b w h hf hl hb hbl
theorem win_full (g : Nat) (s : Wn) (F : Nat → Prop) (v : Value) (w : World) (h : Win w F g s) (hf : s.size ≤ s.l.length) :
    Calls Try.prog 65 #[ptr g, v] w fun e w' => e = .returned (.tuple #[.int .i64 0, .int .i64 8]) ∧ New w w' := push_full g s F v w h.rep h.ok.s1 hf
theorem ackW_mem {s : Wn} {n now : Int} {k : Pk} (h : k ∈ (ackW n now s).1.l) : k ∈ s.l := by
  have := (ackL_same n s.l (nowW s now)).2.2.2.1
  unfold ackW at h
  rw [this] at h
  exact List.mem_of_mem_drop h
theorem win_ack (g : Nat) (s : Wn) (F : Nat → Prop) (n now : Int) (w : World) (h : Win w F g s) (hn0 : 0 ≤ n) (hn1 : n ≤ s.last) (ht0 : 0 ≤ now) (ht1 : now ≤ 2147483647) :
    Calls Try.prog 66 #[ptr g, .int .i64 n, .int .i64 now] w fun e w' => e = .returned (.tuple #[.int .i64 ((ackW n now s).2 : Nat), .int .i64 0]) ∧ Win w' F g (ackW n now s).1 ∧ Mod F w w' :=
  (wack_ok g s F n now w h.rep h.ok hn0 hn1 ht0 ht1).mono fun _ _ ⟨he, hr, hm⟩ => ⟨he, ⟨hr, ackW_ok h.ok ht0 ht1, fun k hk => Nat.lt_of_lt_of_le (h.lt k hk) hm.size, fun k hk => h.body k (ackW_mem hk)⟩, hm⟩
theorem win_due (g : Nat) (s : Wn) (F : Nat → Prop) (now : Int) (w : World) (h : Win w F g s) (ht0 : 0 ≤ now) (ht1 : now ≤ 2147483647) :
    Calls Try.prog 67 #[ptr g, .int .i64 now] w fun e w' => ∃ v, e = .returned v ∧ PkRow w' w.heap.size v (outW now s) ∧ Win w' F g (dueW now s) ∧ Mod F w w' :=
  (wdue_ok g s F now w h.rep h.ok h.lt ht0 ht1 h.body).mono fun _ _ ⟨v, he, hp, hr, hm⟩ => ⟨v, he, hp, ⟨hr, dueW_ok h.ok ht0 ht1, fun k hk => Nat.lt_of_lt_of_le (h.lt k hk) hm.size, fun k hk => by
    obtain ⟨k0, hk0, rfl⟩ := List.mem_map.1 (show k ∈ s.l.map (dueP (nowW s now)) from hk)
    have := h.body k0 hk0
    unfold dueP; split <;> exact this⟩, hm⟩
theorem win_when (g : Nat) (s : Wn) (F : Nat → Prop) (w : World) (h : Win w F g s) : Calls Try.prog 71 #[ptr g] w fun e w' => e = .returned (whenW s) ∧ ∃ n, w' = w.drewN n := wwhen_any g s F w h.rep h.ok

/-- What is refused. -/
def ackBad (s : Wn) (n now : Int) : Prop := n < 0 ∨ s.last < n ∨ now < 0 ∨ 2147483647 < now
set_option maxRecDepth 100000 in
set_option maxHeartbeats 800000 in
theorem win_ack_bad (g : Nat) (s : Wn) (F : Nat → Prop) (n now : Int) (w : World) (h : Win w F g s) (hb : ackBad s n now) :
    Calls Try.prog 66 #[ptr g, .int .i64 n, .int .i64 now] w fun e w' => e = .returned (.tuple #[.int .i64 0, .int .i64 5]) ∧ w = w' := by
  obtain ⟨A, c, ps, hB, hc1, hc2, _, _, _, _⟩ := h.rep.open
  unfold winCells at hB
  have k0 := hB.cellAt (i := 0) rfl
  have k1 := hB.cellAt (i := 1) rfl
  have hs := h.ok.s1
  clear hB h
  by_cases h1 : n < 0
  · clear hb
    go_enter Try.func66, Try.ntmps66
    go_wp2_with fail
    refine (none_not g s.size _ k0 hs).mono ?_
    rintro e w1 ⟨rfl, rfl⟩
    go_wp2_with fail
    go_ret2
    exact ⟨rfl, rfl⟩
  · by_cases h2 : s.last < n
    · clear hb
      go_enter Try.func66, Try.ntmps66
      go_wp2_with fail
      refine (none_not g s.size _ k0 hs).mono ?_
      rintro e w1 ⟨rfl, rfl⟩
      go_wp2_with fail
      go_ret2
      exact ⟨rfl, rfl⟩
    · have htb : timeB now = false := by
        rcases hb with hb | hb | hb | hb
        · exact absurd hb h1
        · exact absurd hb h2
        · exact decide_eq_false (fun h => by omega)
        · exact decide_eq_false (fun h => by omega)
      clear hb
      go_enter Try.func66, Try.ntmps66
      go_wp2_with fail
      refine (none_not g s.size _ k0 hs).mono ?_
      rintro e w1 ⟨rfl, rfl⟩
      go_wp2_with fail
      refine (wtime_any now _).mono ?_
      rintro e w1 ⟨rfl, rfl⟩
      go_wp2_with fail
      go_ret2
      exact ⟨rfl, rfl⟩
set_option maxRecDepth 100000 in
set_option maxHeartbeats 800000 in
theorem win_due_bad (g : Nat) (s : Wn) (F : Nat → Prop) (now : Int) (w : World) (h : Win w F g s) (hb : now < 0 ∨ 2147483647 < now) :
    Calls Try.prog 67 #[ptr g, .int .i64 now] w fun e w' => e = .returned (.slice none 0 0) ∧ w = w' := by
  obtain ⟨A, c, ps, hB, hc1, hc2, _, _, _, _⟩ := h.rep.open
  unfold winCells at hB
  have k0 := hB.cellAt (i := 0) rfl
  have hs := h.ok.s1
  clear hB h
  have htb : timeB now = false := decide_eq_false (fun h => by omega)
  clear hb
  refine callsIn_wide (n := 5).1 ?_
  refine callsIn_of_wp_marks Try.func67 rfl trivial ?_ rfl
  simp only [Try.ntmps67, List.size_toArray, List.length_cons, List.length_nil, Nat.reduceAdd, Nat.reduceSub, Array.replicate_succ, Array.replicate_zero, List.push_toArray, List.append_toArray, List.nil_append, List.cons_append]
  gi_wp2_with fail
  refine ⟨trivial, callsIn_wide.2 ((none_not g s.size _ k0 hs).mono ?_)⟩
  rintro e w1 ⟨rfl, rfl⟩
  gi_wp2_with fail
  refine ⟨trivial, callsIn_wide.2 ((wtime_any now _).mono ?_)⟩
  rintro e w1 ⟨rfl, rfl⟩
  gi_wp2
  exact ⟨_, results_tmp rfl _ _ _, rfl, rfl⟩
end Go.Proofs.Ytkfcdfcoiglieaa
