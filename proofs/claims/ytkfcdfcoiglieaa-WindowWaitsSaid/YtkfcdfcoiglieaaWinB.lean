/- A window's small functions: when a packet is due, how long it waits, Times, When. Conditions: the window is one (WinRep), its numbers are in their ranges (WinOk). -/
import Derived.Test.YtkfcdfcoiglieaaPush
import Derived.Deep.DeepCutAuto
import Derived.Deep.CutBlock
import Derived.Deep.QuietTactic
namespace Go.Proofs.Ytkfcdfcoiglieaa
open Go.RowKit

/-- A packet's numbers are in their ranges. -/
structure PkOk (now : Int) (k : Pk) : Prop where
  t0 : 0 ≤ k.times
  t1 : k.times ≤ k.at_ + 1
  a1 : k.at_ ≤ now
  a0 : 0 ≤ k.at_
  w1 : k.wait ≤ 60
  w0 : 0 ≤ k.wait
  w2 : 1 ≤ k.times → 2 ≤ k.wait
/-- A window's numbers are in their ranges. -/
structure WinOk (s : Wn) : Prop where
  s1 : 1 ≤ s.size
  s2 : s.size ≤ 64
  len : s.l.length ≤ s.size
  last0 : 0 ≤ s.last
  now0 : 0 ≤ s.now
  now1 : s.now ≤ 2147483647
  mean : nanB s.mean = false
  spread : nanB s.spread = false
  pk : ∀ k ∈ s.l, PkOk s.now k
/-- When a packet is due, at a time. -/
def dueB (k : Pk) (now : Int) : Int := if k.times = 0 then now else k.at_ + k.wait

set_option maxRecDepth 100000 in
set_option maxHeartbeats 400000 in
theorem pdue_any (p : Nat) (k : Pk) (v : Value) (now m : Int) (w : World) (hB : Bk w p 129 (pkCells k v)) (hk : PkOk m k) (hm : m ≤ 2147483647) :
    Calls Try.prog 101 #[ptr p, .int .i64 now] w fun e w' => e = .returned (.int .i64 (dueB k now)) ∧ ∃ n, w' = w.drewN n := by
  unfold pkCells at hB
  have k2 := hB.cellAt (i := 2) rfl
  have k3 := hB.cellAt (i := 3) rfl
  have k4 := hB.cellAt (i := 4) rfl
  clear hB
  obtain ⟨t0, t1, a1, a0, w1, w0, _⟩ := hk
  by_cases h0 : k.times = 0
  · have hb : (k.times == 0) = true := beq_iff_eq.2 h0
    have H0 := Lib.hid h0; clear h0
    go_enter Try.func101, Try.ntmps101
    go_wp2
    go_ret
    exact ⟨by unfold dueB; rw [if_pos H0.out]; rfl, 0, rfl⟩
  · have hb : (k.times == 0) = false := beq_eq_false_iff_ne.2 h0
    have H0 := Lib.hid h0; clear h0
    go_enter Try.func101, Try.ntmps101
    go_wp2
    go_quiet (fail)
    go_wp2
    go_ret
    exact ⟨by unfold dueB; rw [if_neg H0.out]; rfl, _, rfl⟩

/-- A wait is doubled, so many times, as long as it is below the longest. -/
def dbl (n : Int) : Nat → Int
  | 0 => n
  | k + 1 => if n < 60 then dbl (2 * n) k else n
/-- The wait of a packet that is sent for the k-th time. -/
def waitW (s : Wn) (k : Int) : Int := min (dbl (waitF s.mean s.spread : Nat) (k - 1).toNat) 60
theorem dbl_ge (n : Int) (h : 2 ≤ n) : ∀ k, 2 ≤ dbl n k
  | 0 => h
  | k + 1 => by
    unfold dbl
    split
    · exact dbl_ge (2 * n) (by omega) k
    · exact h
termination_by k => k
theorem waitW_range (s : Wn) (k : Int) : 2 ≤ waitW s k ∧ waitW s k ≤ 60 := by
  have h := waitF_range s.mean s.spread
  have := dbl_ge (waitF s.mean s.spread : Nat) (by omega) (k - 1).toNat
  unfold waitW
  omega
set_option maxRecDepth 100000 in
set_option maxHeartbeats 800000 in
theorem wwait_any (g : Nat) (s : Wn) (F : Nat → Prop) (k : Int) (w : World) (h : WinRep w F g s) (hk : k ≤ 9000000000000000000) (hk1 : 1 ≤ k) :
    Calls Try.prog 106 #[ptr g, .int .i64 k] w fun e w' => e = .returned (.int .i64 (waitW s k)) ∧ ∃ n, w' = w.drewN n := by
  obtain ⟨hFg, lv, ps, hB, hO, hnd, hP⟩ := h
  unfold winCells at hB
  have k3 := hB.cellAt (i := 3) rfl
  have k4 := hB.cellAt (i := 4) rfl
  clear hB hO hP hnd hFg
  have hr := waitF_range s.mean s.spread
  go_enter Try.func106, Try.ntmps106
  go_wp2
  go_quiet ((go_at_call 109; exact Calls.quiet_of (wait_any s.mean s.spread _)))
  go_wp2
  go_loop [1, 5] (fun u1 u5 => ∃ (j : Int) (n : Int), 1 ≤ j ∧ j ≤ k ∧ 2 ≤ n ∧ n ≤ 119 ∧ u1 = .int .i64 j ∧ u5 = .int .i64 n ∧ dbl n (j - 1).toNat = dbl (waitF s.mean s.spread : Nat) (k - 1).toNat) (fun u1 u5 => (intOf u1).toNat)
  case atStart => exact ⟨k, _, hk1, Int.le_refl _, by omega, by omega, rfl, rfl, rfl⟩
  case round =>
    obtain ⟨j, n, hj1, hj2, hn1, hn2, rfl, rfl, hd⟩ := hrel
    have Hd := Lib.hid hd; clear hd
    by_cases h1 : 1 < j
    · by_cases h2 : n < 60
      · go_wp2
        go_round
        case rel =>
          refine ⟨j - 1, n * 2, by omega, by omega, by omega, by omega, rfl, rfl, ?_⟩
          rw [← Hd.out, show (j - 1).toNat = (j - 1 - 1).toNat + 1 from by omega, dbl, if_pos h2, Int.mul_comm]
        case measure => simp [intOf]; omega
      · have e : dbl n (j - 1).toNat = n := by
          rw [show (j - 1).toNat = (j - 1 - 1).toNat + 1 from by omega, dbl, if_neg h2]
        have Hr : Hid (waitW s k = min n 60) := by show _ = _; unfold waitW; rw [← Hd.out, e]
        clear e
        go_wp2
        all_goals
          go_ret
          exact ⟨ret_int (by rw [Hr.out]; omega), _, rfl⟩
    · have e : dbl n (j - 1).toNat = n := by
        rw [show (j - 1).toNat = 0 from by omega, dbl]
      have Hr : Hid (waitW s k = min n 60) := by show _ = _; unfold waitW; rw [← Hd.out, e]
      clear e
      go_wp2
      all_goals
        go_ret
        exact ⟨ret_int (by rw [Hr.out]; omega), _, rfl⟩

set_option maxRecDepth 100000 in
set_option maxHeartbeats 400000 in
theorem wtimes_any (g : Nat) (s : Wn) (F : Nat → Prop) (w : World) (h : WinRep w F g s) (hs : 1 ≤ s.size) :
    Calls Try.prog 74 #[ptr g] w fun e w' => e = .returned (.tuple #[.float .f64 s.mean, .float .f64 s.spread]) ∧ ∃ n, w' = w.drewN n := by
  obtain ⟨_, lv, ps, hB, _⟩ := h
  unfold winCells at hB
  have k0 := hB.cellAt (i := 0) rfl
  have k3 := hB.cellAt (i := 3) rfl
  have k4 := hB.cellAt (i := 4) rfl
  clear hB
  go_enter Try.func74, Try.ntmps74
  go_wp2_with fail
  refine (none_not g s.size _ k0 hs).mono ?_
  rintro e w1 ⟨rfl, rfl⟩
  go_wp2
  go_quiet (fail)
  go_wp2
  go_ret2
  exact ⟨rfl, _, rfl⟩
/-- What a window is, laid open. -/
theorem WinRep.open {w : World} {F : Nat → Prop} {g : Nat} {s : Wn} (h : WinRep w F g s) : ∃ (A : Option Addr) (c : Nat) (ps : List Nat), Bk w g 93 (winCells s (.slice A s.l.length c)) ∧ s.l.length ≤ c ∧ c ≤ 9223372036854775807 ∧
    OwnF isP w F 127 (.slice A s.l.length c) (ps.map ptr) ∧ ps.Nodup ∧ PksRep w F ps s.l ∧
    (s.l ≠ [] → ∃ b o, A = some ⟨b, o, none⟩ ∧ ∀ (i : Nat) (k : Pk), s.l[i]? = some k → ∃ p v, ps[i]? = some p ∧ w.cell? ⟨b, o + i, none⟩ = some (ptr p) ∧ F p ∧ Bk w p 129 (pkCells k v) ∧ OwnF isB w F 5 v (k.body.map bv)) := by
  obtain ⟨hFg, lv, ps, hB, hO, hnd, hP⟩ := h
  obtain ⟨A, c, rfl, h1, h2, h3⟩ := hO.1.rd
  rw [List.length_map, hP.1] at hB hO h1
  unfold maxLen at h2
  refine ⟨A, c, ps, hB, h1, h2, hO, hnd, hP, fun hne => ?_⟩
  have hpos : 0 < s.l.length := List.length_pos_iff.2 hne
  obtain ⟨b, o, e, hx⟩ := h3 (by omega)
  refine ⟨b, o, e, fun i k hk => ?_⟩
  have hi : i < s.l.length := (List.getElem?_eq_some_iff.1 hk).1
  have hi' : i < ps.length := by rw [hP.1]; exact hi
  obtain ⟨q1, v, q2, q3⟩ := hP.2 i ps[i] k (List.getElem?_eq_getElem hi') hk
  exact ⟨ps[i], v, List.getElem?_eq_getElem hi', hx i (ptr ps[i]) (by simp [hi']), q1, q2, q3⟩
/-- What When tells. -/
def leastL (now : Int) (m : Int) (l : List Pk) : Int := l.foldl (fun m k => min m (dueB k now)) m
def whenW (s : Wn) : Value := match s.l with
  | [] => .tuple #[.int .i64 0, .bool false]
  | k :: _ => .tuple #[.int .i64 (leastL s.now (dueB k s.now) s.l), .bool true]
theorem leastL_take {now m : Int} {l : List Pk} {i : Nat} {k : Pk} (h : l[i]? = some k) : leastL now m (l.take (i + 1)) = min (leastL now m (l.take i)) (dueB k now) := by
  obtain ⟨hi, hk⟩ := List.getElem?_eq_some_iff.1 h
  rw [List.take_succ_eq_append_getElem hi]
  unfold leastL
  rw [List.foldl_append, hk]; rfl
set_option maxRecDepth 100000 in
set_option maxHeartbeats 1600000 in
theorem wwhen_any (g : Nat) (s : Wn) (F : Nat → Prop) (w : World) (h : WinRep w F g s) (hk : WinOk s) :
    Calls Try.prog 71 #[ptr g] w fun e w' => e = .returned (whenW s) ∧ ∃ n, w' = w.drewN n := by
  obtain ⟨A, c, ps, hB, hc1, hc2, _, _, _, hx⟩ := h.open
  unfold winCells at hB
  have k0 := hB.cellAt (i := 0) rfl
  have k2 := hB.cellAt (i := 2) rfl
  have k5 := hB.cellAt (i := 5) rfl
  clear hB h
  have hs := hk.s1; have hs2 := hk.s2; have hl := hk.len; have hn1 := hk.now1
  have HK := Lib.hid hk.pk
  clear hk
  by_cases he : s.l.length = 0
  · have hnil : s.l = [] := List.eq_nil_of_length_eq_zero he
    have Hr : Hid (whenW s = .tuple #[.int .i64 0, .bool false]) := by show _ = _; unfold whenW; rw [hnil]
    have hb : ((s.l.length : Int) == 0) = true := by rw [he]; rfl
    clear hx hnil
    have He := Lib.hid he; clear he
    go_enter Try.func71, Try.ntmps71
    go_wp2_with fail
    refine (none_not g s.size _ k0 hs).mono ?_
    rintro e w1 ⟨rfl, rfl⟩
    go_wp2
    go_ret2
    exact ⟨by rw [Hr.out]; rfl, 0, rfl⟩
  · have hne : s.l ≠ [] := fun e => he (by rw [e]; rfl)
    obtain ⟨b, o, rfl, hx1⟩ := hx hne
    clear hx
    have hb : ((s.l.length : Int) == 0) = false := beq_eq_false_iff_ne.2 (by omega)
    have hpos : 0 < s.l.length := by omega
    have h0 : s.l[0]? = some s.l[0] := List.getElem?_eq_getElem hpos
    have Hr : Hid (whenW s = .tuple #[.int .i64 (leastL s.now (dueB s.l[0] s.now) s.l), .bool true]) := by
      show _ = _
      unfold whenW
      match hs : s.l, hpos with
      | k :: r, _ => simp
    have Hx := Lib.hid hx1
    obtain ⟨p, v, _, kp, _, hpB, _⟩ := hx1 0 _ h0
    rw [Nat.add_zero] at kp
    have hko := HK.out _ (List.getElem_mem hpos)
    clear hx1 he hne
    have H0 := Lib.hid h0; clear h0
    have hpd := fun n => Calls.quiet_of (n := n) (pdue_any p s.l[0] v s.now s.now (w.drewN n) (by exact hpB) hko hn1)
    go_enter Try.func71, Try.ntmps71
    go_wp2_with fail
    refine (none_not g s.size _ k0 hs).mono ?_
    rintro e w1 ⟨rfl, rfl⟩
    go_wp2
    have Hpd := Lib.hid hpd; clear hpd
    go_quiet ((go_at_call 101; exact Hpd.out _))
    clear kp hpB
    go_wp2
    go_loopw [4, 33] (fun u4 u33 wr => ∃ (i : Nat), i ≤ s.l.length ∧ u33 = .int .i64 i ∧ u4 = .int .i64 (leastL s.now (dueB s.l[0] s.now) (s.l.take i)) ∧ ∃ n, wr = w.drewN n) (fun _ u33 _ => s.l.length - (intOf u33).toNat)
    case atStart => exact ⟨0, Nat.zero_le _, rfl, rfl, _, rfl⟩
    case round =>
      obtain ⟨i, hi, rfl, rfl, n, rfl⟩ := hrel
      by_cases hlt : i < s.l.length
      · have hik : s.l[i]? = some s.l[i] := List.getElem?_eq_getElem hlt
        have Ht : Hid (_ = _) := leastL_take (now := s.now) (m := dueB s.l[0] s.now) hik
        obtain ⟨q, vq, _, kq, _, hqB, _⟩ := Hx.out i _ hik
        have hqo := HK.out _ (List.getElem_mem hlt)
        clear hik
        go_wp2_with fail
        refine (pdue_any q s.l[i] vq s.now s.now _ (by exact hqB) hqo hn1).mono ?_
        rintro e w2 ⟨rfl, n2, rfl⟩
        go_wp2
        all_goals
          go_roundw
          case rel => exact ⟨i + 1, by omega, by go_num, by rw [Ht.out]; exact congrArg (Value.int .i64) (by omega), n + n2, rfl⟩
          case measure => simp [intOf]; omega
      · have hil : i = s.l.length := by omega
        subst hil
        have Hr2 : Hid (whenW s = .tuple #[.int .i64 (leastL s.now (dueB s.l[0] s.now) (s.l.take s.l.length)), .bool true]) := by show _ = _; rw [Hr.out, List.take_length]
        go_wp2
        go_ret2
        exact ⟨by rw [Hr2.out]; rfl, _, rfl⟩
end Go.Proofs.Ytkfcdfcoiglieaa
