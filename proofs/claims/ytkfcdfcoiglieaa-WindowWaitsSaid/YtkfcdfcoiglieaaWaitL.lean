/- WindowWaits in plain Lean: what stands at each tick of a window's packets, of when they were sent, of how long they waited. Conditions: the structure Wt says them. -/
import Derived.Test.YtkfcdfcoiglieaaWBound
namespace Go.Proofs.Ytkfcdfcoiglieaa
open Go.RowKit

/-- A row of numbers in a block. -/
def Arr (w : World) (b L : Nat) (S : Nat → Int) : Prop := ∃ cs, Bk w b 3 cs ∧ cs.size = L ∧ ∀ i, i < L → cs[i]? = some (.int .i64 (S i))
def upd (S : Nat → Int) (n : Nat) (v : Int) : Nat → Int := fun m => if m = n then v else S m
theorem upd_at (S : Nat → Int) (n : Nat) (v : Int) : upd S n v n = v := by unfold upd; rw [if_pos rfl]
theorem upd_far (S : Nat → Int) {n m : Nat} (v : Int) (h : m ≠ n) : upd S n v m = S m := by unfold upd; rw [if_neg h]
theorem Arr.lt {w : World} {b L : Nat} {S : Nat → Int} (h : Arr w b L S) : b < w.heap.size := by obtain ⟨cs, h1, _⟩ := h; exact h1.lt
theorem Arr.cell {w : World} {b L : Nat} {S : Nat → Int} (h : Arr w b L S) {i : Nat} (hi : i < L) : w.cell? ⟨b, i, none⟩ = some (.int .i64 (S i)) := by
  obtain ⟨cs, h1, _, h3⟩ := h; exact h1.cellAt (h3 i hi)
theorem Arr.frozen {w : World} {b L : Nat} {S : Nat → Int} (h : Arr w b L S) (i : Nat) : w.frozen? ⟨b, i, none⟩ = false := by
  obtain ⟨cs, h1, _⟩ := h; exact h1.frozen i
theorem Arr.new_ {w w' : World} {b L : Nat} {S : Nat → Int} (h : Arr w b L S) (hn : New w w') : Arr w' b L S := by
  obtain ⟨cs, h1, h2, h3⟩ := h; exact ⟨cs, h1.new_ hn, h2, h3⟩
theorem Arr.mod {w w' : World} {b L : Nat} {S : Nat → Int} {F : Nat → Prop} (h : Arr w b L S) (hm : Mod F w w') (hb : ¬ F b) : Arr w' b L S := by
  obtain ⟨cs, h1, h2, h3⟩ := h; exact ⟨cs, h1.mod hm hb, h2, h3⟩
theorem Arr.far {w : World} {b c i L : Nat} {S : Nat → Int} (h : Arr w b L S) (hb : b ≠ c) (u : Value) : Arr (w.setCell ⟨c, i, none⟩ u) b L S := by
  obtain ⟨cs, h1, h2, h3⟩ := h; exact ⟨cs, h1.far hb u, h2, h3⟩
theorem Arr.set {w : World} {b L : Nat} {S : Nat → Int} (h : Arr w b L S) {i : Nat} (hi : i < L) (v : Int) : Arr (w.setCell ⟨b, i, none⟩ (.int .i64 v)) b L (upd S i v) := by
  obtain ⟨cs, h1, h2, h3⟩ := h
  refine ⟨_, h1.set_ i _, by simp [h2], fun j hj => ?_⟩
  by_cases e : j = i
  · subst e
    rw [upd_at, Array.getElem?_setIfInBounds]; simp [h2, hj]
  · rw [upd_far _ _ e, Array.getElem?_setIfInBounds, if_neg (fun h => e h.symm)]; exact h3 j hj
theorem arr_zero {w : World} {b L : Nat} (h : Bk w b 3 (Array.replicate L (.int .i64 0))) : Arr w b L (fun _ => 0) := by
  refine ⟨_, h, by simp, fun i hi => by simp [hi]⟩
theorem mod_set (w : World) (b i : Nat) (u : Value) : Mod (fun k => k = b) w (w.setCell ⟨b, i, none⟩ u) := ⟨rfl, rfl, rfl, by simp, fun k _ hk => heap_setCell_other w ⟨b, i, none⟩ k _ hk⟩

/-- What stands ahead of a tick. -/
structure Wt (s : Wn) (many : Nat) (acked now : Int) (S D : Nat → Int) : Prop where
  num : Num s acked
  last : s.last = many
  nw : s.now ≤ now
  body : ∀ k ∈ s.l, k.body = [UInt8.ofNat k.seq.toNat]
  st : ∀ k ∈ s.l, (k.times = 0 ∧ S k.seq.toNat = -1) ∨ (1 ≤ k.times ∧ S k.seq.toNat = k.at_ ∧ now - k.at_ ≤ k.wait)
  first : acked = 0 → s.mean = 4616189618054758400 ∧ s.spread = 4607182418800017408 ∧ ∀ k ∈ s.l, (k.times = 0 → D k.seq.toNat ≤ 0) ∧ (1 ≤ k.times → D k.seq.toNat ≤ k.wait ∧ k.wait = waitW s k.times)
theorem wt_new (n : Int) (S D : Nat → Int) : Wt (newWn n) 0 0 0 S D :=
  ⟨num_new n, rfl, Int.le_refl _, fun k hk => (by cases hk), fun k hk => (by cases hk), fun _ => ⟨rfl, rfl, fun k hk => (by cases hk)⟩⟩
theorem Wt.seq {s : Wn} {many : Nat} {acked now : Int} {S D : Nat → Int} (h : Wt s many acked now S D) {k : Pk} (hk : k ∈ s.l) : acked < k.seq ∧ k.seq ≤ many ∧ 0 ≤ acked := by
  obtain ⟨i, hi⟩ := List.getElem?_of_mem hk
  have h1 := h.num.seq i k hi
  have h2 := h.num.last
  have h3 := h.last
  have h4 := h.num.a0
  have : i < s.l.length := (List.getElem?_eq_some_iff.1 hi).1
  omega
theorem wt_push {s : Wn} {m : Nat} {S : Nat → Int} (h : Wt s m 0 0 S (fun _ => 0)) : Wt (pushW s [UInt8.ofNat (m + 1)]) (m + 1) 0 0 (upd S (m + 1) (-1)) (fun _ => 0) := by
  have key : ∀ k ∈ (pushW s [UInt8.ofNat (m + 1)]).l, (k ∈ s.l ∧ k.seq.toNat ≠ m + 1) ∨ k = ⟨m + 1, [UInt8.ofNat (m + 1)], 0, 0, 0⟩ := by
    intro k hk
    rcases List.mem_append.1 (show k ∈ s.l ++ [_] from hk) with hk | hk
    · have := h.seq hk
      exact .inl ⟨hk, by omega⟩
    · right; rw [List.mem_singleton.1 hk, h.last]
  refine ⟨num_push h.num, by show s.last + 1 = _; rw [h.last]; omega, h.nw, fun k hk => ?_, fun k hk => ?_, fun _ => ⟨(h.first rfl).1, (h.first rfl).2.1, fun k hk => ?_⟩⟩
  · rcases key k hk with ⟨hk, _⟩ | rfl
    · exact h.body k hk
    · show [UInt8.ofNat (m + 1)] = [UInt8.ofNat ((m : Int) + 1).toNat]
      rw [show ((m : Int) + 1).toNat = m + 1 from by omega]
  · rcases key k hk with ⟨hk, hne⟩ | rfl
    · rw [upd_far _ _ hne]; exact h.st k hk
    · left
      refine ⟨rfl, ?_⟩
      show upd S (m + 1) (-1) ((m : Int) + 1).toNat = -1
      rw [show ((m : Int) + 1).toNat = m + 1 from by omega, upd_at]
  · rcases key k hk with ⟨hk, hne⟩ | rfl
    · exact (h.first rfl).2.2 k hk
    · exact ⟨fun _ => Int.le_refl _, fun h => absurd (show (1 : Int) ≤ 0 from h) (by decide)⟩
theorem ackW_zero {s : Wn} {now : Int} (h : Num s 0) : (ackW 0 now s).1 = nowW s now := by
  unfold ackW
  match hl : s.l with
  | [] =>
    show ({ nowW s now with l := [] } : Wn) = _
    rw [← hl]; rfl
  | k :: r =>
    have := h.seq 0 k (by rw [hl]; rfl)
    unfold ackL
    rw [if_neg (by omega)]
    show ({ nowW s now with l := k :: r } : Wn) = _
    rw [← hl]; rfl
theorem ackW_now' (s : Wn) (n now : Int) : (ackW n now s).1.now = max s.now now := (ackL_same n s.l (nowW s now)).2.2.1
theorem wt_ack {s : Wn} {many : Nat} {now upto : Int} {S D : Nat → Int} (h : Wt s many 0 now S D) (h0 : 0 ≤ upto) (h1 : upto ≤ many) :
    ((ackW upto now s).2 : Int) = upto ∧ Wt (ackW upto now s).1 many upto now S D := by
  obtain ⟨n1, n2⟩ := num_ack (now := now) h.num (n := upto) (by rw [h.last]; exact h1)
  have e : max (upto - 0) 0 = upto := by omega
  rw [e] at n1
  rw [e, show (0 : Int) + upto = upto from by omega] at n2
  refine ⟨n1, n2, ?_, ?_, fun k hk => h.body k (ackW_mem hk), fun k hk => h.st k (ackW_mem hk), fun hz => ?_⟩
  · rw [ackW_last]; exact h.last
  · rw [ackW_now']; have := h.nw; omega
  · subst hz
    rw [ackW_zero h.num]
    exact h.first rfl
theorem wt_inc {s : Wn} {many : Nat} {acked now : Int} {S D : Nat → Int} (h : Wt s many acked now S D) : s.l.Pairwise (fun a b => a.seq < b.seq) := by
  rw [List.pairwise_iff_getElem]
  intro i j hi hj hij
  have h1 := h.num.seq i _ (List.getElem?_eq_getElem hi)
  have h2 := h.num.seq j _ (List.getElem?_eq_getElem hj)
  omega
theorem dbl_mono (n : Int) (h : 2 ≤ n) : ∀ k, dbl n k ≤ dbl n (k + 1)
  | 0 => by
    show n ≤ if n < 60 then 2 * n else n
    split <;> omega
  | k + 1 => by
    unfold dbl
    split
    · exact dbl_mono (2 * n) (by omega) k
    · exact Int.le_refl _
termination_by k => k
theorem waitW_mono (s : Wn) (k : Int) (hk : 1 ≤ k) : waitW s k ≤ waitW s (k + 1) := by
  unfold waitW
  have h := waitF_range s.mean s.spread
  have := dbl_mono (waitF s.mean s.spread : Nat) (by omega) (k - 1).toNat
  rw [show (k + 1 - 1).toNat = (k - 1).toNat + 1 from by omega]
  omega
theorem waitW_same {s t : Wn} (h1 : s.mean = t.mean) (h2 : s.spread = t.spread) (k : Int) : waitW s k = waitW t k := by unfold waitW; rw [h1, h2]
/-- What is due. -/
theorem wt_out {s : Wn} {many : Nat} {acked now : Int} {S D : Nat → Int} (h : Wt s many acked now S D) (hw : WinOk s) {k : Pk} (hk : k ∈ outW now s) :
    k ∈ s.l ∧ (S k.seq.toNat = -1 ∨ (0 ≤ S k.seq.toNat ∧ 2 ≤ now - S k.seq.toNat ∧ (acked = 0 → D k.seq.toNat ≤ now - S k.seq.toNat))) := by
  obtain ⟨hm, hd⟩ := List.mem_filter.1 hk
  have hd : dueB k (max s.now now) ≤ max s.now now := of_decide_eq_true hd
  rw [show max s.now now = now from by have := h.nw; omega] at hd
  refine ⟨hm, ?_⟩
  have hp := hw.pk k hm
  rcases h.st k hm with ⟨_, h2⟩ | ⟨h1, h2, h3⟩
  · exact .inl h2
  · right
    unfold dueB at hd
    rw [if_neg (by omega)] at hd
    rw [h2]
    refine ⟨hp.a0, by have := hp.w2 h1; omega, fun hz => ?_⟩
    have := ((h.first hz).2.2 k hm).2 h1
    omega
/-- Behind the first i of the due ones. -/
structure Stg (out : List Pk) (now : Int) (i : Nat) (S D S' D' : Nat → Int) : Prop where
  off : ∀ m : Nat, (∀ k ∈ out.take i, k.seq.toNat ≠ m) → S' m = S m ∧ D' m = D m
  on : ∀ k ∈ out.take i, S' k.seq.toNat = now ∧ D' k.seq.toNat = if 0 ≤ S k.seq.toNat then now - S k.seq.toNat else D k.seq.toNat
theorem stg_zero (out : List Pk) (now : Int) (S D : Nat → Int) : Stg out now 0 S D S D := ⟨fun _ _ => ⟨rfl, rfl⟩, fun k hk => by simp at hk⟩
theorem out_inc {s : Wn} {many : Nat} {acked now : Int} {S D : Nat → Int} (h : Wt s many acked now S D) {i j : Nat} (hij : i < j) (hj : j < (outW now s).length) : ((outW now s)[i]'(by omega)).seq < ((outW now s)[j]).seq := by
  have : (outW now s).Pairwise (fun a b => a.seq < b.seq) := (wt_inc h).filter _
  exact (List.pairwise_iff_getElem.1 this) i j (by omega) hj hij
theorem stg_at {s : Wn} {many : Nat} {acked now : Int} {S D S' D' : Nat → Int} (h : Wt s many acked now S D) {i : Nat} (hi : i < (outW now s).length) (hs : Stg (outW now s) now i S D S' D') :
    S' ((outW now s)[i]).seq.toNat = S ((outW now s)[i]).seq.toNat ∧ D' ((outW now s)[i]).seq.toNat = D ((outW now s)[i]).seq.toNat := by
  refine hs.off _ fun k hk => ?_
  obtain ⟨j, hj, e⟩ := List.getElem_of_mem hk
  rw [List.length_take] at hj
  have hin := out_inc h (i := j) (j := i) (by omega) hi
  rw [List.getElem_take] at e
  rw [e] at hin
  have m1 : k ∈ s.l := (List.mem_filter.1 (List.mem_of_mem_take hk)).1
  have := h.seq m1
  omega
theorem stg_step {s : Wn} {many : Nat} {acked now : Int} {S D S' D' : Nat → Int} (h : Wt s many acked now S D) {i : Nat} (hi : i < (outW now s).length) (hs : Stg (outW now s) now i S D S' D') :
    Stg (outW now s) now (i + 1) S D (upd S' ((outW now s)[i]).seq.toNat now) (if 0 ≤ S ((outW now s)[i]).seq.toNat then upd D' ((outW now s)[i]).seq.toNat (now - S ((outW now s)[i]).seq.toNat) else D') := by
  have hat := stg_at h hi hs
  have hne : ∀ k ∈ (outW now s).take i, k.seq.toNat ≠ ((outW now s)[i]).seq.toNat := by
    intro k hk
    obtain ⟨j, hj, e⟩ := List.getElem_of_mem hk
    rw [List.length_take] at hj
    have hin := out_inc h (i := j) (j := i) (by omega) hi
    rw [List.getElem_take] at e
    rw [e] at hin
    have m1 : k ∈ s.l := (List.mem_filter.1 (List.mem_of_mem_take hk)).1
    have := h.seq m1
    omega
  generalize hq : (outW now s)[i] = x at *
  refine ⟨fun m hm => ?_, fun k hk => ?_⟩
  · rw [List.take_succ_eq_append_getElem hi, hq] at hm
    have hx := hm x (by simp)
    have ho := hs.off m (fun k hk => hm k (List.mem_append_left _ hk))
    refine ⟨by rw [upd_far _ _ (fun e => hx e.symm)]; exact ho.1, ?_⟩
    split
    · rw [upd_far _ _ (fun e => hx e.symm)]; exact ho.2
    · exact ho.2
  · rw [List.take_succ_eq_append_getElem hi, hq] at hk
    rcases List.mem_append.1 hk with hk | hk
    · have ho := hs.on k hk
      refine ⟨by rw [upd_far _ _ (hne k hk)]; exact ho.1, ?_⟩
      split
      · rw [upd_far _ _ (hne k hk)]; exact ho.2
      · exact ho.2
    · rw [List.mem_singleton.1 hk]
      refine ⟨upd_at _ _ _, ?_⟩
      split
      · exact upd_at _ _ _
      · exact hat.2
theorem stg_end {s : Wn} {many : Nat} {acked now : Int} {S D S' D' : Nat → Int} (h : Wt s many acked now S D) (hw : WinOk s) (h0 : 0 ≤ now) (hs : Stg (outW now s) now (outW now s).length S D S' D') :
    Wt (dueW now s) many acked (now + 1) S' D' ∧ ∀ n : Nat, acked < n → n ≤ many → 0 ≤ S' n ∧ S' n ≤ now ∧ now - S' n < 60 := by
  rw [show Stg (outW now s) now (outW now s).length S D S' D' = Stg (outW now s) now (outW now s).length S D S' D' from rfl] at hs
  obtain ⟨off, on⟩ := hs
  rw [List.take_length] at off on
  have hnow : max s.now now = now := by have := h.nw; omega
  have hwn : ∀ k, waitW (nowW s now) k = waitW s k := fun k => rfl
  -- each packet, behind the tick
  have key : ∀ k ∈ s.l, (dueP (nowW s now) k).seq = k.seq ∧ 1 ≤ (dueP (nowW s now) k).times ∧ S' k.seq.toNat = (dueP (nowW s now) k).at_ ∧ now - (dueP (nowW s now) k).at_ < (dueP (nowW s now) k).wait ∧ (dueP (nowW s now) k).wait ≤ 60 ∧ (0 ≤ (dueP (nowW s now) k).at_ ∧ (dueP (nowW s now) k).at_ ≤ now) ∧
      (acked = 0 → D' k.seq.toNat ≤ (dueP (nowW s now) k).wait ∧ (dueP (nowW s now) k).wait = waitW s (dueP (nowW s now) k).times) := by
    intro k hk
    have hp := hw.pk k hk
    by_cases hd : isDue (nowW s now) k = true
    · have ho := on k (List.mem_filter.2 ⟨hk, hd⟩)
      unfold dueP
      rw [if_pos hd]
      have hr := waitW_range s (k.times + 1)
      have e1 : (sendP (nowW s now) k).at_ = now := hnow
      have e2 : (sendP (nowW s now) k).wait = waitW s (k.times + 1) := rfl
      have e3 : (sendP (nowW s now) k).times = k.times + 1 := rfl
      rw [e1, e2, e3]
      refine ⟨rfl, by have := hp.t0; omega, ho.1, by omega, hr.2, ⟨h0, Int.le_refl _⟩, fun hz => ⟨?_, rfl⟩⟩
      rw [ho.2]
      have hf := (h.first hz).2.2 k hk
      rcases h.st k hk with ⟨h1, h2⟩ | ⟨h1, h2, h3⟩
      · rw [if_neg (by rw [h2]; decide)]
        have := hf.1 h1; omega
      · rw [h2, if_pos hp.a0]
        have hf2 := hf.2 h1
        have := waitW_mono s k.times h1
        omega
    · have hd : isDue (nowW s now) k = false := by simpa using hd
      have hnd : now < dueB k now := by
        have : ¬ (dueB k (max s.now now) ≤ max s.now now) := of_decide_eq_false hd
        rw [hnow] at this; omega
      unfold dueP
      rw [if_neg (by rw [hd]; decide)]
      unfold dueB at hnd
      split at hnd
      · omega
      · rename_i ht
        have h1 : 1 ≤ k.times := by have := hp.t0; omega
        have hoff := off k.seq.toNat (fun x hx => by
          obtain ⟨hxm, hxd⟩ := List.mem_filter.1 hx
          intro e
          have s1 := h.seq hk; have s2 := h.seq hxm
          obtain ⟨i, hi, ei⟩ := List.getElem_of_mem hk
          obtain ⟨j, hj, ej⟩ := List.getElem_of_mem hxm
          have q1 := h.num.seq i _ (List.getElem?_eq_getElem hi)
          have q2 := h.num.seq j _ (List.getElem?_eq_getElem hj)
          rw [ei] at q1; rw [ej] at q2
          have : i = j := by omega
          subst this
          rw [ei] at ej
          rw [← ej] at hxd
          rw [hd] at hxd; cases hxd)
        rcases h.st k hk with ⟨h3, _⟩ | ⟨_, h2, h3⟩
        · omega
        · refine ⟨rfl, h1, by rw [hoff.1]; exact h2, by omega, hp.w1, ⟨hp.a0, by have := hp.a1; have := h.nw; omega⟩, fun hz => ?_⟩
          rw [hoff.2]
          exact ((h.first hz).2.2 k hk).2 h1
  have mem : ∀ x ∈ (dueW now s).l, ∃ k ∈ s.l, x = dueP (nowW s now) k := by
    intro x hx
    obtain ⟨k, hk, e⟩ := List.mem_map.1 (show x ∈ s.l.map (dueP (nowW s now)) from hx)
    exact ⟨k, hk, e.symm⟩
  refine ⟨⟨num_due h.num, h.last, ?_, fun x hx => ?_, fun x hx => ?_, fun hz => ?_⟩, fun n hn1 hn2 => ?_⟩
  · show max s.now now ≤ now + 1; omega
  · obtain ⟨k, hk, rfl⟩ := mem x hx
    rw [(key k hk).1, ← h.body k hk]
    unfold dueP; split <;> rfl
  · obtain ⟨k, hk, rfl⟩ := mem x hx
    obtain ⟨a1, a2, a3, a4, _⟩ := key k hk
    right
    rw [a1]
    exact ⟨a2, a3, by omega⟩
  · refine ⟨(h.first hz).1, (h.first hz).2.1, fun x hx => ?_⟩
    obtain ⟨k, hk, rfl⟩ := mem x hx
    obtain ⟨a1, a2, a3, a4, a5, a6, a7⟩ := key k hk
    rw [a1]
    exact ⟨fun h => by omega, fun _ => a7 hz⟩
  · have h2 := h.num.last; have h3 := h.last; have h4 := h.num.a0
    have hi : (n - 1 - acked).toNat < s.l.length := by omega
    have hq := h.num.seq _ _ (List.getElem?_eq_getElem hi)
    have hm := List.getElem_mem hi
    obtain ⟨a1, a2, a3, a4, a5, a6, a7⟩ := key _ hm
    have en : (s.l[(n - 1 - acked).toNat]).seq.toNat = n := by omega
    rw [en] at a3
    rw [a3]
    exact ⟨a6.1, a6.2, by omega⟩
/-- Each due packet, at its turn. -/
theorem wt_each {s : Wn} {many : Nat} {acked now : Int} {S D : Nat → Int} (h : Wt s many acked now S D) (hw : WinOk s) : ∀ (i : Nat) (k : Pk), (outW now s)[i]? = some k → ∃ q : Nat, k.seq = q ∧ acked < q ∧ q ≤ many ∧ k.body = [UInt8.ofNat q] ∧
    (S q = -1 ∨ (0 ≤ S q ∧ 2 ≤ now - S q ∧ (acked = 0 → D q ≤ now - S q))) ∧ (∀ (j : Nat) (x : Pk), j < i → (outW now s)[j]? = some x → x.seq < q) ∧
    (∀ S' D', Stg (outW now s) now i S D S' D' → S' q = S q ∧ D' q = D q ∧ (0 ≤ S q → Stg (outW now s) now (i + 1) S D (upd S' q now) (upd D' q (now - S q))) ∧ (S q = -1 → Stg (outW now s) now (i + 1) S D (upd S' q now) D')) := by
  intro i k hk
  obtain ⟨hi, rfl⟩ := List.getElem?_eq_some_iff.1 hk
  obtain ⟨hm, hs⟩ := wt_out h hw (List.getElem_mem hi)
  obtain ⟨s1, s2, s3⟩ := h.seq hm
  have e : (((outW now s)[i]).seq.toNat : Int) = ((outW now s)[i]).seq := by omega
  refine ⟨((outW now s)[i]).seq.toNat, e.symm, by omega, by omega, h.body _ hm, hs, fun j x hj hx => ?_, fun S' D' hst => ?_⟩
  · obtain ⟨hj2, rfl⟩ := List.getElem?_eq_some_iff.1 hx
    rw [e]; exact out_inc h hj hi
  · obtain ⟨a1, a2⟩ := stg_at h hi hst
    have a3 := stg_step h hi hst
    refine ⟨a1, a2, fun hz => ?_, fun hz => ?_⟩
    · rw [if_pos hz] at a3; exact a3
    · rw [if_neg (by rw [hz]; decide)] at a3; exact a3
end Go.Proofs.Ytkfcdfcoiglieaa
