/- A region that draws its order: its first operations read, or call what reads; then one operation for which all others wait, or that waits for them; then bare moves. No condition. -/
import Derived.Test.YtkfcdfcoiglieaaQTail
namespace Go.Proofs.Ytkfcdfcoiglieaa
open Go.RowKit

/-- The operations r stand behind those of l. -/
def headOk (l r : List Oper) : Bool :=
  (match r with | [] => false | o :: _ => splitOk l o) &&
  (List.range r.length).all fun j => j == 0 || match r[j]? with | some o => o.after.any fun e => Region.binds .any e && decide (l.length ≤ e.on) && decide (e.on < l.length + r.length) | none => true
def QHd (P : Program) (l r : List Oper) (Q : Exit → Act → World → Prop) : Exit → Act → World → Prop
  | .normal, a, w => wpAny P .any (l ++ r).toArray Q r.length (Array.replicate l.length true ++ Array.replicate r.length false) a w
  | e, a, w => Q e a w
section
variable {P : Program} {Q : Exit → Act → World → Prop} {l r : List Oper}
theorem wpAny_more {md : Region.Mode} {ops : Array Oper} : ∀ (n : Nat) (listed : Array Bool) (a : Act) (w : World), wpAny P md ops Q n listed a w → wpAny P md ops Q (n + 1) listed a w
  | 0, listed, a, w, h => ⟨fun _ => h.2, fun i hi => by rw [h.1] at hi; cases hi⟩
  | n + 1, listed, a, w, h => ⟨h.1, fun i hi => wpOp_mono (fun a' w' h' => wpAny_more n _ a' w' h') (h.2 i hi)⟩
theorem wpAny_mores {md : Region.Mode} {ops : Array Oper} (n : Nat) (listed : Array Bool) (a : Act) (w : World) (h : wpAny P md ops Q n listed a w) : ∀ k, wpAny P md ops Q (k + n) listed a w
  | 0 => by rw [Nat.zero_add]; exact h
  | k + 1 => by rw [show k + 1 + n = k + n + 1 from by omega]; exact wpAny_more _ _ _ _ (wpAny_mores n listed a w h k)
theorem app_get {j : Nat} (hj : j < l.length) : (l ++ r).toArray[j]? = l.toArray[j]? := by
  simp [List.getElem?_append_left hj]
theorem app_getD {listed : Array Bool} {m j : Nat} {d : Bool} (hj : j < listed.size) : (listed ++ Array.replicate m false).getD j d = listed.getD j d := by
  rw [Array.getD_eq_getD_getElem?, Array.getD_eq_getD_getElem?, Array.getElem?_append_left hj]
theorem app_getD2 {listed : Array Bool} {m j : Nat} {d : Bool} (hj : listed.size ≤ j) (hm : j < listed.size + m) : (listed ++ Array.replicate m false).getD j d = false := by
  rw [Array.getD_eq_getD_getElem?, Array.getElem?_append_right hj, Array.getElem?_replicate, if_pos (by omega)]; rfl
theorem wpOp_app {o : Oper} (hok : splitOk l o = true) {i : Nat} (hi : i < l.length) {K K' : Act → World → Prop} {a : Act} {w : World} (hK : ∀ a w, K a w → K' a w)
    (h : wpOp P l.toArray (QHd P l r Q) i K a w) : wpOp P (l ++ r).toArray Q i K' a w := by
  unfold wpOp at h ⊢
  rw [app_get hi]
  have hlx : l.toArray[i]? = some l[i] := by rw [List.getElem?_toArray]; exact List.getElem?_eq_getElem hi
  rw [hlx] at h ⊢
  simp only at h ⊢
  have hg : Region.wanted l[i] (yielded (l ++ r).toArray a.tmps) = Region.wanted l[i] (yielded l.toArray a.tmps) := by
    simp only [splitOk, Bool.and_eq_true] at hok
    have h1 := List.all_eq_true.1 hok.2 i (List.mem_range.2 hi)
    rw [List.getElem?_eq_getElem hi] at h1
    simp only [Bool.and_eq_true] at h1
    have h2 := h1.2
    unfold Region.wanted
    cases hgd : l[i].guard with
    | none => rfl
    | some p =>
      obtain ⟨j, want⟩ := p
      rw [hgd] at h2
      simp only [decide_eq_true_eq] at h2
      simp only
      unfold yielded
      rw [app_get h2]
  rw [hg]
  split
  · rename_i hw
    rw [if_pos hw] at h
    rcases h with h | ⟨h1, a1, w1, h2⟩
    · refine .inl ?_
      unfold Oper.wp at h ⊢
      generalize (execOp a.eval l[i]).run P w = x at h
      cases x with
      | ok n w' =>
        cases n <;> simp only [Oper.upon] at h ⊢
        case value v => exact hK _ _ h
        case skip => exact hK _ _ h
        case defer d => exact hK _ _ h
        case enter f args =>
          refine Calls.mono h fun e w'' he => ?_
          cases e with
          | returned v => exact hK _ _ he
          | panicked c => exact he
          | outgrown => obtain ⟨a1, w1, h1⟩ := he; exact ⟨a1, w1, h1⟩
        case row r args => exact Rows.mono h fun v w'' he => hK _ _ he
      | halt x w' => cases x <;> simp only [Oper.upon] at h ⊢ <;> exact h
    · exact .inr ⟨h1, a1, w1, h2⟩
  · rename_i hw
    rw [if_neg hw] at h
    exact hK _ _ h
theorem ready_app {o : Oper} (hok : splitOk l o = true) {listed : Array Bool} (hs : listed.size = l.length) {j m : Nat} (hj : j < l.length) :
    j ∈ Region.ready .any (l ++ r).toArray (listed ++ Array.replicate m false) ↔ j ∈ Region.ready .any l.toArray listed := by
  rw [mem_ready, mem_ready, app_get hj, app_getD (by omega)]
  have hlx : l.toArray[j]? = some l[j] := by rw [List.getElem?_toArray]; exact List.getElem?_eq_getElem hj
  rw [hlx]
  refine and_congr_right fun _ => ?_
  constructor
  · rintro ⟨x, hx, h⟩
    refine ⟨x, hx, fun e he hb => ?_⟩
    injection hx with hx
    subst hx
    have hlt := split_edge hok hj e he hb
    rw [← app_getD (m := m) (d := false) (by omega)]
    exact h e he hb
  · rintro ⟨x, hx, h⟩
    refine ⟨x, hx, fun e he hb => ?_⟩
    injection hx with hx
    subst hx
    have hlt := split_edge hok hj e he hb
    rw [app_getD (by omega)]
    exact h e he hb
theorem all_listed {o : Oper} (hok : splitOk l o = true) {listed : Array Bool} (hs : listed.size = l.length) (h0 : Region.ready .any l.toArray listed = []) : listed = Array.replicate l.length true := by
  have hall : ∀ n j, j < n → j < l.length → listed.getD j true = true := by
    intro n
    induction n with
    | zero => intro j hj; omega
    | succ n ih =>
      intro j hj hjl
      cases hlj : listed.getD j true with
      | true => rfl
      | false =>
        exfalso
        have : j ∈ Region.ready .any l.toArray listed := by
          refine mem_ready.2 ⟨hlj, l[j], by rw [List.getElem?_toArray]; exact List.getElem?_eq_getElem hjl, fun e he hb => ?_⟩
          have hlt := split_edge hok hjl e he hb
          have h1 := ih e.on (by omega) (by omega)
          have hel : e.on < listed.size := by omega
          rw [Array.getD_eq_getD_getElem?, Array.getElem?_eq_getElem hel] at h1 ⊢
          exact h1
        rw [h0] at this
        cases this
  apply Array.ext_getElem?
  intro j
  rw [Array.getElem?_replicate]
  rcases Nat.lt_or_ge j l.length with hj | hj
  · rw [if_pos hj]
    have h1 := hall (j + 1) j (by omega) hj
    rw [Array.getD_eq_getD_getElem?, Array.getElem?_eq_getElem (by omega)] at h1
    rw [Array.getElem?_eq_getElem (by omega)]
    exact congrArg some h1
  · rw [if_neg (by omega), Array.getElem?_eq_none (by omega)]
theorem wpAny_head (hok : headOk l r = true) : ∀ (fuel : Nat) (listed : Array Bool) (a : Act) (w : World), listed.size = l.length → closedL l listed →
    wpAny P .any l.toArray (QHd P l r Q) fuel listed a w → wpAny P .any (l ++ r).toArray Q (fuel + r.length) (listed ++ Array.replicate r.length false) a w := by
  obtain ⟨o, r', rfl, hsp, hr⟩ : ∃ o r', r = o :: r' ∧ splitOk l o = true ∧ ∀ j x, 1 ≤ j → r[j]? = some x → ∃ e ∈ x.after, Region.binds .any e = true ∧ l.length ≤ e.on ∧ e.on < l.length + r.length := by
    unfold headOk at hok
    cases r with
    | nil => simp at hok
    | cons o r' =>
      simp only [Bool.and_eq_true] at hok
      refine ⟨o, r', rfl, hok.1, fun j x hj hx => ?_⟩
      have h1 := List.all_eq_true.1 hok.2 j (List.mem_range.2 (List.getElem?_eq_some_iff.1 hx).1)
      rw [hx] at h1
      simp only [Bool.or_eq_true, beq_iff_eq] at h1
      rcases h1 with h1 | h1
      · omega
      · obtain ⟨e, he, hb⟩ := Array.any_eq_true'.1 h1
        simp only [Bool.and_eq_true, decide_eq_true_eq] at hb
        exact ⟨e, he, hb.1.1, hb.1.2, hb.2⟩
  intro fuel
  induction fuel with
  | zero =>
    intro listed a w hs _ h
    obtain ⟨h0, hq⟩ := h
    rw [all_listed hsp hs h0, Nat.zero_add]
    exact hq
  | succ fuel ih =>
    intro listed a w hs hcl h
    obtain ⟨hd, hall⟩ := h
    by_cases h0 : Region.ready .any l.toArray listed = []
    · rw [all_listed hsp hs h0]
      exact wpAny_mores _ _ _ _ (hd h0) _
    · obtain ⟨j0, hj0⟩ := List.exists_mem_of_ne_nil _ h0
      have hj0l : j0 < l.length := by simpa using ready_lt hj0
      rw [show fuel + 1 + (o :: r').length = (fuel + (o :: r').length) + 1 from by omega]
      refine ⟨fun hnil => ?_, fun i hi => ?_⟩
      · have := (ready_app (r := o :: r') (m := (o :: r').length) hsp hs hj0l).2 hj0
        rw [hnil] at this; cases this
      · have hil := ready_lt hi
        simp only [List.size_toArray, List.length_append] at hil
        have hil' : i < l.length := by
          rcases Nat.lt_or_ge i l.length with h | h
          · exact h
          · exfalso
            obtain ⟨_, x, hx, hw⟩ := mem_ready.1 hi
            have hx' : (o :: r')[i - l.length]? = some x := by
              rw [List.getElem?_toArray, List.getElem?_append_right h] at hx; exact hx
            rcases Nat.eq_zero_or_pos (i - l.length) with hz | hz
            · rw [hz] at hx'
              have hxo : x = o := by simpa using hx'.symm
              subst hxo
              -- o is ready: all of l are listed
              have hlast : l.length ∈ Region.ready .any (l ++ [x]).toArray (listed.push false) := by
                refine mem_ready.2 ⟨by rw [← hs, Array.getD_eq_getD_getElem?, Array.getElem?_push_size]; rfl, x, big_last, fun e he hb => ?_⟩
                have h1 := hw e he hb
                have hok2 := hsp
                simp only [splitOk, Bool.and_eq_true] at hok2
                have h2 := Array.all_eq_true_iff_forall_mem.1 hok2.1.2 e he
                have hlt : e.on < l.length := by simpa [hb] using h2
                rw [app_getD (by omega)] at h1
                rw [push_getD (by omega)]; exact h1
              have := last_waits hsp hs hcl hlast j0 hj0l
              obtain ⟨hu, _⟩ := mem_ready.1 hj0
              rw [hu] at this; cases this
            · obtain ⟨e, he, hb, h1, h2⟩ := hr _ x hz hx'
              have h3 := hw e he hb
              rw [app_getD2 (by omega) (by omega)] at h3
              cases h3
        have hj := (ready_app (r := o :: r') hsp hs hil').1 hi
        refine wpOp_app hsp hil' (fun a' w' hk => ?_) (hall i hj)
        have := ih (listed.setIfInBounds i true) a' w' (by simpa using hs) (closed_step hs hcl hj hsp) hk
        rwa [Array.setIfInBounds_append_left (by omega)] at *
/-- What is to be met by eye: the first n are met in the order of the text, number n comes up alone, the rest is met in the order of the text. -/
def callOk (l : List Oper) (n m : Nat) : Bool :=
  Region.lexB .any (l.take n).toArray && headOk (l.take n) (l.drop n) && (Region.ready .any l.toArray (Array.replicate n true ++ Array.replicate (m + 1) false) == [n]) && Region.noSelect l.toArray &&
    Region.lexFrom .any l.toArray m (n + 1) ((Array.replicate n true ++ Array.replicate (m + 1) false).setIfInBounds n true)
/-- **Quiet operations, one that may do what it will, quiet operations.** -/
theorem wp_region_quiet_call {id : Nat} {a : Act} {w : World} {l : List Oper} (n m : Nat) (o : Oper) (hm : P.follows .mixedOrders = true) (ho : l[n]? = some o) (hg : o.guard = none) (hlen : l.length = n + (m + 1)) (hB : callOk l n m = true)
    (h : wpQuiet P (l.take n).toArray (fun w' => ∃ n, w' = w.drewN n) (fun a' => ∀ w', (∃ n, w' = w.drewN n) → ∀ K : Act → World → Prop,
      (∀ a2 w2, wpQuiet P l.toArray (fun w3 => ∃ n, w3 = w2.drewN n) (fun a3 => ∀ w3, (∃ n, w3 = w2.drewN n) → Q .normal a3 w3) (l.drop (n + 1)) a2 → K a2 w2) → o.wp P a' w' K Q) (l.take n) a) :
    (Code.region id l.toArray true).wp P Q a w := by
  simp only [callOk, Bool.and_eq_true, beq_iff_eq] at hB
  obtain ⟨⟨⟨⟨h1, h2⟩, h3⟩, h4⟩, h5⟩ := hB
  refine wp_region_any hm ?_
  have hl : l = l.take n ++ l.drop n := (List.take_append_drop n l).symm
  have ht : (l.take n).length = n := by simp; omega
  have hdl : (l.drop n).length = m + 1 := by simp; omega
  have hd1 : (l.drop (n + 1)).length = m := by simp; omega
  simp only [Region.lexB, Bool.and_eq_true] at h1
  have hq := wpAnyQ_lex (P := P) (C := fun w' => ∃ n, w' = w.drewN n) (md := .any) h1.1 (l.take n) 0 (Array.replicate (l.take n).length false) a (by simp) (by simpa using h1.2) h
  have key : ∀ a' w', (∃ n, w' = w.drewN n) → (∀ w', (∃ n, w' = w.drewN n) → ∀ K : Act → World → Prop,
      (∀ a2 w2, wpQuiet P l.toArray (fun w3 => ∃ n, w3 = w2.drewN n) (fun a3 => ∀ w3, (∃ n, w3 = w2.drewN n) → Q .normal a3 w3) (l.drop (n + 1)) a2 → K a2 w2) → o.wp P a' w' K Q) →
      QHd P (l.take n) (l.drop n) Q .normal a' w' := by
    intro a' w' hw' hh
    show wpAny P .any (l.take n ++ l.drop n).toArray Q (l.drop n).length (Array.replicate (l.take n).length true ++ Array.replicate (l.drop n).length false) a' w'
    rw [← hl, ht, hdl]
    refine ⟨(fun h0 => by rw [h3] at h0; cases h0), fun i hi => ?_⟩
    rw [h3] at hi
    have hin : i = n := by simpa using hi
    subst hin
    unfold wpOp
    have hx : l.toArray[i]? = some o := by simpa using ho
    rw [hx]
    have hw : Region.wanted o (yielded l.toArray a'.tmps) = true := by simp [Region.wanted, hg]
    simp only [hw, if_true]
    refine .inl (hh w' hw' _ fun a2 w2 hq2 => ?_)
    have hq3 := wpAnyQ_lex (P := P) (C := fun w3 => ∃ n, w3 = w2.drewN n) (md := .any) h4 (l.drop (i + 1)) (i + 1) ((Array.replicate i true ++ Array.replicate (m + 1) false).setIfInBounds i true) a2 (fun j => by simp) (by rw [hd1]; exact h5) hq2
    have := wpAny_of_quiet (P := P) (Q' := Q) (fun a3 w3 hw3 hq => hq w3 hw3) _ _ _ w2 ⟨0, rfl⟩ hq3
    rw [hd1] at this
    exact this
  have ha := wpAny_of_quiet (P := P) (Q' := QHd P (l.take n) (l.drop n) Q) (fun a' w' hw' hq => key a' w' hw' hq) _ _ _ { w with drawn := w.drawn + 1 } ⟨1, rfl⟩ hq
  have := wpAny_head (Q := Q) h2 _ _ a _ (by simp) (fun k hk hl => by rw [Array.getD_eq_getD_getElem?, Array.getElem?_replicate, if_pos hk] at hl; cases hl) ha
  rw [← hl] at this
  have e1 : (l.take n).length + (l.drop n).length = l.length := by rw [ht, hdl]; omega
  rw [e1] at this
  have e2 : Array.replicate (l.take n).length false ++ Array.replicate (l.drop n).length false = Array.replicate l.length false := by
    rw [Array.replicate_append_replicate, e1]
  rw [e2] at this
  simpa using this
end
end Go.Proofs.Ytkfcdfcoiglieaa
