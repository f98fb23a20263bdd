/- A region that draws its order, its last operation split off: where that one waits for all the others. No condition. -/
import Derived.Test.YtkfcdfcoiglieaaRg
import Derived.OrdersHeld
namespace Go.Proofs.Ytkfcdfcoiglieaa
open Go.RowKit

/-- What behind the other operations is asked: the last one, then Q. -/
def QLast (P : Program) (ops : Array Oper) (k : Nat) (Q : Exit → Act → World → Prop) : Exit → Act → World → Prop
  | .normal, a, w => wpOp P ops Q k (Q .normal) a w
  | e, a, w => Q e a w
/-- The last operation waits for all others; each waits for earlier ones alone; none is guarded by a later one. -/
def splitOk (l : List Oper) (o : Oper) : Bool :=
  (List.range l.length).all (fun i => depOn .any o i || (List.range l.length).any (fun k => decide (i < k) && match l[k]? with | some x => depOn .any x i | none => false)) && o.after.all (fun e => !Region.binds .any e || decide (e.on < l.length)) &&
  (List.range l.length).all (fun k => match l[k]? with
    | some x => x.after.all (fun e => !Region.binds .any e || decide (e.on < k)) && (match x.guard with | some (j, _) => decide (j < l.length) | none => true)
    | none => true)

section
variable {P : Program} {Q : Exit → Act → World → Prop} {l : List Oper} {o : Oper}
theorem big_get {j : Nat} (hj : j < l.length) : (l ++ [o]).toArray[j]? = l.toArray[j]? := by
  rw [List.getElem?_toArray, List.getElem?_toArray, List.getElem?_append_left hj]
theorem big_last : (l ++ [o]).toArray[l.length]? = some o := by simp
theorem push_getD {listed : Array Bool} {j : Nat} {d : Bool} (hj : j < listed.size) : (listed.push false).getD j d = listed.getD j d := by
  rw [Array.getD_eq_getD_getElem?, Array.getD_eq_getD_getElem?, Array.getElem?_push_lt hj, Array.getElem?_eq_getElem hj]
theorem wpOp_big (hok : splitOk l o = true) {i : Nat} (hi : i < l.length) {K K' : Act → World → Prop} {a : Act} {w : World} (hK : ∀ a w, K a w → K' a w)
    (h : wpOp P l.toArray (QLast P (l ++ [o]).toArray l.length Q) i K a w) : wpOp P (l ++ [o]).toArray Q i K' a w := by
  unfold wpOp at h ⊢
  rw [big_get hi]
  have hlx : l.toArray[i]? = some l[i] := by rw [List.getElem?_toArray]; exact List.getElem?_eq_getElem hi
  rw [hlx] at h ⊢
  simp only at h ⊢
  have hg : Region.wanted l[i] (yielded (l ++ [o]).toArray a.tmps) = Region.wanted l[i] (yielded l.toArray a.tmps) := by
    simp only [splitOk, Bool.and_eq_true] at hok
    have h1 := List.all_eq_true.1 hok.2 i (List.mem_range.2 hi)
    rw [List.getElem?_eq_getElem hi] at h1
    simp only [Bool.and_eq_true] at h1
    have h2 := h1.2
    unfold Region.wanted
    cases hgd : l[i].guard with
    | none => rfl
    | some p =>
      obtain ⟨j, want⟩ := p
      rw [hgd] at h2
      simp only [decide_eq_true_eq] at h2
      simp only
      unfold yielded
      rw [big_get h2]
  rw [hg]
  split
  · rename_i hw
    rw [if_pos hw] at h
    rcases h with h | ⟨h1, a1, w1, h2⟩
    · refine .inl ?_
      unfold Oper.wp at h ⊢
      generalize (execOp a.eval l[i]).run P w = r at h
      cases r with
      | ok n w' =>
        cases n <;> simp only [Oper.upon] at h ⊢
        case value v => exact hK _ _ h
        case skip => exact hK _ _ h
        case defer d => exact hK _ _ h
        case enter f args =>
          refine Calls.mono h fun e w'' he => ?_
          cases e with
          | returned v => exact hK _ _ he
          | panicked c => exact he
          | outgrown => obtain ⟨a1, w1, h1⟩ := he; exact ⟨a1, w1, h1⟩
        case row r args => exact Rows.mono h fun v w'' he => hK _ _ he
      | halt x w' => cases x <;> simp only [Oper.upon] at h ⊢ <;> exact h
    · exact .inr ⟨h1, a1, w1, h2⟩
  · rename_i hw
    rw [if_neg hw] at h
    exact hK _ _ h

theorem split_edge (hok : splitOk l o = true) {k : Nat} (hk : k < l.length) : ∀ e ∈ l[k].after, Region.binds .any e = true → e.on < k := by
  intro e he hb
  simp only [splitOk, Bool.and_eq_true] at hok
  have h1 := List.all_eq_true.1 hok.2 k (List.mem_range.2 hk)
  rw [List.getElem?_eq_getElem hk] at h1
  simp only [Bool.and_eq_true] at h1
  have h2 := Array.all_eq_true_iff_forall_mem.1 h1.1 e he
  simpa [hb] using h2
theorem ready_big (hok : splitOk l o = true) {listed : Array Bool} (hs : listed.size = l.length) {j : Nat} (hj : j < l.length) :
    j ∈ Region.ready .any (l ++ [o]).toArray (listed.push false) ↔ j ∈ Region.ready .any l.toArray listed := by
  rw [mem_ready, mem_ready, big_get hj, push_getD (by omega)]
  have hlx : l.toArray[j]? = some l[j] := by rw [List.getElem?_toArray]; exact List.getElem?_eq_getElem hj
  rw [hlx]
  refine and_congr_right fun _ => ?_
  constructor
  · rintro ⟨x, hx, h⟩
    refine ⟨x, hx, fun e he hb => ?_⟩
    injection hx with hx
    subst hx
    have hlt := split_edge hok hj e he hb
    rw [← push_getD (d := false) (by omega)]
    exact h e he hb
  · rintro ⟨x, hx, h⟩
    refine ⟨x, hx, fun e he hb => ?_⟩
    injection hx with hx
    subst hx
    have hlt := split_edge hok hj e he hb
    rw [push_getD (by omega)]
    exact h e he hb
/-- None of the others is left: the last one is ready, and it alone. -/
theorem ready_last (hok : splitOk l o = true) {listed : Array Bool} (hs : listed.size = l.length) (h0 : Region.ready .any l.toArray listed = []) :
    l.length ∈ Region.ready .any (l ++ [o]).toArray (listed.push false) := by
  have hall : ∀ n j, j < n → j < l.length → listed.getD j true = true := by
    intro n
    induction n with
    | zero => intro j hj; omega
    | succ n ih =>
      intro j hj hjl
      cases hlj : listed.getD j true with
      | true => rfl
      | false =>
        exfalso
        have : j ∈ Region.ready .any l.toArray listed := by
          refine mem_ready.2 ⟨hlj, l[j], by rw [List.getElem?_toArray]; exact List.getElem?_eq_getElem hjl, fun e he hb => ?_⟩
          have hlt := split_edge hok hjl e he hb
          have h1 := ih e.on (by omega) (by omega)
          have hel : e.on < listed.size := by omega
          rw [Array.getD_eq_getD_getElem?, Array.getElem?_eq_getElem hel] at h1 ⊢
          exact h1
        rw [h0] at this
        cases this
  refine mem_ready.2 ⟨by rw [← hs, Array.getD_eq_getD_getElem?, Array.getElem?_push_size]; rfl, o, big_last, fun e he hb => ?_⟩
  simp only [splitOk, Bool.and_eq_true] at hok
  have h2 := Array.all_eq_true_iff_forall_mem.1 hok.1.2 e he
  have hlt : e.on < l.length := by simpa [hb] using h2
  rw [push_getD (by omega)]
  have h1 := hall (e.on + 1) e.on (by omega) hlt
  have hel : e.on < listed.size := by omega
  rw [Array.getD_eq_getD_getElem?, Array.getElem?_eq_getElem hel] at h1 ⊢
  exact h1
/-- What is listed has all that it waits for listed. -/
def closedL (l : List Oper) (listed : Array Bool) : Prop := ∀ k, (hk : k < l.length) → listed.getD k true = true → ∀ e ∈ l[k].after, Region.binds .any e = true → listed.getD e.on true = true
theorem last_waits (hok : splitOk l o = true) {listed : Array Bool} (hs : listed.size = l.length) (hcl : closedL l listed) (h : l.length ∈ Region.ready .any (l ++ [o]).toArray (listed.push false)) : ∀ j, j < l.length → listed.getD j true = true := by
  obtain ⟨_, x, hx, hall⟩ := mem_ready.1 h
  rw [big_last] at hx
  injection hx with hx
  subst hx
  have main : ∀ m j, l.length - j ≤ m → j < l.length → listed.getD j true = true := by
    intro m
    induction m with
    | zero => intro j h1 h2; omega
    | succ m ih =>
      intro j hm hj
      have hok' := hok
      simp only [splitOk, Bool.and_eq_true] at hok'
      have hw := List.all_eq_true.1 hok'.1.1 j (List.mem_range.2 hj)
      rcases Bool.or_eq_true _ _ ▸ hw with hw | hw
      · unfold depOn at hw
        obtain ⟨e, he, hb⟩ := Array.any_eq_true'.1 hw
        simp only [Bool.and_eq_true, beq_iff_eq] at hb
        have h1 := hall e he hb.1
        rw [hb.2, push_getD (by omega)] at h1
        have hel : j < listed.size := by omega
        rw [Array.getD_eq_getD_getElem?, Array.getElem?_eq_getElem hel] at h1 ⊢
        exact h1
      · obtain ⟨k, hk, hw⟩ := List.any_eq_true.1 hw
        have hkl := List.mem_range.1 hk
        rw [List.getElem?_eq_getElem hkl] at hw
        simp only [Bool.and_eq_true, decide_eq_true_eq] at hw
        obtain ⟨hjk, hw⟩ := hw
        unfold depOn at hw
        obtain ⟨e, he, hb⟩ := Array.any_eq_true'.1 hw
        simp only [Bool.and_eq_true, beq_iff_eq] at hb
        have := hcl k hkl (ih k (by omega) hkl) e he hb.1
        rwa [hb.2] at this
  exact fun j hj => main l.length j (by omega) hj
theorem closed_step {listed : Array Bool} (hs : listed.size = l.length) (hcl : closedL l listed) {i : Nat} (hi : i ∈ Region.ready .any l.toArray listed) (hok : splitOk l o = true) : closedL l (listed.setIfInBounds i true) := by
  intro k hk hlk e he hb
  have hlt := split_edge hok hk e he hb
  obtain ⟨_, x, hx, hall⟩ := mem_ready.1 hi
  have keep : ∀ j, listed.getD j true = true → (listed.setIfInBounds i true).getD j true = true := fun j hj => by
    by_cases h : i = j
    · subst h
      rw [Array.getD_eq_getD_getElem?, Array.getElem?_setIfInBounds]
      by_cases hb : i < listed.size <;> simp [hb]
    · rw [getD_set_ne true h]; exact hj
  by_cases hik : i = k
  · subst hik
    rw [List.getElem?_toArray, List.getElem?_eq_getElem hk] at hx
    injection hx with hx
    subst hx
    have h1 := hall e he hb
    refine keep _ ?_
    have hel : e.on < listed.size := by omega
    rw [Array.getD_eq_getD_getElem?, Array.getElem?_eq_getElem hel] at h1 ⊢
    exact h1
  · rw [getD_set_ne true hik] at hlk
    exact keep _ (hcl k hk hlk e he hb)
theorem ready_lt {md : Region.Mode} {ops : Array Oper} {listed : Array Bool} {j : Nat} (h : j ∈ Region.ready md ops listed) : j < ops.size := by
  obtain ⟨_, x, hx, _⟩ := mem_ready.1 h
  exact (Array.getElem?_eq_some_iff.1 hx).1
theorem push_set {A : Array Bool} {i : Nat} (h : i < A.size) {v b : Bool} : (A.setIfInBounds i v).push b = (A.push b).setIfInBounds i v := by
  cases A with
  | mk L =>
    simp only [List.size_toArray] at h
    simp [List.setIfInBounds_toArray, List.push_toArray, h]
theorem wpAny_split (hok : splitOk l o = true) : ∀ (fuel : Nat) (listed : Array Bool) (a : Act) (w : World), listed.size = l.length → closedL l listed →
    wpAny P .any l.toArray (QLast P (l ++ [o]).toArray l.length Q) fuel listed a w → wpAny P .any (l ++ [o]).toArray Q (fuel + 1) (listed.push false) a w := by
  -- the last one comes up where none of the others is left
  have hlast : ∀ (fuel : Nat) (listed : Array Bool) (a : Act) (w : World), listed.size = l.length → closedL l listed → Region.ready .any l.toArray listed = [] →
      wpOp P (l ++ [o]).toArray Q l.length (Q .normal) a w → wpOp P (l ++ [o]).toArray Q l.length (wpAny P .any (l ++ [o]).toArray Q fuel ((listed.push false).setIfInBounds l.length true)) a w := by
    intro fuel listed a w hs hcl h0 h
    refine wpOp_mono (fun a' w' hq => wpAny_done ?_ hq fuel) h
    apply List.eq_nil_iff_forall_not_mem.2
    intro j hj
    have hjl := ready_lt hj
    simp only [List.size_toArray, List.length_append, List.length_cons, List.length_nil] at hjl
    obtain ⟨hu, _⟩ := mem_ready.1 hj
    by_cases hjn : j = l.length
    · subst hjn
      rw [Array.getD_eq_getD_getElem?, Array.getElem?_setIfInBounds] at hu
      simp [hs] at hu
    · have hjlt : j < l.length := by omega
      rw [getD_set_ne true (fun e => hjn e.symm), push_getD (by omega)] at hu
      have := last_waits hok hs hcl (ready_last hok hs h0) j hjlt
      rw [hu] at this
      cases this
  intro fuel
  induction fuel with
  | zero =>
    intro listed a w hs hcl h
    obtain ⟨h0, hq⟩ := h
    refine ⟨fun hnil => ?_, fun i hi => ?_⟩
    · have := ready_last hok hs h0
      rw [hnil] at this; cases this
    · have hil := ready_lt hi
      simp only [List.size_toArray, List.length_append, List.length_cons, List.length_nil] at hil
      by_cases hin : i = l.length
      · subst hin
        exact hlast 0 listed a w hs hcl h0 hq
      · have := (ready_big hok hs (by omega)).1 hi
        rw [h0] at this; cases this
  | succ fuel ih =>
    intro listed a w hs hcl h
    obtain ⟨hd, hall⟩ := h
    refine ⟨fun hnil => ?_, fun i hi => ?_⟩
    · exfalso
      by_cases h0 : Region.ready .any l.toArray listed = []
      · have := ready_last hok hs h0
        rw [hnil] at this; cases this
      · obtain ⟨j, hj⟩ := List.exists_mem_of_ne_nil _ h0
        have hjl : j < l.length := by simpa using ready_lt hj
        have := (ready_big hok hs hjl).2 hj
        rw [hnil] at this; cases this
    · have hil := ready_lt hi
      simp only [List.size_toArray, List.length_append, List.length_cons, List.length_nil] at hil
      by_cases hin : i = l.length
      · subst hin
        have h0 : Region.ready .any l.toArray listed = [] := by
          apply List.eq_nil_iff_forall_not_mem.2
          intro j hj
          have hjl : j < l.length := by simpa using ready_lt hj
          obtain ⟨hu, _⟩ := mem_ready.1 hj
          have := last_waits hok hs hcl hi j hjl
          rw [hu] at this; cases this
        exact hlast _ listed a w hs hcl h0 (hd h0)
      · have hil' : i < l.length := by omega
        have hj := (ready_big hok hs hil').1 hi
        refine wpOp_big hok hil' (fun a' w' hk => ?_) (hall i hj)
        have := ih (listed.setIfInBounds i true) a' w' (by simpa using hs) (closed_step hs hcl hj hok) hk
        rwa [show (listed.setIfInBounds i true).push false = (listed.push false).setIfInBounds i true from by
          exact push_set (by omega)] at this
/-- **The last operation split off.** -/
theorem wp_region_split {id : Nat} {a : Act} {w : World} (hm : P.follows .mixedOrders = true) (hok : splitOk l o = true)
    (h : wpAny P .any l.toArray (QLast P (l ++ [o]).toArray l.length Q) l.length (Array.replicate l.length false) a w.drew) : (Code.region id (l ++ [o]).toArray true).wp P Q a w := by
  refine wp_region_any hm ?_
  have := wpAny_split hok l.length _ a w.drew (by simp) (fun k hk hl => by simp [hk] at hl) h
  rw [← Array.replicate_succ] at this
  simpa using this
/-- The same, under a condition on the world that each of the others keeps. -/
theorem wp_region_splitH {id : Nat} {a : Act} {w : World} (S : World → Prop) (hm : P.follows .mixedOrders = true) (hok : splitOk l o = true)
    (h : wpAnyH P .any l.toArray (QLast P (l ++ [o]).toArray l.length Q) S l.length (Array.replicate l.length false) a w.drew) : (Code.region id (l ++ [o]).toArray true).wp P Q a w :=
  wp_region_split hm hok (wpAny_of_held _ _ _ _ h)
end
end Go.Proofs.Ytkfcdfcoiglieaa
