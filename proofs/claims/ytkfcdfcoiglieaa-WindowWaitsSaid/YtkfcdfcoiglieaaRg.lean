/- A region that draws its order, by a rely and a guarantee: each operation is walked once, whatever came ahead of it. No condition. -/
import Derived.Test.YtkfcdfcoiglieaaMem
import Derived.Orders
namespace Go.Proofs.Ytkfcdfcoiglieaa
open Go.RowKit

/-- What an operation yields, and the world behind it. -/
def Does (P : Program) (o : Oper) (a : Act) (w : World) (post : Value → World → Prop) : Prop :=
  match (execOp a.eval o).run P w with
  | .ok (.value v) w' => post v w'
  | .ok .skip w' => post undef w'
  | .ok (.enter f args) w' => Calls P f args w' fun e w'' => ∃ v, e = .returned v ∧ post v w''
  | _ => False

theorem Does.wp {P : Program} {ops : Array Oper} {Q : Exit → Act → World → Prop} {i : Nat} {o : Oper} {a : Act} {w : World} {K : Act → World → Prop} (hi : ops[i]? = some o) (hg : o.guard = none)
    (h : Does P o a w fun v w' => K (a.put o.dst v) w') : wpOp P ops Q i K a w := by
  have hw : Region.wanted o (yielded ops a.tmps) = true := by simp [Region.wanted, hg]
  unfold wpOp
  simp only [hi, hw, if_true]
  refine .inl ?_
  unfold Does at h
  unfold Oper.wp
  generalize (execOp a.eval o).run P w = r at h
  cases r with
  | ok n w' =>
    cases n <;> simp only [Oper.upon] at h ⊢
    case value v => exact h
    case skip => exact h
    case enter f args =>
      refine Calls.mono h fun e w'' he => ?_
      obtain ⟨v, rfl, hv⟩ := he
      exact hv
  | halt x w' => simp only at h

theorem act_ext {a b : Act} (h : a.tmps = b.tmps) (h' : a.defers = b.defers) : a = b := by
  cases a; cases b; simp_all
/-- The operations of a region, by its number. -/
def regionOf (id : Nat) : Code → Option (Array Oper)
  | .region i ops _ => if i = id then some ops else none
  | .seq a b => match regionOf id a with
    | some r => some r
    | none => regionOf id b
  | .cond _ a b => match regionOf id a with
    | some r => some r
    | none => regionOf id b
  | .block _ c => regionOf id c
  | .loop c => regionOf id c
  | .scope c => regionOf id c
  | .rangeFunc _ _ a b => match regionOf id a with
    | some r => some r
    | none => regionOf id b
  | _ => none
def fillAll (a : Act) (B : List (Nat × Tmp)) (vals : Nat → Value) : Act := B.foldl (fun a p => a.put (some p.2) (vals p.1)) a
def depOn (md : Region.Mode) (o : Oper) (j : Nat) : Bool := o.after.any fun e => Region.binds md e && e.on == j

/-- What is to hold of the list B of operations (number, slot): none has come up, each is there, unguarded, writes its slot, and no other one of B does; what is not in B, and has not come up, waits for all of B. -/
def rgOk (md : Region.Mode) (ops : Array Oper) (listed : Array Bool) (size : Nat) (B : List (Nat × Tmp)) : Bool :=
  listed.size == ops.size &&
  B.all (fun p => (match ops[p.1]? with | some o => o.dst == some p.2 && o.guard.isNone | none => false) && decide (p.2 < size) && !listed.getD p.1 true) &&
  (B.map (·.1)).Nodup && (B.map (·.2)).Nodup && (List.range ops.size).all (fun k => match ops[k]? with | some o => o.after.all fun e => !Region.binds md e || decide (e.on < k) | none => true) &&
  (List.range ops.size).all fun k => listed.getD k true || (B.map (·.1)).contains k || match ops[k]? with | some o => B.all fun p => depOn md o p.1 || B.any fun q => depOn md o q.1 && (match ops[q.1]? with | some oq => depOn md oq p.1 | none => false) | none => true

def markAll (listed : Array Bool) (B : List (Nat × Tmp)) : Array Bool := B.foldl (fun l p => l.setIfInBounds p.1 true) listed

section
theorem fillAll_size (B : List (Nat × Tmp)) (vals : Nat → Value) : ∀ a : Act, (fillAll a B vals).tmps.size = a.tmps.size ∧ (fillAll a B vals).defers = a.defers := by
  induction B with
  | nil => intro a; exact ⟨rfl, rfl⟩
  | cons p B ih =>
    intro a
    have h := ih (a.put (some p.2) (vals p.1))
    exact ⟨by rw [fillAll, List.foldl_cons, ← fillAll, h.1]; simp [Act.put], by rw [fillAll, List.foldl_cons, ← fillAll, h.2]; rfl⟩
theorem fillAll_get (B : List (Nat × Tmp)) (vals : Nat → Value) (hn : (B.map (·.2)).Nodup) (t : Nat) :
    ∀ a : Act, (fillAll a B vals).tmps[t]? = (match B.find? (fun p => p.2 == t) with | some p => if t < a.tmps.size then some (vals p.1) else none | none => a.tmps[t]?) := by
  induction B with
  | nil => intro a; rfl
  | cons p B ih =>
    intro a
    rw [List.map_cons, List.nodup_cons] at hn
    have h := ih hn.2 (a.put (some p.2) (vals p.1))
    rw [fillAll, List.foldl_cons, ← fillAll, h, List.find?_cons]
    by_cases hp : p.2 = t
    · subst hp
      have hnone : B.find? (fun q => q.2 == p.2) = none := by
        rw [List.find?_eq_none]
        intro q hq he
        exact hn.1 (List.mem_map.2 ⟨q, hq, by simpa using he⟩)
      simp only [hnone, beq_self_eq_true, Act.put]
      rw [Array.getElem?_setIfInBounds]
      simp
    · have hb : (p.2 == t) = false := by simpa using hp
      simp only [hb, Act.put, Array.size_setIfInBounds]
      cases hq : B.find? (fun p => p.2 == t) with
      | none => exact Array.getElem?_setIfInBounds_ne hp
      | some q => rfl
theorem markAll_get (B : List (Nat × Tmp)) : ∀ (l : Array Bool) (k : Nat), (markAll l B).size = l.size ∧ (markAll l B)[k]? = if (B.map (·.1)).contains k ∧ k < l.size then some true else l[k]? := by
  induction B with
  | nil => intro l k; exact ⟨rfl, by simp [markAll]⟩
  | cons p B ih =>
    intro l k
    obtain ⟨h1, h2⟩ := ih (l.setIfInBounds p.1 true) k
    refine ⟨by rw [markAll, List.foldl_cons, ← markAll, h1]; simp, ?_⟩
    rw [markAll, List.foldl_cons, ← markAll, h2, Array.size_setIfInBounds, Array.getElem?_setIfInBounds]
    by_cases hp : p.1 = k
    · subst hp
      by_cases hl : p.1 < l.size <;> simp [hl]
    · have hc : (List.map (fun x => x.1) (p :: B)).contains k = (List.map (fun x => x.1) B).contains k := by
        rw [List.map_cons, List.contains_cons, show (k == p.1) = false from by simpa using fun h : k = p.1 => hp h.symm, Bool.false_or]
      rw [if_neg hp, hc]
end

theorem nodup_map_inj {α β : Type} {f : α → β} {l : List α} (h : (l.map f).Nodup) {x y : α} (hx : x ∈ l) (hy : y ∈ l) (he : f x = f y) : x = y := by
  induction l with
  | nil => cases hx
  | cons z l ih =>
    rw [List.map_cons, List.nodup_cons] at h
    rcases List.mem_cons.1 hx with rfl | hx
    · rcases List.mem_cons.1 hy with rfl | hy
      · rfl
      · exact absurd (List.mem_map.2 ⟨y, hy, he.symm⟩) h.1
    · rcases List.mem_cons.1 hy with hy' | hy
      · exact absurd (List.mem_map.2 ⟨x, hx, by rw [he, hy']⟩) h.1
      · exact ih h.2 hx hy
theorem nodup_of_map {α β : Type} {f : α → β} {l : List α} (h : (l.map f).Nodup) : l.Nodup := by
  induction l with
  | nil => exact List.nodup_nil
  | cons z l ih =>
    rw [List.map_cons, List.nodup_cons] at h
    exact List.nodup_cons.2 ⟨fun hz => h.1 (List.mem_map.2 ⟨z, hz, rfl⟩), ih h.2⟩

theorem find_back {B : List (Nat × Tmp)} (hn1 : (B.map (·.1)).Nodup) {p : Nat × Tmp} (hp : p ∈ B) : B.find? (fun q => q.1 == p.1) = some p := by
  cases hq : B.find? (fun q => q.1 == p.1) with
  | none => rw [List.find?_eq_none] at hq; exact absurd (beq_self_eq_true _) (hq p hp)
  | some q =>
    have hqB := List.mem_of_find?_eq_some hq
    have hqe : q.1 = p.1 := by simpa using List.find?_some hq
    exact congrArg some (nodup_map_inj hn1 hqB hp hqe)
theorem fill_back {ops : Array Oper} {listed0 : Array Bool} {B : List (Nat × Tmp)} {a a0 : Act} (hB1 : ∀ p ∈ B, ∃ o, ops[p.1]? = some o ∧ o.dst = some p.2 ∧ o.guard = none ∧ p.2 < a0.tmps.size ∧ listed0.getD p.1 true = false)
    (hn1 : (B.map (·.1)).Nodup) (hn2 : (B.map (·.2)).Nodup) (hsz : a.tmps.size = a0.tmps.size) (hdf : a.defers = a0.defers) (hag : ∀ t, (∀ p ∈ B, p.2 ≠ t) → a.tmps[t]? = a0.tmps[t]?) :
    a = fillAll a0 B (fun j => match B.find? (fun p => p.1 == j) with | some p => a.tmps.getD p.2 undef | none => undef) := by
  obtain ⟨h1, h2⟩ := fillAll_size B (fun j => match B.find? (fun p => p.1 == j) with | some p => a.tmps.getD p.2 undef | none => undef) a0
  have h3 : a.tmps = (fillAll a0 B (fun j => match B.find? (fun p => p.1 == j) with | some p => a.tmps.getD p.2 undef | none => undef)).tmps := by
    apply Array.ext_getElem?
    intro t
    rw [fillAll_get B _ hn2 t a0]
    split
    · rename_i p hp
      have hpB := List.mem_of_find?_eq_some hp
      have hpt : p.2 = t := by simpa using List.find?_some hp
      subst hpt
      obtain ⟨o, _, _, _, hlt, _⟩ := hB1 p hpB
      rw [if_pos hlt]
      simp only [find_back hn1 hpB]
      rw [Array.getD_eq_getD_getElem?, Array.getElem?_eq_getElem (by rw [hsz]; exact hlt)]
      rfl
    · rename_i hp
      rw [List.find?_eq_none] at hp
      exact hag t (fun p hpB e => hp p hpB (by simpa using e))
  exact act_ext h3 (hdf.trans h2.symm)

theorem Does.mono {P : Program} {o : Oper} {a : Act} {w : World} {post post' : Value → World → Prop} (h : Does P o a w post) (hp : ∀ v w', post v w' → post' v w') : Does P o a w post' := by
  unfold Does at *
  split <;> rename_i hr <;> simp only [hr] at h
  · exact hp _ _ h
  · exact hp _ _ h
  · exact Calls.mono h fun e w'' ⟨v, he, hv⟩ => ⟨v, he, hp _ _ hv⟩

section
variable {P : Program} {md : Region.Mode} {ops : Array Oper} {Q : Exit → Act → World → Prop}
theorem wpAny_rg (B : List (Nat × Tmp)) (listed0 : Array Bool) (a0 : Act) (hok : rgOk md ops listed0 a0.tmps.size B = true) (f : Nat)
    (R : World → Prop) (G : Nat → World → World → Prop) (φ : Nat → Value → World → Prop)
    (hst : ∀ i j v w w', i ≠ j → G i w w' → φ j v w → φ j v w') (ψ : Nat → World → Prop) (hψ : ∀ i j w w', i ≠ j → (∀ o, ops[i]? = some o → depOn md o j = false) → G i w w' → ψ j w → ψ j w')
    (hstep : ∀ p ∈ B, ∀ o, ops[p.1]? = some o → ∀ (vals : Nat → Value) (w : World), R w → ψ p.1 w → (∀ j, depOn md o j = true → (B.map (·.1)).contains j = true → φ j (vals j) w) →
      Does P o (fillAll a0 B vals) w fun v w' => R w' ∧ G p.1 w w' ∧ φ p.1 v w')
    (hend : ∀ (vals : Nat → Value) (w : World), R w → (∀ p ∈ B, φ p.1 (vals p.1) w) → wpAny P md ops Q f (markAll listed0 B) (fillAll a0 B vals) w) (w0 : World) (h0 : R w0) (h0ψ : ∀ p ∈ B, ψ p.1 w0) :
    wpAny P md ops Q (B.length + f) listed0 a0 w0 := by
  simp only [rgOk, Bool.and_eq_true, beq_iff_eq, List.all_eq_true, decide_eq_true_eq, Bool.not_eq_true', List.mem_range, Bool.or_eq_true] at hok
  obtain ⟨⟨⟨⟨⟨hlsz, hB⟩, hn1⟩, hn2⟩, hacy⟩, hwait⟩ := hok
  have hB1 : ∀ p ∈ B, ∃ o, ops[p.1]? = some o ∧ o.dst = some p.2 ∧ o.guard = none ∧ p.2 < a0.tmps.size ∧ listed0.getD p.1 true = false := by
    intro p hp
    obtain ⟨⟨h1, h2⟩, h3⟩ := hB p hp
    split at h1
    · rename_i o ho
      simp only [Bool.and_eq_true, beq_iff_eq, Option.isNone_iff_eq_none] at h1
      exact ⟨o, ho, h1.1, h1.2, h2, h3⟩
    · cases h1
  -- the state between two operations
  have main : ∀ (m : Nat) (D U : List (Nat × Tmp)) (listed : Array Bool) (a : Act) (w : World), U.length = m → (∀ p, p ∈ B ↔ p ∈ D ∨ p ∈ U) → (∀ p ∈ U, p ∉ D) → U.Nodup →
      listed.size = listed0.size → (∀ k, listed[k]? = if (D.map (·.1)).contains k ∧ k < listed0.size then some true else listed0[k]?) →
      a.tmps.size = a0.tmps.size → a.defers = a0.defers → (∀ t, (∀ p ∈ B, p.2 ≠ t) → a.tmps[t]? = a0.tmps[t]?) → R w → (∀ p ∈ D, φ p.1 (a.tmps.getD p.2 undef) w) → (∀ p ∈ U, ψ p.1 w) → (∀ p ∈ D, ∀ o, ops[p.1]? = some o → ∀ q ∈ B, depOn md o q.1 = true → q ∈ D) →
      wpAny P md ops Q (m + f) listed a w := by
    intro m
    induction m with
    | zero =>
      intro D U listed a w hU hBD hUD hUn hls hl hsz hdf hag hR hφ hψU hcl
      have hU0 : U = [] := List.eq_nil_of_length_eq_zero hU
      subst hU0
      have hlisted : listed = markAll listed0 B := by
        apply Array.ext_getElem?
        intro k
        rw [hl k, (markAll_get B listed0 k).2]
        have : (D.map (·.1)).contains k = (B.map (·.1)).contains k := by
          rw [Bool.eq_iff_iff, List.contains_iff_mem, List.contains_iff_mem, List.mem_map, List.mem_map]
          constructor
          · rintro ⟨p, hp, rfl⟩; exact ⟨p, (hBD p).2 (.inl hp), rfl⟩
          · rintro ⟨p, hp, rfl⟩
            rcases (hBD p).1 hp with h | h
            · exact ⟨p, h, rfl⟩
            · cases h
        rw [this]
      have ha : a = fillAll a0 B (fun j => match B.find? (fun p => p.1 == j) with | some p => a.tmps.getD p.2 undef | none => undef) := fill_back hB1 hn1 hn2 hsz hdf hag
      rw [Nat.zero_add, ha, hlisted]
      refine hend _ w hR (fun p hp => ?_)
      simp only [find_back hn1 hp]
      rcases (hBD p).1 hp with h | h
      · exact hφ p h
      · cases h
    | succ m ih =>
      intro D U listed a w hU hBD hUD hUn hls hl hsz hdf hag hR hφ hψU hcl
      have hget : ∀ k, listed.getD k true = if (D.map (·.1)).contains k ∧ k < listed0.size then true else listed0.getD k true := by
        intro k
        rw [Array.getD_eq_getD_getElem?, hl k, Array.getD_eq_getD_getElem?]
        split <;> rfl
      -- who is ready is in U
      have hready : ∀ i ∈ Region.ready md ops listed, ∃ p ∈ U, p.1 = i := by
        intro i hi
        obtain ⟨hun, o, ho, hall⟩ := mem_ready.1 hi
        have hisz : i < ops.size := (Array.getElem?_eq_some_iff.1 ho).1
        rw [hget i] at hun
        by_cases hD : (D.map (·.1)).contains i = true ∧ i < listed0.size
        · rw [if_pos hD] at hun; cases hun
        · rw [if_neg hD] at hun
          have hDi : ¬ (D.map (·.1)).contains i = true := fun h => hD ⟨h, by rw [hlsz]; exact hisz⟩
          rcases hwait i hisz with (h | h) | h
          · rw [hun] at h; cases h
          · obtain ⟨p, hp, hpi⟩ := List.mem_map.1 (List.contains_iff_mem.1 h)
            rcases (hBD p).1 hp with hpD | hpU
            · exact absurd (List.contains_iff_mem.2 (List.mem_map.2 ⟨p, hpD, hpi⟩)) hDi
            · exact ⟨p, hpU, hpi⟩
          · exfalso
            simp only [ho] at h
            obtain ⟨u, hu⟩ : ∃ u, u ∈ U := by
              cases U with
              | nil => cases hU
              | cons u U => exact ⟨u, List.mem_cons_self ..⟩
            have huB := (hBD u).2 (.inr hu)
            have hno : ∀ u ∈ U, depOn md o u.1 = true → False := by
              intro u hu hw
              have huB := (hBD u).2 (.inr hu)
              unfold depOn at hw
              obtain ⟨e, he, hb⟩ := Array.any_eq_true'.1 hw
              simp only [Bool.and_eq_true, beq_iff_eq] at hb
              have hl1 := hall e he hb.1
              rw [hb.2] at hl1
              obtain ⟨ou, hou, _, _, _, hun0⟩ := hB1 u huB
              have hul : u.1 < listed.size := by rw [hls, hlsz]; exact (Array.getElem?_eq_some_iff.1 hou).1
              have hl2 : listed.getD u.1 true = true := by
                rw [Array.getD_eq_getD_getElem?, Array.getElem?_eq_getElem hul] at hl1 ⊢
                exact hl1
              rw [hget u.1] at hl2
              have hDu : ¬ ((D.map (·.1)).contains u.1 = true ∧ u.1 < listed0.size) := by
                rintro ⟨hc, _⟩
                obtain ⟨q, hq, hqe⟩ := List.mem_map.1 (List.contains_iff_mem.1 hc)
                have : q = u := nodup_map_inj hn1 ((hBD q).2 (.inl hq)) huB hqe
                subst this
                exact hUD _ hu hq
              rw [if_neg hDu, hun0] at hl2
              cases hl2
            have hw := List.all_eq_true.1 h u huB
            rcases Bool.or_eq_true_iff.1 hw with hw | hw
            · exact hno u hu hw
            · obtain ⟨q, hq, hw⟩ := List.any_eq_true.1 hw
              obtain ⟨hw1, hw2⟩ := Bool.and_eq_true_iff.1 hw
              rcases (hBD q).1 hq with hqD | hqU
              · obtain ⟨oq, hoq, _⟩ := hB1 q hq
                simp only [hoq] at hw2
                exact hUD u hu (hcl q hqD oq hoq u huB hw2)
              · exact hno q hqU hw1
      rw [show m + 1 + f = (m + f) + 1 by omega]
      refine ⟨fun h0 => ?_, fun i hi => ?_⟩
      · exfalso
        -- one of U is ready: else none ever would be; U is not empty, and B's dependencies are acyclic: shown by the caller
        have hnone : ∀ n k, k < n → k < ops.size → listed.getD k true = true := by
          intro n
          induction n with
          | zero => intro k hk; omega
          | succ n ihn =>
            intro k hk hks
            cases hlk : listed.getD k true with
            | true => rfl
            | false =>
              exfalso
              obtain ⟨o, ho⟩ : ∃ o, ops[k]? = some o := ⟨_, Array.getElem?_eq_getElem hks⟩
              have : k ∈ Region.ready md ops listed := by
                refine mem_ready.2 ⟨hlk, o, ho, fun e he hb => ?_⟩
                have hlt := hacy k hks
                simp only [ho] at hlt
                have hlt := Array.all_eq_true_iff_forall_mem.1 hlt e he
                simp only [hb, Bool.not_true, Bool.false_or, decide_eq_true_eq] at hlt
                have h1 := ihn e.on (by omega) (by omega)
                have hel : e.on < listed.size := by rw [hls, hlsz]; omega
                rw [Array.getD_eq_getD_getElem?, Array.getElem?_eq_getElem hel] at h1 ⊢
                exact h1
              rw [h0] at this
              cases this
        obtain ⟨u, hu⟩ : ∃ u, u ∈ U := by
          cases U with
          | nil => cases hU
          | cons u U => exact ⟨u, List.mem_cons_self ..⟩
        have huB := (hBD u).2 (.inr hu)
        obtain ⟨ou, hou, _, _, _, hun0⟩ := hB1 u huB
        have hus : u.1 < ops.size := (Array.getElem?_eq_some_iff.1 hou).1
        have h1 := hnone (u.1 + 1) u.1 (by omega) hus
        rw [hget u.1] at h1
        have hDu : ¬ ((D.map (·.1)).contains u.1 = true ∧ u.1 < listed0.size) := by
          rintro ⟨hc, _⟩
          obtain ⟨q, hq, hqe⟩ := List.mem_map.1 (List.contains_iff_mem.1 hc)
          have : q = u := nodup_map_inj hn1 ((hBD q).2 (.inl hq)) huB hqe
          subst this
          exact hUD _ hu hq
        rw [if_neg hDu, hun0] at h1
        cases h1
      · obtain ⟨p, hpU, rfl⟩ := hready i hi
        have hpB := (hBD p).2 (.inr hpU)
        obtain ⟨o, ho, hd, hg, hlt, hun0⟩ := hB1 p hpB
        obtain ⟨hun, o', ho', hall⟩ := mem_ready.1 hi
        rw [ho] at ho'; injection ho' with ho'; subst ho'
        have hpsz : p.1 < ops.size := (Array.getElem?_eq_some_iff.1 ho).1
        refine Does.wp ho hg ?_
        have ha : a = fillAll a0 B (fun j => match B.find? (fun p => p.1 == j) with | some p => a.tmps.getD p.2 undef | none => undef) := fill_back hB1 hn1 hn2 hsz hdf hag
        have hdepD : ∀ q ∈ B, depOn md o q.1 = true → q ∈ D := by
          intro q hq hj
          unfold depOn at hj
          obtain ⟨e, he, hb⟩ := Array.any_eq_true'.1 hj
          simp only [Bool.and_eq_true, beq_iff_eq] at hb
          have hl1 := hall e he hb.1
          rw [hb.2] at hl1
          rcases (hBD q).1 hq with h | h
          · exact h
          · exfalso
            obtain ⟨oq, hoq, _, _, _, hq0⟩ := hB1 q hq
            have hql : q.1 < listed.size := by rw [hls, hlsz]; exact (Array.getElem?_eq_some_iff.1 hoq).1
            have hl2 : listed.getD q.1 true = true := by
              rw [Array.getD_eq_getD_getElem?, Array.getElem?_eq_getElem hql] at hl1 ⊢
              exact hl1
            rw [hget q.1] at hl2
            have hDq : ¬ ((D.map (·.1)).contains q.1 = true ∧ q.1 < listed0.size) := by
              rintro ⟨hc, _⟩
              obtain ⟨r, hr, hre⟩ := List.mem_map.1 (List.contains_iff_mem.1 hc)
              have : r = q := nodup_map_inj hn1 ((hBD r).2 (.inl hr)) hq hre
              subst this
              exact hUD _ h hr
            rw [if_neg hDq, hq0] at hl2
            cases hl2
        have hstep' := hstep p hpB o ho (fun j => match B.find? (fun p => p.1 == j) with | some p => a.tmps.getD p.2 undef | none => undef) w hR (hψU p hpU) (fun j hj hjB => by
          obtain ⟨q, hq, rfl⟩ := List.mem_map.1 (List.contains_iff_mem.1 hjB)
          simp only [find_back hn1 hq]
          exact hφ q (hdepD q hq hj))
        rw [← ha] at hstep'
        refine hstep'.mono fun v w' ⟨hR', hG, hv⟩ => ?_
        have hUe : (U.erase p).length = m := by rw [List.length_erase_of_mem hpU, hU]; rfl
        refine ih (p :: D) (U.erase p) _ _ _ hUe (fun q => ?_) (fun q hq => ?_) (hUn.erase p) (by rw [Array.size_setIfInBounds, hls]) (fun k => ?_) (by rw [hd]; simp [Act.put, hsz]) (by rw [hd]; exact hdf) (fun t ht => ?_) hR' (fun q hq => ?_) (fun q hq => ?_) (fun q hq oq hoq r hr hdr => ?_)
        · rw [hBD q, List.mem_cons]
          by_cases hqp : q = p
          · subst hqp; simp [hpU]
          · rw [List.mem_erase_of_ne hqp]; simp [hqp]
        · rw [List.mem_cons]
          rintro (rfl | h)
          · exact (List.Nodup.not_mem_erase hUn) hq
          · exact hUD q (List.mem_of_mem_erase hq) h
        · rw [Array.getElem?_setIfInBounds, hl k]
          have hpl : p.1 < listed0.size := by rw [hlsz]; exact hpsz
          by_cases hk : p.1 = k
          · subst hk
            simp [hls, hpl]
          · have hk' : (k == p.1) = false := by simpa using fun h : k = p.1 => hk h.symm
            simp only [hk, if_false, List.map_cons, List.contains_cons, hk', Bool.false_or]
        · rw [hd]
          simp only [Act.put]
          rw [Array.getElem?_setIfInBounds_ne (ht p hpB)]
          exact hag t ht
        · rw [hd]
          simp only [Act.put]
          rcases List.mem_cons.1 hq with rfl | hq
          · rw [Array.getD_eq_getD_getElem?, Array.getElem?_setIfInBounds]
            simp only [if_true]
            rw [if_pos (by rw [hsz]; exact hlt)]
            exact hv
          · have hqp : p.2 ≠ q.2 := fun e => by
              have : p = q := nodup_map_inj hn2 hpB ((hBD q).2 (.inl hq)) e
              subst this
              exact hUD _ hpU hq
            rw [Array.getD_eq_getD_getElem?, Array.getElem?_setIfInBounds_ne hqp, ← Array.getD_eq_getD_getElem?]
            exact hst _ _ _ _ _ (fun e => hqp (by rw [nodup_map_inj hn1 hpB ((hBD q).2 (.inl hq)) e])) hG (hφ q hq)
        · have hqU := List.mem_of_mem_erase hq
          have hqB := (hBD q).2 (.inr hqU)
          have hne : p.1 ≠ q.1 := fun e => by
            have : p = q := nodup_map_inj hn1 hpB hqB e
            subst this
            exact (List.Nodup.not_mem_erase hUn) hq
          refine hψ p.1 q.1 _ _ hne (fun o' ho' => ?_) hG (hψU q hqU)
          rw [ho] at ho'; injection ho' with ho'; subst ho'
          cases hdp : depOn md o q.1 with
          | false => rfl
          | true => exact absurd (hdepD q hqB hdp) (hUD q hqU)
        · rcases List.mem_cons.1 hq with rfl | hq
          · rw [ho] at hoq; injection hoq with hoq; subst hoq
            exact List.mem_cons_of_mem _ (hdepD r hr hdr)
          · exact List.mem_cons_of_mem _ (hcl q hq oq hoq r hr hdr)
  exact main B.length [] B listed0 a0 w0 rfl (fun p => by simp) (fun p _ => by simp) (nodup_of_map hn1) rfl (fun k => by simp) rfl rfl (fun _ _ => rfl) h0 (fun p hp => by cases hp) h0ψ (fun p hp => by cases hp)

/-- What is to be shown of the operations from number i on, n of them. -/
def rgAll (P : Program) (md : Region.Mode) (R : World → Prop) (G : Nat → World → World → Prop) (φ : Nat → Value → World → Prop) (ψ : Nat → World → Prop) (fill : (Nat → Value) → Act) : Nat → Nat → List Oper → Prop
  | 0, _, _ => True
  | _ + 1, _, [] => False
  | n + 1, i, o :: rest => (∀ (vals : Nat → Value) (w : World), R w → ψ i w → (∀ j, depOn md o j = true → φ j (vals j) w) → Does P o (fill vals) w fun v w' => R w' ∧ G i w w' ∧ φ i v w') ∧ rgAll P md R G φ ψ fill n (i + 1) rest
theorem rgAll_get {R : World → Prop} {G : Nat → World → World → Prop} {φ : Nat → Value → World → Prop} {ψ : Nat → World → Prop} {fill : (Nat → Value) → Act} :
    ∀ (n i : Nat) (l : List Oper), rgAll P md R G φ ψ fill n i l → ∀ (k : Nat) (o : Oper), k < n → l[k]? = some o → ∀ (vals : Nat → Value) (w : World), R w → ψ (i + k) w → (∀ j, depOn md o j = true → φ j (vals j) w) →
      Does P o (fill vals) w fun v w' => R w' ∧ G (i + k) w w' ∧ φ (i + k) v w'
  | 0, _, _, _, k, _, hk, _ => by omega
  | n + 1, i, [], h, _, _, _, _ => h.elim
  | n + 1, i, x :: rest, h, 0, o, _, hl => by
    have : x = o := by simpa using hl
    subst this
    exact h.1
  | n + 1, i, x :: rest, h, k + 1, o, hk, hl => by
    have := rgAll_get n (i + 1) rest h.2 k o (by omega) (by simpa using hl)
    rw [show i + (k + 1) = i + 1 + k by omega]
    exact this

theorem rgOk_acy {listed : Array Bool} {size : Nat} {B : List (Nat × Tmp)} (h : rgOk md ops listed size B = true) (k : Nat) (o : Oper) (ho : ops[k]? = some o) (e : Edge) (he : e ∈ o.after) (hb : Region.binds md e = true) : e.on < k := by
  simp only [rgOk, Bool.and_eq_true] at h
  have h1 := List.all_eq_true.1 h.1.2 k (List.mem_range.2 (Array.getElem?_eq_some_iff.1 ho).1)
  simp only [ho] at h1
  have h2 := Array.all_eq_true_iff_forall_mem.1 h1 e he
  simpa [hb] using h2
/-- A region that draws its order, all of B in whatever order, then one operation. -/
theorem wp_region_rg1 {id : Nat} {a : Act} {w0 : World} (B : List (Nat × Tmp)) (k : Nat) (opk : Op) (dstk : Option Tmp) (hm : P.follows .mixedOrders = true)
    (hok : rgOk .any ops (Array.replicate ops.size false) a.tmps.size B = true) (hsz : ops.size = B.length + 1) (hk : (ops[k]?).map (fun o => (o.op, o.dst, o.guard)) = some (opk, dstk, none))
    (hr1 : Region.ready .any ops (markAll (Array.replicate ops.size false) B) = [k]) (hr2 : Region.ready .any ops ((markAll (Array.replicate ops.size false) B).setIfInBounds k true) = [])
    (R : World → Prop) (G : Nat → World → World → Prop) (φ : Nat → Value → World → Prop) (hst : ∀ i j v w w', i ≠ j → G i w w' → φ j v w → φ j v w')
    (ψ : Nat → World → Prop) (hψ : ∀ i j w w', i ≠ j → (∀ o, ops[i]? = some o → depOn .any o j = false) → G i w w' → ψ j w → ψ j w') (h0 : R w0.drew) (h0ψ : ∀ p ∈ B, ψ p.1 w0.drew)
    (hidx : B.map (·.1) = List.range B.length)
    (hsteps : rgAll P .any R G φ ψ (fun vals => fillAll a B vals) B.length 0 ops.toList)
    (hend : ∀ (o : Oper), o.op = opk → ∀ (vals : Nat → Value) (w : World), R w → (∀ j, (B.map (·.1)).contains j = true → φ j (vals j) w) → Does P o (fillAll a B vals) w fun v w' => Q .normal ((fillAll a B vals).put dstk v) w') :
    (Code.region id ops true).wp P Q a w0 := by
  refine wp_region_any hm ?_
  obtain ⟨o, hko, hoe⟩ : ∃ o, ops[k]? = some o ∧ (o.op, o.dst, o.guard) = (opk, dstk, none) := by
    cases hq : ops[k]? with
    | none => rw [hq] at hk; cases hk
    | some o => rw [hq] at hk; injection hk with hk; exact ⟨o, rfl, hk⟩
  injection hoe with ho1 ho2
  injection ho2 with ho2 ho3
  have := wpAny_rg (P := P) (md := .any) (ops := ops) (Q := Q) B (Array.replicate ops.size false) a hok 1 R G φ hst ψ hψ (fun p hp o ho vals w hR hps hd => by
    have hpl : p.1 < B.length := by
      have : p.1 ∈ B.map (·.1) := List.mem_map.2 ⟨p, hp, rfl⟩
      rw [hidx] at this
      exact List.mem_range.1 this
    have := rgAll_get B.length 0 ops.toList hsteps p.1 o hpl (by simpa using ho) vals w hR (by rw [Nat.zero_add]; exact hps) (fun j hj => hd j hj (by
      rw [hidx, List.contains_iff_mem, List.mem_range]
      unfold depOn at hj
      obtain ⟨e, he, hb⟩ := Array.any_eq_true'.1 hj
      simp only [Bool.and_eq_true, beq_iff_eq] at hb
      have hacy := (rgOk_acy hok) p.1 o ho e he hb.1
      omega))
    rwa [Nat.zero_add] at this) (fun vals w hR hφ => by
    refine wpAny_all hr1 (by simp) (fun i hi => ?_)
    have hi : i = k := by simpa using hi
    subst hi
    rw [← ho2] at hend
    refine Does.wp hko ho3 ((hend o ho1 vals w hR (fun j hj => ?_)).mono fun v w' hq => wpAny_done hr2 hq 0)
    obtain ⟨p, hp, rfl⟩ := List.mem_map.1 (List.contains_iff_mem.1 hj)
    exact hφ p hp) w0.drew h0 h0ψ
  rw [hsz]
  rw [hsz] at this
  exact this

theorem fill_eval {a : Act} {B : List (Nat × Tmp)} {vals : Nat → Value} {n : Nat} (hsz : a.tmps.size = n) (j t : Nat) (h : ((B.map (·.2)).Nodup && B.contains (j, t) && decide (t < n)) = true) : (fillAll a B vals).eval (.tmp t) = vals j := by
  simp only [Bool.and_eq_true, decide_eq_true_eq] at h
  obtain ⟨⟨hn, hc⟩, ht⟩ := h
  have hm : (j, t) ∈ B := List.contains_iff_mem.1 hc
  unfold Act.eval
  simp only
  rw [Array.getD_eq_getD_getElem?, fillAll_get B vals hn t a]
  have hf : B.find? (fun p => p.2 == t) = some (j, t) := by
    cases hq : B.find? (fun p => p.2 == t) with
    | none => rw [List.find?_eq_none] at hq; exact absurd (beq_self_eq_true _) (hq (j, t) hm)
    | some q =>
      have hqB := List.mem_of_find?_eq_some hq
      have hqe : q.2 = t := by simpa using List.find?_some hq
      exact congrArg some (nodup_map_inj hn hqB hm hqe)
  rw [hf]
  simp only
  rw [if_pos (by omega)]
  rfl
theorem fill_other {a : Act} {B : List (Nat × Tmp)} {vals : Nat → Value} (t : Nat) (h : ((B.map (·.2)).Nodup && !(B.map (·.2)).contains t) = true) : (fillAll a B vals).eval (.tmp t) = a.eval (.tmp t) := by
  simp only [Bool.and_eq_true, Bool.not_eq_true'] at h
  obtain ⟨hn, hc⟩ := h
  have hn := of_decide_eq_true hn
  unfold Act.eval
  simp only
  rw [Array.getD_eq_getD_getElem?, fillAll_get B vals hn t a]
  have hf : B.find? (fun p => p.2 == t) = none := by
    rw [List.find?_eq_none]
    intro p hp he
    have : t ∈ B.map (·.2) := List.mem_map.2 ⟨p, hp, by simpa using he⟩
    rw [← List.contains_iff_mem, hc] at this
    cases this
  rw [hf, Array.getD_eq_getD_getElem?]
end
end Go.Proofs.Ytkfcdfcoiglieaa
