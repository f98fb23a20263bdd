/- As text QTail, where a bare move is not waited for by the first operations of the chain: it may be carried out first. No condition. -/
import Derived.Test.YtkfcdfcoiglieaaQTail
namespace Go.Proofs.Ytkfcdfcoiglieaa
open Go.RowKit

/-- The same operation, but for what it waits for. -/
def Alike1 (o o' : Oper) : Prop := o' = { o with after := o'.after }
theorem Alike1.wp {P : Program} {o o' : Oper} (h : Alike1 o o') {a : Act} {w : World} {K : Act → World → Prop} {Q : Exit → Act → World → Prop} : o'.wp P a w K Q ↔ o.wp P a w K Q := by
  rw [h]; exact Iff.rfl
theorem Alike1.asks {P : Program} {o o' : Oper} (h : Alike1 o o') {a : Act} {w : World} : o'.asks P a w ↔ o.asks P a w := by
  rw [h]; exact Iff.rfl
theorem Alike1.quiet {P : Program} {o o' : Oper} (h : Alike1 o o') {a : Act} {C : World → Prop} {K : Act → Prop} : o'.quiet P a C K ↔ o.quiet P a C K := by
  rw [h]; exact Iff.rfl
/-- All but the first of l wait for number i (which stands among the first). -/
def addE (i : Nat) (l : List Oper) : List Oper := l.take (i + 1) ++ (l.drop (i + 1)).map fun o => { o with after := o.after.push { on := i, ground := .data } }
theorem addE_length (i : Nat) (l : List Oper) : (addE i l).length = l.length := by unfold addE; simp; omega
theorem addE_get (i : Nat) (l : List Oper) (k : Nat) : (addE i l)[k]? = if k < i + 1 then l[k]? else (l[k]?).map fun o => { o with after := o.after.push { on := i, ground := .data } } := by
  unfold addE
  by_cases hk : k < i + 1
  · rw [if_pos hk]
    rcases Nat.lt_or_ge k l.length with h | h
    · rw [List.getElem?_append_left (by simp; omega), List.getElem?_take, if_pos hk]
    · rw [List.getElem?_eq_none h, List.getElem?_eq_none (by simp; omega)]
  · rw [if_neg hk]
    rcases Nat.lt_or_ge i l.length with h | h
    · have hl : (l.take (i + 1)).length = i + 1 := by simp; omega
      rw [List.getElem?_append_right (by omega), hl, List.getElem?_map, List.getElem?_drop, show i + 1 + (k - (i + 1)) = k from by omega]
    · rw [List.getElem?_eq_none (l := l) (by omega), List.getElem?_eq_none (by simp; omega)]; rfl
theorem addE_alike {i : Nat} {l : List Oper} {k : Nat} {o : Oper} (h : l[k]? = some o) : ∃ o', (addE i l)[k]? = some o' ∧ Alike1 o o' ∧ ∀ e, e ∈ o'.after ↔ e ∈ o.after ∨ (i < k ∧ e = { on := i, ground := .data }) := by
  rw [addE_get, h]
  by_cases hk : k < i + 1
  · rw [if_pos hk]; exact ⟨o, rfl, rfl, fun e => ⟨.inl, fun h => h.elim id (fun h => absurd h.1 (by omega))⟩⟩
  · rw [if_neg hk]
    exact ⟨_, rfl, rfl, fun e => by simp only [Array.mem_push]; exact ⟨fun h => h.imp id (fun h => ⟨by omega, h⟩), fun h => h.imp id (fun h => h.2)⟩⟩
section
variable {P : Program} {Q : Exit → Act → World → Prop} {l : List Oper} {i : Nat}
theorem wpOp_alike (hg : ∀ o ∈ l, o.guard = none) {k : Nat} {K K' : Act → World → Prop} {a : Act} {w : World} (hK : ∀ a w, K a w → K' a w) (h : wpOp P (addE i l).toArray Q k K a w) : wpOp P l.toArray Q k K' a w := by
  unfold wpOp at h ⊢
  cases hk : l[k]? with
  | none =>
    have : (addE i l)[k]? = none := by rw [addE_get, hk]; split <;> rfl
    simp only [List.getElem?_toArray, hk, this] at h ⊢
    exact hK _ _ h
  | some o =>
    obtain ⟨o', ho', hal, _⟩ := addE_alike (i := i) hk
    have hgo := hg o (List.mem_of_getElem? hk)
    have hgo' : o'.guard = none := by rw [hal]; exact hgo
    simp only [List.getElem?_toArray, hk, ho'] at h ⊢
    have w1 : Region.wanted o (yielded l.toArray a.tmps) = true := by simp [Region.wanted, hgo]
    have w2 : Region.wanted o' (yielded (addE i l).toArray a.tmps) = true := by simp [Region.wanted, hgo']
    rw [w1, if_pos rfl]; rw [w2, if_pos rfl] at h
    rcases h with h | ⟨h1, h2⟩
    · exact .inl (Oper.wp_mono hK (hal.wp.1 h))
    · exact .inr ⟨hal.asks.1 h1, h2⟩
theorem ready_alike {listed : Array Bool} (hi : listed.getD i true = true) (hs : i < listed.size) : Region.ready .any (addE i l).toArray listed = Region.ready .any l.toArray listed := by
  unfold Region.ready
  simp only [List.size_toArray, addE_length]
  apply List.filter_congr
  intro k hk
  congr 1
  simp only [List.getElem?_toArray]
  cases hk : l[k]? with
  | none => have : (addE i l)[k]? = none := by rw [addE_get, hk]; split <;> rfl
            rw [this]
  | some o =>
    obtain ⟨o', ho', _, hm⟩ := addE_alike (i := i) hk
    rw [ho']
    simp only [Option.map_some, Option.getD_some]
    rw [Bool.eq_iff_iff, Array.all_eq_true_iff_forall_mem, Array.all_eq_true_iff_forall_mem]
    have hif : listed.getD i false = true := by
      rw [Array.getD_eq_getD_getElem?, Array.getElem?_eq_getElem hs] at hi ⊢
      exact hi
    constructor
    · intro h e he; exact h e ((hm e).2 (.inl he))
    · intro h e he
      rcases (hm e).1 he with he | ⟨_, rfl⟩
      · exact h e he
      · rw [hif]; simp
theorem wpAny_alike (hg : ∀ o ∈ l, o.guard = none) : ∀ (fuel : Nat) (listed : Array Bool) (a : Act) (w : World), listed.getD i true = true → i < listed.size → wpAny P .any (addE i l).toArray Q fuel listed a w → wpAny P .any l.toArray Q fuel listed a w
  | 0, listed, a, w, hi, hs, h => ⟨by rw [← ready_alike hi hs]; exact h.1, h.2⟩
  | fuel + 1, listed, a, w, hi, hs, h => by
    refine ⟨fun h0 => h.1 (by rw [ready_alike hi hs]; exact h0), fun k hk => ?_⟩
    refine wpOp_alike hg (fun a' w' h' => wpAny_alike hg fuel _ a' w' ?_ (by simpa using hs) h') (h.2 k (by rw [ready_alike hi hs]; exact hk))
    rw [Array.getD_eq_getD_getElem?, Array.getElem?_setIfInBounds]
    by_cases hki : k = i
    · subst hki; simp [hs]
    · rw [if_neg hki, ← Array.getD_eq_getD_getElem?]; exact hi
/-- A bare move may be taken first: so the others may be said to wait for it. -/
theorem wpAny_edge {a : Act} {w : World} {x : Operand} {oi : Oper} (hg : ∀ o ∈ l, o.guard = none) (hi : l[i]? = some oi) (hop : oi.op = .move x) (hs : Region.noSelect l.toArray = true) (hf : Region.free .any l.toArray (Array.replicate l.length false) i = true)
    (hr : (Region.ready .any l.toArray (Array.replicate l.length false)).contains i = true) (hr' : (Region.ready .any (addE i l).toArray (Array.replicate l.length false)).contains i = true)
    (hQ : ∀ c a v w, Q (.panic c) (a.put oi.dst v) w → Q (.panic c) a w)
    (h : wpAny P .any (addE i l).toArray Q l.length (Array.replicate l.length false) a w) : wpAny P .any l.toArray Q l.length (Array.replicate l.length false) a w := by
  have hil : i < l.length := (List.getElem?_eq_some_iff.1 hi).1
  obtain ⟨m, hm⟩ : ∃ m, l.length = m + 1 := ⟨l.length - 1, by omega⟩
  have hgi := hg oi (List.mem_of_getElem? hi)
  have hrun : ∀ w, (execOp a.eval oi).run P w = .ok (.value (a.eval x)) w := fun w => by unfold execOp; rw [hop]; rfl
  rw [hm] at h ⊢
  refine wpAny_take (i := i) (oi := oi) (v := a.eval x) (by simpa using hi) hs (by rw [← hm]; exact hf) (by rw [← hm]; exact hr) (fun c a w => hQ c a _ w) (.inl ⟨by simp [Region.wanted, hgi], hrun⟩) ?_
  have h1 := h.2 i (by rw [← hm]; simpa using hr')
  obtain ⟨o', ho', hal, _⟩ := addE_alike (i := i) hi
  unfold wpOp at h1
  simp only [List.getElem?_toArray, ho'] at h1
  have hgo' : o'.guard = none := by rw [hal]; exact hgi
  have w2 : Region.wanted o' (yielded (addE i l).toArray a.tmps) = true := by simp [Region.wanted, hgo']
  rw [w2, if_pos rfl] at h1
  have hrun' : (execOp a.eval o').run P w = .ok (.value (a.eval x)) w := by unfold execOp; rw [show o'.op = .move x by rw [hal]; exact hop]; rfl
  have hd : o'.dst = oi.dst := by rw [hal]
  have h2 : wpAny P .any (addE i l).toArray Q m ((Array.replicate (m + 1) false).setIfInBounds i true) (a.put oi.dst (a.eval x)) w := by
    rcases h1 with h1 | ⟨h1, _⟩
    · unfold Oper.wp at h1
      rw [hrun'] at h1
      rw [← hd]; exact h1
    · unfold Oper.asks at h1
      have : ((execOp a.eval o').runT P w #[]).2 = #[] := by unfold execOp; rw [show o'.op = .move x by rw [hal]; exact hop]; rfl
      rw [this] at h1
      simp at h1
  exact wpAny_alike hg m _ _ _ (by rw [Array.getD_eq_getD_getElem?, Array.getElem?_setIfInBounds]; simp [show i < m + 1 by omega]) (by simp; omega) h2
theorem wpQuiet_alike {C : World → Prop} : ∀ (r r' : List Oper) (ops ops' : Array Oper) (Qa Qb : Act → Prop) (a : Act), r'.length = r.length → (∀ (k : Nat) (o : Oper), r[k]? = some o → ∃ o', r'[k]? = some o' ∧ Alike1 o o') → (∀ o ∈ r, o.guard = none) → (∀ a, Qa a → Qb a) → wpQuiet P ops C Qa r a → wpQuiet P ops' C Qb r' a
  | [], [], _, _, _, _, a, _, _, _, hq, h => hq a h
  | [], _ :: _, _, _, _, _, _, hl, _, _, _, _ => by simp at hl
  | _ :: _, [], _, _, _, _, _, hl, _, _, _, _ => by simp at hl
  | o :: r, o' :: r', ops, ops', Qa, Qb, a, hl, hA, hg, hq, h => by
    obtain ⟨o2, ho2, hal⟩ := hA 0 o rfl
    have : o2 = o' := by simpa using ho2.symm
    subst this
    have hgo := hg o (List.mem_cons_self ..)
    have w1 : Region.wanted o (yielded ops a.tmps) = true := by simp [Region.wanted, hgo]
    have w2 : Region.wanted o2 (yielded ops' a.tmps) = true := by simp [Region.wanted, show o2.guard = none by rw [hal]; exact hgo]
    unfold wpQuiet at h ⊢
    rw [w1, if_pos rfl] at h
    rw [w2, if_pos rfl]
    refine hal.quiet.2 (Oper.quiet_mono (fun a' h' => ?_) h)
    exact wpQuiet_alike r r' ops ops' Qa Qb a' (by simpa using hl) (fun k o h => by simpa using hA (k + 1) o (by simpa using h)) (fun o ho => hg o (List.mem_cons_of_mem _ ho)) hq h'
theorem wpList_alike : ∀ (r r' : List Oper) (ops ops' : Array Oper) (a : Act) (w : World), r'.length = r.length → (∀ (k : Nat) (o : Oper), r[k]? = some o → ∃ o', r'[k]? = some o' ∧ Alike1 o o') → (∀ o ∈ r, o.guard = none) → wpList P ops Q r a w → wpList P ops' Q r' a w
  | [], [], _, _, _, _, _, _, _, h => h
  | [], _ :: _, _, _, _, _, hl, _, _, _ => by simp at hl
  | _ :: _, [], _, _, _, _, hl, _, _, _ => by simp at hl
  | o :: r, o' :: r', ops, ops', a, w, hl, hA, hg, h => by
    obtain ⟨o2, ho2, hal⟩ := hA 0 o rfl
    have : o2 = o' := by simpa using ho2.symm
    subst this
    have hgo := hg o (List.mem_cons_self ..)
    have w1 : Region.wanted o (yielded ops a.tmps) = true := by simp [Region.wanted, hgo]
    have w2 : Region.wanted o2 (yielded ops' a.tmps) = true := by simp [Region.wanted, show o2.guard = none by rw [hal]; exact hgo]
    unfold wpList at h ⊢
    rw [w1, if_pos rfl] at h
    rw [w2, if_pos rfl]
    have ih : ∀ a w, wpList P ops Q r a w → wpList P ops' Q r' a w := fun a w h => wpList_alike r r' ops ops' a w (by simpa using hl) (fun k o h => by simpa using hA (k + 1) o (by simpa using h)) (fun o ho => hg o (List.mem_cons_of_mem _ ho)) h
    rcases h with h | ⟨h1, h2⟩
    · exact .inl (hal.wp.2 (Oper.wp_mono ih h))
    · exact .inr ⟨hal.asks.2 h1, h2⟩
/-- **Quiet operations, then a chain; the bare move number i may float.** -/
theorem wp_region_quiet_tail1 {id : Nat} {a : Act} {w : World} {l : List Oper} (n i : Nat) (x : Operand) (oi : Oper) (hi : l[i]? = some oi) (hop : oi.op = .move x) (hm : P.follows .mixedOrders = true)
    (hB : (l.all (fun o => o.guard.isNone) && Region.noSelect l.toArray && Region.free .any l.toArray (Array.replicate l.length false) i && (Region.ready .any l.toArray (Array.replicate l.length false)).contains i && (Region.ready .any (addE i l).toArray (Array.replicate l.length false)).contains i &&
      Region.lexB .any ((addE i l).take n).toArray && tailOk ((addE i l).take n) ((addE i l).drop n)) = true)
    (hQ : ∀ c a v w, Q (.panic c) (a.put oi.dst v) w → Q (.panic c) a w)
    (h : wpQuiet P (l.take n).toArray (fun w' => ∃ n, w' = w.drewN n) (fun a' => ∀ w', (∃ n, w' = w.drewN n) → wpList P l.toArray Q (l.drop n) a' w') (l.take n) a) : (Code.region id l.toArray true).wp P Q a w := by
  simp only [Bool.and_eq_true] at hB
  obtain ⟨⟨⟨⟨⟨⟨h1, h2⟩, h3⟩, h4⟩, h5⟩, h6⟩, h7⟩ := hB
  have hg : ∀ o ∈ l, o.guard = none := fun o ho => Option.isNone_iff_eq_none.1 (List.all_eq_true.1 h1 o ho)
  refine wp_region_any hm ?_
  have hl : (addE i l).length = l.length := addE_length i l
  have hA : ∀ (k : Nat) (o : Oper), l[k]? = some o → ∃ o', (addE i l)[k]? = some o' ∧ Alike1 o o' := fun k o h => by
    obtain ⟨o', a, b, _⟩ := addE_alike (i := i) h
    exact ⟨o', a, b⟩
  have ha : wpAny P .any (addE i l).toArray Q l.length (Array.replicate l.length false) a { w with drawn := w.drawn + 1 } := by
    have hq : wpQuiet P ((addE i l).take n).toArray (fun w' => ∃ n, w' = w.drewN n) (fun a' => ∀ w', (∃ n, w' = w.drewN n) → wpList P (addE i l).toArray Q ((addE i l).drop n) a' w') ((addE i l).take n) a := by
      refine wpQuiet_alike (l.take n) _ _ _ _ _ a (by simp [hl]) (fun k o ho => ?_) (fun o ho => hg o (List.mem_of_mem_take ho)) (fun a' h' w' hw' => ?_) h
      · rw [List.getElem?_take] at ho ⊢
        split at ho
        · rename_i hk; rw [if_pos hk]; exact hA k o ho
        · cases ho
      · exact wpList_alike (l.drop n) _ _ _ a' w' (by simp [hl]) (fun k o ho => by rw [List.getElem?_drop] at ho ⊢; exact hA _ o ho) (fun o ho => hg o (List.mem_of_mem_drop ho)) (h' w' hw')
    have hll : addE i l = (addE i l).take n ++ (addE i l).drop n := (List.take_append_drop n _).symm
    simp only [Region.lexB, Bool.and_eq_true] at h6
    have hq2 := wpAnyQ_lex (P := P) (C := fun w' => ∃ n, w' = w.drewN n) (md := .any) h6.1 ((addE i l).take n) 0 (Array.replicate ((addE i l).take n).length false) a (by simp) (by simpa using h6.2) hq
    have ha := wpAny_of_quiet (P := P) (Q' := QTail P ((addE i l).take n) ((addE i l).drop n) Q) (fun a' w' hw' hq => qtail_list ((addE i l).drop n) ((addE i l).take n) (addE i l).toArray Q a' w' h7 (hq w' hw')) _ _ _ { w with drawn := w.drawn + 1 } ⟨1, rfl⟩ hq2
    have := wpAny_tail ((addE i l).drop n) ((addE i l).take n) Q a _ h7 ha
    rw [← hll, hl] at this
    exact this
  have := wpAny_edge hg hi hop h2 h3 h4 h5 hQ ha
  simpa using this
end
end Go.Proofs.Ytkfcdfcoiglieaa
