/- A region that draws its order: its first operations read, or call what reads; the others each wait for all ahead of them. One walk serves all orders. No condition. -/
import Derived.Test.YtkfcdfcoiglieaaSplit
import Derived.Deep.Quiet
import Derived.WideLaws
namespace Go.Proofs.Ytkfcdfcoiglieaa
open Go.RowKit

/-- The operations r stand in a chain behind those of l. -/
def tailOk : List Oper → List Oper → Bool
  | _, [] => true
  | l, o :: r => o.guard.isNone && splitOk l o && tailOk (l ++ [o]) r
def QTail (P : Program) : List Oper → List Oper → (Exit → Act → World → Prop) → Exit → Act → World → Prop
  | _, [], Q => Q
  | l, o :: r, Q => QLast P (l ++ [o]).toArray l.length (QTail P (l ++ [o]) r Q)
@[go_sem] theorem run_store_float {P : Program} {w : World} {a : Addr} {k : FloatKind} {n : Nat} {m : Mode} : (store a (.float k n) m).run P w = stored P w a (.float k n) m := run_store P w a _ m rfl
section
variable {P : Program} {Q : Exit → Act → World → Prop}
theorem wpAny_tail : ∀ (r l : List Oper) (Q : Exit → Act → World → Prop) (a : Act) (w : World), tailOk l r = true →
    wpAny P .any l.toArray (QTail P l r Q) l.length (Array.replicate l.length false) a w → wpAny P .any (l ++ r).toArray Q (l ++ r).length (Array.replicate (l ++ r).length false) a w
  | [], l, Q, a, w, _, h => by simpa [QTail] using h
  | o :: r, l, Q, a, w, hok, h => by
    simp only [tailOk, Bool.and_eq_true] at hok
    obtain ⟨⟨_, h1⟩, h2⟩ := hok
    have hs := wpAny_split (Q := QTail P (l ++ [o]) r Q) h1 l.length (Array.replicate l.length false) a w (by simp) (fun k hk hl => by simp [hk] at hl) h
    rw [← Array.replicate_succ] at hs
    have hl : (l ++ [o]).length = l.length + 1 := by simp
    rw [← hl] at hs
    have := wpAny_tail r (l ++ [o]) Q a w h2 hs
    simpa using this
theorem qtail_else : ∀ (r l : List Oper) (Q : Exit → Act → World → Prop) (e : Exit) (a : Act) (w : World), e ≠ .normal → Q e a w → QTail P l r Q e a w
  | [], _, _, _, _, _, _, h => h
  | o :: r, l, Q, e, a, w, he, h => by
    unfold QTail
    have := qtail_else r (l ++ [o]) Q e a w he h
    cases e <;> first | exact absurd rfl he | exact this
theorem qtail_list : ∀ (r l : List Oper) (ops : Array Oper) (Q : Exit → Act → World → Prop) (a : Act) (w : World), tailOk l r = true → wpList P ops Q r a w → QTail P l r Q .normal a w
  | [], _, _, _, _, _, _, h => h
  | o :: r, l, ops, Q, a, w, hok, h => by
    simp only [tailOk, Bool.and_eq_true, Option.isNone_iff_eq_none] at hok
    obtain ⟨⟨hg, h1⟩, h2⟩ := hok
    have hw : ∀ (ops : Array Oper), Region.wanted o (yielded ops a.tmps) = true := fun ops => by simp [Region.wanted, hg]
    unfold QTail
    show wpOp P (l ++ [o]).toArray _ l.length _ a w
    unfold wpOp
    rw [big_last]
    simp only [hw, if_true]
    unfold wpList at h
    rw [hw ops, if_pos rfl] at h
    have hK : ∀ a w, wpList P ops Q r a w → QTail P (l ++ [o]) r Q .normal a w := fun a w h => qtail_list r (l ++ [o]) ops Q a w h2 h
    rcases h with h | ⟨h3, a1, w1, h4⟩
    · refine .inl ?_
      unfold Oper.wp at h ⊢
      generalize (execOp a.eval o).run P w = x at h
      cases x with
      | ok n w' =>
        cases n <;> simp only [Oper.upon] at h ⊢
        case value v => exact hK _ _ h
        case skip => exact hK _ _ h
        case defer d => exact hK _ _ h
        case enter f args =>
          refine Calls.mono h fun e w'' he => ?_
          cases e with
          | returned v => exact hK _ _ he
          | panicked c => exact qtail_else r _ Q _ _ _ (by simp) he
          | outgrown => obtain ⟨a1, w1, h1⟩ := he; exact ⟨a1, w1, qtail_else r _ Q _ _ _ (by simp) h1⟩
        case row rr args => exact Rows.mono h fun v w'' he => hK _ _ he
      | halt x w' => cases x <;> simp only [Oper.upon] at h ⊢ <;> first | exact h | exact qtail_else r _ Q _ _ _ (by simp) h
    · exact .inr ⟨h3, a1, w1, qtail_else r _ Q _ _ _ (by simp) h4⟩
/-- **Quiet operations, then a chain.** -/
theorem wp_region_quiet_tail {id : Nat} {a : Act} {w : World} {l : List Oper} (n : Nat) (hm : P.follows .mixedOrders = true) (hB : Region.lexB .any (l.take n).toArray = true) (hT : tailOk (l.take n) (l.drop n) = true)
    (h : wpQuiet P (l.take n).toArray (fun w' => ∃ n, w' = w.drewN n) (fun a' => ∀ w', (∃ n, w' = w.drewN n) → wpList P l.toArray Q (l.drop n) a' w') (l.take n) a) : (Code.region id l.toArray true).wp P Q a w := by
  refine wp_region_any hm ?_
  have hl : l = l.take n ++ l.drop n := (List.take_append_drop n l).symm
  simp only [Region.lexB, Bool.and_eq_true] at hB
  have hq := wpAnyQ_lex (P := P) (C := fun w' => ∃ n, w' = w.drewN n) (md := .any) hB.1 (l.take n) 0 (Array.replicate (l.take n).length false) a (by simp) (by simpa using hB.2) h
  have ha := wpAny_of_quiet (P := P) (Q' := QTail P (l.take n) (l.drop n) Q) (fun a' w' hw' hq => qtail_list (l.drop n) (l.take n) l.toArray Q a' w' hT (hq w' hw')) _ _ _ { w with drawn := w.drawn + 1 } ⟨1, rfl⟩ hq
  have := wpAny_tail (l.drop n) (l.take n) Q a _ hT ha
  rw [← hl] at this
  simpa using this
/-- A quiet callee, in a second quiet region. -/
theorem quiet_of2 {f : FuncId} {args : Array Value} {w : World} {b n : Nat} {v : Value}
    (h : Calls P f args (w.drewN (b + n)) fun e w' => e = .returned v ∧ ∃ m, w' = (w.drewN (b + n)).drewN m) : Calls P f args (w.drewN (b + n)) fun e w'' => e = .returned v ∧ ∃ m, w'' = w.drewN (b + m) :=
  h.mono fun _ _ ⟨he, m, hm⟩ => ⟨he, n + m, by rw [hm, World.drewN_drewN, Nat.add_assoc]⟩
end
end Go.Proofs.Ytkfcdfcoiglieaa
