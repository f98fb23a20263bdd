/- A range over (*Window).sent: the statement's law, for a body that never leaves it. Conditions: as the theorem says. -/
import Derived.Test.YtkfcdfcoiglieaaSent
import Derived.Shelf.Abstract
namespace Go.Proofs.Ytkfcdfcoiglieaa
open Go.RowKit Go.Shelf

/-- What may turn beside the window's blocks F: the loop's record L. -/
abbrev WithRec (F : Nat → Prop) (L : Nat) : Nat → Prop := fun k => F k ∨ k = L
theorem putObj_mod {w w' : World} {F : Nat → Prop} {L : Nat} {o : Obj} (h : Mod F w w') : Mod (WithRec F L) w (w'.putObj L o) :=
  ⟨h.os, h.tape, h.output, by have := h.size; simpa [World.putObj] using this, fun k hk hn => by
    rw [World.putObj_heap_other (fun e => hn (.inr e))]
    exact h.block k hk (fun hf => hn (.inl hf))⟩
/-- How a round's body may be left: at its end; the window, the loop's record, the block for deferred calls lie as they lay. -/
def RoundPost (F : Nat → Prop) (D : Nat) (I : World → Prop) (W : World) : Exit → Act → World → Prop
  | .normal, _, W' => (∀ j, F j ∨ j = D ∨ j = D + 1 → W'.heap[j]? = W.heap[j]?) ∧ I W'
  | _, _, _ => False
set_option maxHeartbeats 1600000 in
theorem due_range (m g : Nat) (s : Wn) (F : Nat → Prop) {gop : Operand} {p0 : Tmp} {assign body : Code} {Q : Exit → Act → World → Prop} {a : Act} {w : World}
    (hg : a.eval gop = .func (.func 100) #[ptr g] #[]) (hk : WinOk s) (hW : WinRep w F g s) (hF : ∀ k, F k → k < w.heap.size)
    (I : List Pk → World → Prop) (hI : ∀ pre W W', I pre W → Mod (WithRec F (w.heap.size + 1)) W W' → I pre W')
    (A1 : List Pk → Pk → Value → Act → World → Prop) (hA1 : ∀ pre k v a₁ W W', A1 pre k v a₁ W → Mod (WithRec F (w.heap.size + 1)) W W' → A1 pre k v a₁ W')
    (h0' : ∀ o : Obj, I [] ((w.alloc (.deferred (some []))).alloc o))
    (hassign : ∀ (l : Nat) (k : Pk) (v : Value) (pre : List Pk) (W : World) (K : Act → World → Prop), I pre W → w.heap.size + 2 ≤ W.heap.size → OwnF isB W F 5 v (k.body.map bv) → (∀ a₁ W', New W W' → A1 pre k v a₁ W' → K a₁ W') →
      assign.wpIn (Fence.wide.inRound l) m Try.prog (Exit.then K (fun _ _ _ => False)) { tmps := a.tmps.setIfInBounds p0 (.agg #[.int .i64 k.seq, v]), defers := [] } W)
    (hbody : ∀ (l : Nat) (pre : List Pk) (k : Pk) (v : Value) (a₁ : Act) (W : World), A1 pre k v a₁ W → OwnF isB W F 5 v (k.body.map bv) → k ∈ s.l → pre.length < s.l.length → w.heap.size + 2 ≤ W.heap.size →
      body.wpIn (Fence.wide.inRound l) m Try.prog (RoundPost F w.heap.size (I (pre ++ [k])) W) a₁ W)
    (hdone : ∀ (W : World), WinRep W F g { s with l := s.l.map (dueP s) } → I (s.l.filter (isDue s)) W → W.heap[w.heap.size]? = some (.deferred (some [])) →
      Q .normal { a with defers := { target := .collected w.heap.size, args := #[] } :: a.defers } W) :
    (Code.rangeFunc gop #[p0] assign body).wpIn Fence.wide (m + 2) Try.prog Q a w := by
  refine wpIn_rangeFunc ?_
  intro fn _
  obtain ⟨rec, hrec⟩ : ∃ rec : LoopState → Option Code → Loop, rec = fun st pe => { state := st, pending := pe, fn, tmps := a.tmps, params := #[p0], assign, body, defers := w.heap.size } := ⟨_, rfl⟩
  obtain ⟨W1, hW1⟩ : ∃ W1, (w.alloc (.deferred (some []))).alloc (.loop (rec .ready none)) = W1 := ⟨_, rfl⟩
  have hL1 : W1.heap[w.heap.size + 1]? = some (.loop (rec .ready none)) := by
    rw [← hW1]; have := World.alloc_heap_new (w.alloc (.deferred (some []))) (.loop (rec .ready none)); rwa [World.size_alloc] at this
  have hK1 : W1.heap[w.heap.size]? = some (.deferred (some [])) := by
    rw [← hW1]; exact (Below.heap_alloc _ _ _ (by simp)).trans (World.alloc_heap_new w _)
  have hn1 : New w W1 := by rw [← hW1]; exact (New.alloc w _).trans (New.alloc _ _)
  have hI1 : I [] W1 := by rw [← hW1]; exact h0' _
  have hsz1 : W1.heap.size = w.heap.size + 2 := by rw [← hW1]; simp
  -- what holds between two rounds
  have hJst : ∀ pre W W', (I pre W ∧ W.heap[w.heap.size + 1]? = some (.loop (rec .ready none)) ∧ W.heap[w.heap.size]? = some (.deferred (some [])) ∧ w.heap.size + 2 ≤ W.heap.size) → Mod F W W' →
      (I pre W' ∧ W'.heap[w.heap.size + 1]? = some (.loop (rec .ready none)) ∧ W'.heap[w.heap.size]? = some (.deferred (some [])) ∧ w.heap.size + 2 ≤ W'.heap.size) := by
    rintro pre W W' ⟨h1, h2, h3, h4⟩ hm
    exact ⟨hI _ _ _ h1 (hm.mono (fun i hi _ => .inl hi)), (hm.block _ (by omega) (fun hf => by have := hF _ hf; omega)).trans h2, (hm.block _ (by omega) (fun hf => by have := hF _ hf; omega)).trans h3, Nat.le_trans h4 hm.size⟩
  refine ⟨w.heap.size + 1, [{ target := .collected w.heap.size, args := #[] }], W1, { target := .fn (.func 100) #[], args := #[ptr g, .func (.yield (w.heap.size + 1)) #[] #[]] }, W1, 100,
    #[ptr g, .func (.yield (w.heap.size + 1)) #[] #[]], W1, ?_, ?_, ?_, ?_, ?_, ?_⟩
  · rw [← hW1, hrec]; exact run_enterLoop_outer _ _ _ _ _
  · simp only [resolve, hg]
    simp [go_sem]
  · intro f' _; trivial
  · simp [invoke, go_sem]
  · intro h; cases h
  · refine (sent_in m (w.heap.size + 1) g s F (fun pre W => I pre W ∧ W.heap[w.heap.size + 1]? = some (.loop (rec .ready none)) ∧ W.heap[w.heap.size]? = some (.deferred (some [])) ∧ w.heap.size + 2 ≤ W.heap.size) hk hJst ?_ W1 (hW.new_ hn1) ⟨hI1, hL1, hK1, by omega⟩).mono ?_
    · -- one round
      rintro pre k v W ⟨hi, hl, hkk, hsz⟩ hOv hmem hpl
      have hy := run_yield (P := Try.prog) (args := #[.agg #[.int .i64 k.seq, v]]) hl (by rw [hrec]; rfl)
      have hy : (Instr.yield (w.heap.size + 1) #[.agg #[.int .i64 k.seq, v]]).run Try.prog W = .ok (.round (w.heap.size + 1) fn (a.tmps.setIfInBounds p0 (.agg #[.int .i64 k.seq, v])) assign body) W := by
        rw [hy, hrec]; simp
      refine ⟨fn, _, assign, body, hy, roundIn_of_wpIn trivial (hassign _ k v pre W _ hi hsz hOv (fun a₁ W2 hn2 hA => ?_))⟩
      have hl2 : W2.heap[w.heap.size + 1]? = some (.loop (rec .ready none)) := (Below.block hn2 _ (by omega)).trans hl
      have hk2 : W2.heap[w.heap.size]? = some (.deferred (some [])) := (Below.block hn2 _ (by omega)).trans hkk
      have hsz2 : w.heap.size + 2 ≤ W2.heap.size := Nat.le_trans hsz (New.size hn2)
      refine ⟨_, run_beginRound hl2 (by rw [hrec]), ?_⟩
      have hm3 : Mod (WithRec F (w.heap.size + 1)) W2 (W2.putObj (w.heap.size + 1) (.loop { rec .ready none with state := .busy })) := putObj_mod (Mod.refl F W2)
      have hl3 : (W2.putObj (w.heap.size + 1) (.loop { rec .ready none with state := .busy })).heap[w.heap.size + 1]? = some (.loop { rec .ready none with state := .busy }) := World.putObj_heap_same (by omega)
      have hk3 : (W2.putObj (w.heap.size + 1) (.loop { rec .ready none with state := .busy })).heap[w.heap.size]? = some (.deferred (some [])) := (World.putObj_heap_other (by omega)).trans hk2
      have hsame3 : ∀ j, F j → (W2.putObj (w.heap.size + 1) (.loop { rec .ready none with state := .busy })).heap[j]? = W.heap[j]? := fun j hj => by
        have := hF j hj
        exact (World.putObj_heap_other (by omega)).trans (Below.block hn2 j (by omega))
      have hOv3 : OwnF isB (W2.putObj (w.heap.size + 1) (.loop { rec .ready none with state := .busy })) F 5 v (k.body.map bv) := hOv.keep' fun j hj => hsame3 j (hOv.2 j hj)
      refine wpIn_mono (hbody _ pre k v a₁ _ (hA1 _ _ _ _ _ _ hA hm3) hOv3 hmem hpl (by simpa [World.putObj] using hsz2)) ?_
      rintro e a3 W3 hp
      cases e with
      | normal =>
        obtain ⟨hs3, hi3⟩ := hp
        have hl4 := (hs3 (w.heap.size + 1) (.inr (.inr rfl))).trans hl3
        have hk4 := (hs3 w.heap.size (.inr (.inl rfl))).trans hk3
        have hlt : w.heap.size + 1 < W3.heap.size := (Array.getElem?_eq_some_iff.1 hl4).1
        have hr := run_endRound (P := Try.prog) none hl4
        refine ⟨_, _, hr, rfl, fun j hj => ?_, hI _ _ _ hi3 (putObj_mod (Mod.refl F W3)), ?_, ?_, ?_⟩
        · have := hF j hj
          exact (World.putObj_heap_other (by omega)).trans ((hs3 j (.inl hj)).trans (hsame3 j hj))
        · rw [World.putObj_heap_same hlt, hrec]; rfl
        · exact (World.putObj_heap_other (by omega)).trans hk4
        · show _ ≤ (W3.putObj _ _).heap.size
          simp only [World.putObj, Array.size_setIfInBounds]; omega
      | ret => exact hp.elim
      | exit id => exact hp.elim
      | goto t => exact hp.elim
      | panic ch => exact hp.elim
      | outgrown => exact hp.elim
    · -- behind the iterator
      rintro e W2 ⟨⟨v, rfl⟩, hW2, hi, hl, hkk, hsz⟩
      refine ⟨none, _, by have := run_endLoop (P := Try.prog) hl (by rw [hrec]; simp); rw [hrec] at this; exact this, ?_⟩
      refine hdone _ (hW2.keep (fun j hj => World.putObj_heap_other (by have := hF j hj; omega)) (fun _ h => h)) (hI _ _ _ hi (putObj_mod (Mod.refl F W2))) ((World.putObj_heap_other (by omega)).trans hkk)
end Go.Proofs.Ytkfcdfcoiglieaa
