/- An argument that is a list of calls of a window, or one of them. Conditions: the sizes that a row lets in. -/
import Derived.Test.YtkfcdfcoiglieaaLiftF
import Derived.Deep.Slices
import Derived.Deep.Fields
import Derived.ChangeSame
namespace Go.Proofs.Ytkfcdfcoiglieaa
open Go.Joins Go.ChangeShapes Go.WideShapes Go.ChangeAt Go.RowKit Go.Deep

/-- A call of a window. -/
structure AcT where
  kind : Int
  n : Int
  now : Int
  b : List UInt8
/-- The slice v reads as these calls. -/
def RA (w : World) (v : Value) (acts : List AcT) : Prop :=
  ∃ A c, v = .slice A acts.length c ∧ acts.length ≤ c ∧ c ≤ 9223372036854775807 ∧ (0 < acts.length → ∃ b o, A = some ⟨b, o, none⟩ ∧ ∀ (i : Nat) (a : AcT), acts[i]? = some a →
    ∃ u, w.cell? ⟨b, o + i * 4, none⟩ = some (.int .i64 a.kind) ∧ w.cell? ⟨b, o + i * 4 + 1, none⟩ = some (.int .i64 a.n) ∧ w.cell? ⟨b, o + i * 4 + 2, none⟩ = some (.int .i64 a.now) ∧ w.cell? ⟨b, o + i * 4 + 3, none⟩ = some u ∧ RB w u a.b)
theorem RA.new_ {w w' : World} {v : Value} {acts : List AcT} (h : RA w v acts) (hn : New w w') : RA w' v acts := by
  obtain ⟨A, c, rfl, h1, h2, h3⟩ := h
  refine ⟨A, c, rfl, h1, h2, fun h => ?_⟩
  obtain ⟨b, o, rfl, hx⟩ := h3 h
  refine ⟨b, o, rfl, fun i a ha => ?_⟩
  obtain ⟨u, c0, c1, c2, c3, hr⟩ := hx i a ha
  exact ⟨u, hn.cell c0, hn.cell c1, hn.cell c2, hn.cell c3, hr.new_ hn⟩
section
variable {H : Type} {enc : TypeId × Value → H}
theorem field_bytes_sized {W : World} {n : Nat} {c : Value} {y : DataW H × List MemPlace} (h : DataW.trod enc Try.prog W 0 (fun _ => true) true n 22 [c] = some y)
    (hs : (y.1.weights Try.prog 22).all (· ≤ reachBytes) = true) : ∃ l, RB W c l ∧ l.length ≤ 140737488351232 := by
  obtain ⟨l, hl⟩ := field_bytes h
  refine ⟨l, hl, ?_⟩
  rcases open_ints Try.underlying22 Try.underlying5 (by kernel_rfl) h with ⟨hcs, _⟩ | ⟨a, len, cap, zs, hcs, _, hle, hm, hz, hx, hc, hwf⟩
  · injection hcs with hcs _
    obtain ⟨A, c', e, _⟩ := hl.open
    rw [hcs] at e
    injection e with _ e _
    omega
  · injection hcs with hcs _
    obtain ⟨A, c', e, _⟩ := hl.open
    rw [hcs] at e
    injection e with _ e _
    have hz' : zs.length = cap := by simpa using hz
    rw [hx] at hs
    simp only [DataW.weights, Try.underlying22, List.all_cons, Bool.and_eq_true, decide_eq_true_eq] at hs
    have hb : Try.prog.bytesOf 5 = 1 := by kernel_rfl
    have h1 := hs.1
    rw [hb] at h1
    have hlen : (lits IntKind.u8 (zs.take len) : List (DataW H)).length = len := by simp [lits, List.length_take]; omega
    have : reachBytes = 140737488351232 := rfl
    omega
theorem weights_first {P : Program} {t : TypeId} {ts : List TypeId} {d : DataW H} {ds : List (DataW H)} (h : (DataW.weightsEach P (t :: ts) (d :: ds)).all (· ≤ reachBytes) = true) : (d.weights P t).all (· ≤ reachBytes) = true ∧ (DataW.weightsEach P ts ds).all (· ≤ reachBytes) = true := by
  simp only [DataW.weightsEach, List.all_append, Bool.and_eq_true] at h
  exact h
theorem weightsAll_mem {P : Program} {e : TypeId} {d : DataW H} : ∀ {l : List (DataW H)}, d ∈ l → ∀ x ∈ d.weights P e, x ∈ DataW.weightsAll P e l
  | [], h, _, _ => by cases h
  | y :: l, h, x, hx => by
    simp only [DataW.weightsAll]
    rcases List.mem_cons.1 h with rfl | h
    · exact List.mem_append_left _ hx
    · exact List.mem_append_right _ (weightsAll_mem h x hx)
/-- Four cells of a call. -/
theorem open_act4 {W : World} {fuel : Nat} {c0 c1 c2 c3 : Value} {x : DataW H × List MemPlace} (h : DataW.trod enc Try.prog W 0 (fun _ => true) true fuel 82 [c0, c1, c2, c3] = some x)
    (hs : (x.1.weights Try.prog 82).all (· ≤ reachBytes) = true) :
    ∃ a : AcT, c0 = .int .i64 a.kind ∧ c1 = .int .i64 a.n ∧ c2 = .int .i64 a.now ∧ RB W c3 a.b ∧ a.b.length ≤ 140737488351232 ∧ I64 a.kind ∧ I64 a.n ∧ I64 a.now := by
  have hu := Try.underlying82
  have e1 : Try.prog.cellsOf 3 = 1 := by kernel_rfl
  have e2 : Try.prog.cellsOf 22 = 1 := by kernel_rfl
  obtain ⟨xs, n, _, hx, _, hlen, hg⟩ := DataW.trod_struct hu h
  match xs, hlen with
  | [y0, y1, y2, y3], _ =>
    obtain ⟨m0, rfl, b0⟩ := field_int (by simpa [Value.cells, e1] using hg 0 _ rfl)
    obtain ⟨m1, rfl, b1⟩ := field_int (by simpa [Value.cells, e1] using hg 1 _ rfl)
    obtain ⟨m2, rfl, b2⟩ := field_int (by simpa [Value.cells, e1] using hg 2 _ rfl)
    have h3 : DataW.trod enc Try.prog W 0 (fun _ => true) true n 22 [c3] = some y3 := by simpa [Value.cells, e1, e2] using hg 3 _ rfl
    have hs3 : (y3.1.weights Try.prog 22).all (· ≤ reachBytes) = true := by
      rw [hx] at hs
      simp only [DataW.weights, hu, List.map_cons, List.map_nil, DataW.weightsEach, List.all_append, Bool.and_eq_true] at hs
      simp at hs ⊢
      exact hs.2.2.2
    obtain ⟨lb, hb, hbl⟩ := field_bytes_sized h3 hs3
    exact ⟨⟨m0, m1, m2, lb⟩, rfl, rfl, rfl, hb, hbl, b0, b1, b2⟩
set_option maxRecDepth 100000 in
/-- An argument that is a list of calls. -/
theorem open_acts {W : World} {base : Nat} {v : Value} {d : DataW H} {p : List MemPlace} (hval : Value.okWide Try.prog W .any base 79 v)
    (h : DataW.Trod enc Try.prog W 0 (fun _ => true) true 79 v d p) (hs : (d.weights Try.prog 79).all (· ≤ reachBytes) = true) :
    ∃ acts, RA W v acts ∧ ∀ a ∈ acts, a.b.length ≤ 140737488351232 ∧ I64 a.kind ∧ I64 a.n ∧ I64 a.now := by
  obtain ⟨A, n, c, rfl⟩ := okWide_slice Try.underlying79 hval
  obtain ⟨fuel, hf⟩ := h
  have hC : Try.prog.cellsOf 82 = 4 := by kernel_rfl
  rcases Go.Deep.open_slice Try.underlying79 hf with ⟨hcs, _⟩ | ⟨a, len, cap, m, fu, D, Pl, hcs, _, hl, hm, hmm, hx, hi⟩
  · simp only [Value.cells, List.cons.injEq, and_true] at hcs
    rw [hcs]
    exact ⟨[], ⟨none, 0, rfl, Nat.le_refl _, by omega, fun h => absurd h (by simp)⟩, fun a ha => by cases ha⟩
  · simp only [Value.cells, List.cons.injEq, and_true] at hcs
    rw [hcs]
    have hmc : m = cap := by simpa using hmm
    have hd : d = .slice ((List.range len).map D) ((List.range (m - len)).map fun j => D (len + j)) := congrArg Prod.fst hx
    have hw : ∀ i, i < len → ((D i).weights Try.prog 82).all (· ≤ reachBytes) = true := by
      intro i hil
      rw [hd] at hs
      simp only [DataW.weights, Try.underlying79, List.all_cons, List.all_append, Bool.and_eq_true] at hs
      rw [List.all_eq_true]
      intro x hx
      exact List.all_eq_true.1 hs.2.1 x (weightsAll_mem (List.mem_map.2 ⟨i, List.mem_range.2 hil, rfl⟩) x hx)
    have each : ∀ i, i < len → ∃ (ac : AcT) (u : Value), W.cell? (a.add (i * 4)) = some (.int .i64 ac.kind) ∧ W.cell? ((a.add (i * 4)).add 1) = some (.int .i64 ac.n) ∧ W.cell? ((a.add (i * 4)).add 2) = some (.int .i64 ac.now) ∧ W.cell? ((a.add (i * 4)).add 3) = some u ∧ RB W u ac.b ∧ ac.b.length ≤ 140737488351232 ∧ I64 ac.kind ∧ I64 ac.n ∧ I64 ac.now := by
      intro i hil
      obtain ⟨cs', hc, ht⟩ := hi i (by omega)
      rw [hC] at hc
      obtain ⟨_, hcl, hat⟩ := World.cells?_some hc
      match cs', hcl with
      | [c0, c1, c2, c3], _ =>
        obtain ⟨ac, rfl, rfl, rfl, hb, hbl, i0, i1, i2⟩ := open_act4 ht (hw i hil)
        have h0 : (a.add (i * 4)).add 0 = a.add (i * 4) := by unfold Addr.add; split <;> simp_all
        have g0 := hat 0 (by omega); have g1 := hat 1 (by omega); have g2 := hat 2 (by omega); have g3 := hat 3 (by omega)
        rw [h0] at g0
        exact ⟨ac, c3, g0, g1, g2, g3, hb, hbl, i0, i1, i2⟩
    have hch : ∃ f : Nat → AcT, ∀ i, i < len → ∃ u, W.cell? (a.add (i * 4)) = some (.int .i64 (f i).kind) ∧ W.cell? ((a.add (i * 4)).add 1) = some (.int .i64 (f i).n) ∧ W.cell? ((a.add (i * 4)).add 2) = some (.int .i64 (f i).now) ∧ W.cell? ((a.add (i * 4)).add 3) = some u ∧ RB W u (f i).b ∧ (f i).b.length ≤ 140737488351232 ∧ I64 (f i).kind ∧ I64 (f i).n ∧ I64 (f i).now := by
      refine ⟨fun i => if h : i < len then Classical.choose (each i h) else ⟨0, 0, 0, []⟩, fun i hil => ?_⟩
      simp only [hil, dif_pos]
      exact Classical.choose_spec (each i hil)
    obtain ⟨f, hf'⟩ := hch
    have hget : ∀ (i : Nat) (ac : AcT), ((List.range len).map f)[i]? = some ac → i < len ∧ ac = f i := by
      intro i ac h
      rw [List.getElem?_map] at h
      obtain ⟨j, hj, rfl⟩ := Option.map_eq_some_iff.1 h
      obtain ⟨hjl, hje⟩ := List.getElem?_eq_some_iff.1 hj
      rw [List.getElem_range] at hje
      rw [List.length_range] at hjl
      subst hje
      exact ⟨hjl, rfl⟩
    refine ⟨(List.range len).map f, ⟨some a, cap, by simp, by simpa using hl, by unfold maxLen at hm; exact hm, fun h0 => ?_⟩, fun ac hac => ?_⟩
    · have hpos : 0 < len := by simpa using h0
      obtain ⟨u, g0, _⟩ := hf' 0 hpos
      obtain ⟨b, off, spot⟩ := a
      have hspot : spot = none := by simpa [Addr.add] using World.cell?_spot g0
      subst hspot
      refine ⟨b, off, rfl, fun i ac hac => ?_⟩
      obtain ⟨hil, rfl⟩ := hget i ac hac
      obtain ⟨u, g0, g1, g2, g3, hr, _⟩ := hf' i hil
      have ad : ∀ k j, ((⟨b, off, none⟩ : Addr).add k).add j = ⟨b, off + k + j, none⟩ := fun k j => by rw [add_plain, add_plain]
      rw [add_plain] at g0
      rw [ad] at g1 g2 g3
      exact ⟨u, g0, g1, g2, g3, hr⟩
    · obtain ⟨i, hi', rfl⟩ := List.mem_map.1 hac
      obtain ⟨u, _, _, _, _, _, r⟩ := hf' i (List.mem_range.1 hi')
      exact r
set_option maxRecDepth 100000 in
/-- An argument that is a call. -/
theorem open_act {W : World} {base : Nat} {v : Value} {d : DataW H} {p : List MemPlace} (hval : Value.okWide Try.prog W .any base 82 v)
    (h : DataW.Trod enc Try.prog W 0 (fun _ => true) true 82 v d p) (hs : (d.weights Try.prog 82).all (· ≤ reachBytes) = true) :
    ∃ (a : AcT) (u : Value), v = .agg #[.int .i64 a.kind, .int .i64 a.n, .int .i64 a.now, u] ∧ RB W u a.b ∧ a.b.length ≤ 140737488351232 ∧ I64 a.kind ∧ I64 a.n ∧ I64 a.now := by
  obtain ⟨cs, rfl, hsz⟩ := okWide_struct Try.underlying82 hval
  have hC : Try.prog.cellsOf 82 = 4 := by kernel_rfl
  obtain ⟨l⟩ := cs
  match l, hsz.trans hC with
  | [c0, c1, c2, c3], _ =>
    obtain ⟨fuel, hf⟩ := h
    obtain ⟨a, rfl, rfl, rfl, hb, hbl, i0, i1, i2⟩ := open_act4 (x := (d, p)) hf hs
    exact ⟨a, c3, rfl, hb, hbl, i0, i1, i2⟩
end
end Go.Proofs.Ytkfcdfcoiglieaa
