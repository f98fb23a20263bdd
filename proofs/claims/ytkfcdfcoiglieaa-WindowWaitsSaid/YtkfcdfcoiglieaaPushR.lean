/- The region of (*Window).Push that draws its order: the packet is made and laid at the end. The region's theorem is printed by gen_rg.py. Conditions: as the theorem says. -/
import Derived.Test.YtkfcdfcoiglieaaWin
import Derived.Test.YtkfcdfcoiglieaaEmp
import Derived.Test.YtkfcdfcoiglieaaRg
import Derived.Test.YtkfcdfcoiglieaaKit2
namespace Go.Proofs.Ytkfcdfcoiglieaa
open Go.RowKit

theorem own_ne {Pr : Value → Prop} {w : World} {base g : Nat} {e t : TypeId} {v : Value} {xs : List Value} {cs : Array Value} (h : OwnP Pr w base e v xs) (hB : Bk w g t cs) (hne : e ≠ t) : ∀ k, v.ownBlock = some k → k ≠ g := by
  rintro k hk rfl
  rcases h with ⟨rfl, _⟩ | ⟨g0, o, cap, cur, rfl, _, h3, _⟩
  · cases hk
  · injection hk with hk
    subst hk
    unfold Bk at hB h3
    rw [hB] at h3
    injection h3 with h3
    injection h3 with _ h3
    exact hne h3.symm
/-- Bytes stay, where a cell of a block that holds no bytes turns. -/
theorem rb_set {w : World} {v : Value} {l : List UInt8} {g i : Nat} {t : TypeId} {cs : Array Value} {u : Value} (h : RB w v l) (hB : Bk w g t cs) (hcs : ∀ (j : Nat) (c : UInt8), cs[j]? ≠ some (bv c)) : RB (w.setCell ⟨g, i, none⟩ u) v l := by
  obtain ⟨A, c, rfl, h1, h2, h3⟩ := h
  refine ⟨A, c, rfl, h1, h2, fun hc => ?_⟩
  obtain ⟨b, o, rfl, hx⟩ := h3 hc
  refine ⟨b, o, rfl, fun j x hj => ?_⟩
  have hcell := hx j x hj
  have hne : g ≠ b := by
    rintro rfl
    obtain ⟨c0, rfl⟩ : ∃ c0, x = bv c0 := by
      have := List.mem_of_getElem? hj
      obtain ⟨c0, _, rfl⟩ := List.mem_map.1 this
      exact ⟨c0, rfl⟩
    rw [hB.cell] at hcell
    exact hcs _ _ hcell
  rw [World.cell?_setCell_other _ _ _ _ (fun e => hne (by injection e))]
  exact hcell
theorem winCells_nb (s : Wn) (A : Option Addr) (n c : Nat) : ∀ (j : Nat) (ch : UInt8), (winCells s (.slice A n c))[j]? ≠ some (bv ch) := by
  intro j ch h
  unfold winCells at h
  match j, h with
  | 0, h => simp at h
  | 1, h => simp at h
  | 2, h => simp at h
  | 3, h => simp at h
  | 4, h => simp at h
  | 5, h => simp at h
  | n + 6, h => simp at h
theorem isP_nil : isP (.pointer none) := ⟨none, rfl⟩
theorem rd_ptr (w3 : World) (o : Obj) : Rd ((w3.alloc o).alloc (.cells #[ptr w3.heap.size] 127)) (.slice (some ⟨w3.heap.size + 1, 0, none⟩) 1 1) [ptr w3.heap.size] := by
  have h := Bk.ofNew (w3.alloc o) 127 #[ptr w3.heap.size]
  rw [World.size_alloc] at h
  exact Rd.ofBk (xs := [ptr w3.heap.size]) h (fun i x hx => by simpa using hx) (by simp) (by simp [maxLen])
theorem info_pp : (Try.prog.info? 127).map (fun i => (i.zero, i.size, i.bytes)) = some (some (.pointer none), 1, 8) := by kernel_rfl
theorem cell_of_bk {w : World} {g : Nat} {t : TypeId} {cs : Array Value} (h : Bk w g t cs) (i : Nat) {v : Value} (hv : cs[i]? = some v) : w.cell? ⟨g, i, none⟩ = some v := h.cellAt hv
theorem grown_none {w w' : World} (h : w.grownBy w' none) : New w w' := ⟨h.os, h.tape, h.output, h.size, fun k hk => h.block k hk (fun e => by cases e)⟩
theorem does_append_rd {P : Program} {o : Oper} {a : Act} (w : World) (s x : Operand) (t : TypeId) (ho : o.op = .call { callee := .builtin .append, args := #[s, x], argTypes := #[t, t] })
    {Pr : Value → Prop} (base : Nat) (e : TypeId) (i : TypeInfo) (z : Value) (bytes : Nat) (ht : P.underlying t = some (.slice e)) (hi : P.info? e = some i) (hz : i.zero = some z)
    (hsize : i.size = 1) (hby : i.bytes = bytes) (hzs : z.cells = #[z]) (hzp : Pr z)
    (v : Value) (xs : List Value) (hs : a.eval s = v) (hown : OwnP Pr w base e v xs) (u : Value) (news : List Value) (hx : a.eval x = u) (hr : Rd w u news) (h1 : ∀ x ∈ news, x.oneCell' = true) (hp : ∀ x ∈ news, Pr x)
    (h63 : xs.length + news.length ≤ maxLen) (hbytes : (xs.length + news.length) * bytes ≤ 140737488355328) (hbase : base ≤ w.heap.size) {post : Value → World → Prop}
    (h : ∀ v' w', OwnP Pr w' base e v' (xs ++ news) → w.grownBy w' v.ownBlock → (v'.ownBlock = v.ownBlock ∨ v'.ownBlock = some w.heap.size) → post v' w') : Does P o a w post := by
  obtain ⟨v', w', hrun, h2, h3, h4⟩ := run_append_rd (P := P) w base t o.type e i z bytes ht hi hz hsize hby hzs hzp v xs hown u news hr h1 hp h63 hbytes hbase
  unfold Does execOp
  simp only [ho, resolve, invoke, builtin, Sem.run_bind, Sem.run_pure, Result.andThen_ok, List.map_toArray, List.map_cons, List.map_nil, hs, hx, hrun]
  exact h v' w' h2 h3 h4

def BPush : List (Nat × Tmp) := [(0, 27), (1, 28), (2, 29), (3, 30), (4, 31), (5, 32), (6, 33), (7, 34), (8, 35), (9, 36), (10, 37), (11, 38), (12, 39), (13, 40), (14, 41), (15, 42), (16, 43), (17, 44)]
noncomputable def opsPush : Array Oper := ((Try.f65.body).bind (regionOf 6)).getD #[]
/-- What each operation of the region yields. -/
def phiPush (g : Nat) (A : Option Addr) (n c : Nat) (nl : Int) (u : Value) (b : List UInt8) (xs : List Value) (base : Nat) : Nat → Value → World → Prop
  | 0, v, _ => v = ptr g
  | 1, v, _ => v = ptr g
  | 2, v, _ => v = ptr g
  | 3, v, _ => v = .pointer (some ⟨g, 2, none⟩)
  | 4, v, _ => v = (.slice A n c)
  | 5, v, _ => v = ptr g
  | 6, v, _ => v = ptr g
  | 7, v, _ => v = .pointer (some ⟨g, 1, none⟩)
  | 8, v, _ => v = .int .i64 nl
  | 9, v, _ => v = u
  | 10, v, w => ∃ A c, v = .slice A (b.map bv).length c ∧ OwnP isB w base 5 (.slice A (b.map bv).length c) (b.map bv)
  | 11, v, w => ∃ A c, v = .agg #[.int .i64 nl, .slice A (b.map bv).length c] ∧ OwnP isB w base 5 (.slice A (b.map bv).length c) (b.map bv)
  | 12, v, w => ∃ A c, v = .agg #[.int .i64 nl, .slice A (b.map bv).length c, .int .i64 0, .int .i64 0, .int .i64 0] ∧ OwnP isB w base 5 (.slice A (b.map bv).length c) (b.map bv)
  | 13, v, w => ∃ p A c, v = ptr p ∧ base ≤ p ∧ Bk w p 129 #[.int .i64 nl, .slice A (b.map bv).length c, .int .i64 0, .int .i64 0, .int .i64 0] ∧ OwnP isB w base 5 (.slice A (b.map bv).length c) (b.map bv)
  | 14, v, w => ∃ q p A c, v = .slice (some ⟨q, 0, none⟩) 1 1 ∧ base ≤ q ∧ Bk w q 127 #[ptr p] ∧ base ≤ p ∧ Bk w p 129 #[.int .i64 nl, .slice A (b.map bv).length c, .int .i64 0, .int .i64 0, .int .i64 0] ∧ OwnP isB w base 5 (.slice A (b.map bv).length c) (b.map bv)
  | 15, v, w => ∃ p A' c', OwnP isP w 0 127 v (xs ++ [ptr p]) ∧ (v.ownBlock = (Value.slice A n c).ownBlock ∨ ∃ q, v.ownBlock = some q ∧ base ≤ q) ∧ base ≤ p ∧ Bk w p 129 #[.int .i64 nl, .slice A' (b.map bv).length c', .int .i64 0, .int .i64 0, .int .i64 0] ∧ OwnP isB w base 5 (.slice A' (b.map bv).length c') (b.map bv)
  | 16, v, _ => v = ptr g
  | 17, v, _ => v = .pointer (some ⟨g, 2, none⟩)
  | _, _, _ => False
theorem phiPush_st (g : Nat) (A : Option Addr) (n c : Nat) (nl : Int) (u : Value) (b : List UInt8) (xs : List Value) (base : Nat) (hSb : ∀ k, (Value.slice A n c).ownBlock = some k → k < base) : ∀ i j v w w', i ≠ j → (Mod (fun k => (Value.slice A n c).ownBlock = some k) w w' ∧ (i ≠ 15 → New w w')) → phiPush g A n c nl u b xs base j v w → phiPush g A n c nl u b xs base j v w' := by
  intro i j v w w' hij hG h
  unfold phiPush at *
  split at h <;> first
    | exact h
    | exact h.elim
    | (obtain ⟨A3, c3, h1, h2⟩ := h; exact ⟨A3, c3, h1, h2.mod hG.1 (fun k hk h => by have := hSb _ h; have := (h2.lt k hk).1; omega)⟩)
    | (obtain ⟨p, A3, c3, h1, h2, h3, h4⟩ := h; exact ⟨p, A3, c3, h1, h2, h3.mod hG.1 (fun h => by have := hSb _ h; omega), h4.mod hG.1 (fun k hk h => by have := hSb _ h; have := (h4.lt k hk).1; omega)⟩)
    | (obtain ⟨q, p, A3, c3, h1, h5, h6, h2, h3, h4⟩ := h; exact ⟨q, p, A3, c3, h1, h5, h6.mod hG.1 (fun h => by have := hSb _ h; omega), h2, h3.mod hG.1 (fun h => by have := hSb _ h; omega), h4.mod hG.1 (fun k hk h => by have := hSb _ h; have := (h4.lt k hk).1; omega)⟩)
    | (have hn := hG.2 hij; obtain ⟨p, A3, c3, h1, h2, h3, h4, h5⟩ := h; exact ⟨p, A3, c3, h1.new_ hn, h2, h3, h4.new_ hn, h5.new_ hn⟩)

set_option maxRecDepth 100000 in
set_option maxHeartbeats 3200000 in
theorem regionPush (g : Nat) (A : Option Addr) (n c : Nat) (nl : Int) (u : Value) (b : List UInt8) (xs : List Value) (act : Act) (hsz : act.tmps.size = 49) (w1 : World) (s0 v3 v4 v5 : Value) (ha0 : act.eval (.tmp 0) = ptr g) (ha1 : act.eval (.tmp 1) = u) (hB2 : Bk w1 g 93 #[s0, .int .i64 nl, .slice A n c, v3, v4, v5]) (hO2 : OwnP isP w1 0 127 (.slice A n c) xs) (hgS : ¬ (Value.slice A n c).ownBlock = some g) (hbk : ∀ W, Mod (fun k => (Value.slice A n c).ownBlock = some k) w1 W → RB W u b) (hbl : b.length ≤ 1000000000) (hxs : xs.length ≤ 64)
    {Q : Exit → Act → World → Prop} (hQ : ∀ (vals : Nat → Value) (w' : World) (p : Nat) (A3 : Option Addr) (c3 : Nat) (lv : Value), Mod (fun k => (Value.slice A n c).ownBlock = some k) w1 w' → OwnP isP w' 0 127 lv (xs ++ [ptr p]) → (lv.ownBlock = (Value.slice A n c).ownBlock ∨ ∃ q, lv.ownBlock = some q ∧ w1.heap.size ≤ q) → w1.heap.size ≤ p → Bk w' p 129 #[.int .i64 nl, .slice A3 (b.map bv).length c3, .int .i64 0, .int .i64 0, .int .i64 0] → OwnP isB w' w1.heap.size 5 (.slice A3 (b.map bv).length c3) (b.map bv) → Q .normal (fillAll act BPush vals) (w'.setCell ⟨g, 2, none⟩ lv)) :
    (Code.region 6 opsPush true).wp Try.prog Q act w1 := by
  have hSb : ∀ k, (Value.slice A n c).ownBlock = some k → k < w1.heap.size := fun k hk => (hO2.lt k hk).2
  obtain ⟨z0, hi0, hz0, hz1, hz2⟩ := info_parts info_u8
  obtain ⟨y0, hj0, hy0, hy1, hy2⟩ := info_parts info_pp
  have hbl1 : ([] : List Value).length + (b.map bv).length ≤ maxLen := by unfold maxLen; simp; omega
  have hbl2 : (([] : List Value).length + (b.map bv).length) * 1 ≤ 140737488355328 := by simp; omega
  have hl3 : xs.length + [ptr 0].length ≤ maxLen := by unfold maxLen; simp; omega
  have hl4 : (xs.length + [ptr 0].length) * 8 ≤ 140737488355328 := by simp; omega
  refine wp_region_rg1 BPush 18 (.store 91 (.tmp 44) (.tmp 42)) none (by kernel_rfl) (by rw [hsz]; kernel_rfl) (by kernel_rfl) (by kernel_rfl) (by kernel_rfl) (by kernel_rfl) (fun W => Mod (fun k => (Value.slice A n c).ownBlock = some k) w1 W) (fun i w w' => Mod (fun k => (Value.slice A n c).ownBlock = some k) w w' ∧ (i ≠ 15 → New w w')) (phiPush g A n c nl u b xs w1.heap.size) (phiPush_st g A n c nl u b xs w1.heap.size hSb) (fun i w => i = 15 → OwnP isP w 0 127 (.slice A n c) xs) (fun i j w w' hij _ hG h hj => (h hj).new_ (hG.2 (fun e => hij (e.trans hj.symm)))) (Mod.of_new (New.drew w1) _) (fun _ _ _ => hO2.new_ (New.drew w1)) (by rfl) ?steps ?last
  case steps =>
    clear hQ
    refine ⟨?_, ?_, ?_, ?_, ?_, ?_, ?_, ?_, ?_, ?_, ?_, ?_, ?_, ?_, ?_, ?_, ?_, ?_, trivial⟩
    · intro vals wr hR hps hd
      have s0 := (fill_other (vals := vals) (B := BPush) 0 (by kernel_rfl)).trans ha0
      show Does _ _ (fillAll act BPush vals) _ _
      generalize fillAll act BPush vals = act1 at *
      clear hd hps
      refine Does.mono (post := fun v w' => v = ptr g ∧ w' = wr) ?_ ?_
      · unfold Does; simp only [execOp]; rw [s0]; clear s0 hsz; go_simp
      · rintro v w' ⟨rfl, rfl⟩; refine ⟨hR, ⟨Mod.refl _ _, fun _ => New.refl _⟩, ?_⟩; simp only [phiPush]
    · intro vals wr hR hps hd
      have s0 := (fill_other (vals := vals) (B := BPush) 0 (by kernel_rfl)).trans ha0
      show Does _ _ (fillAll act BPush vals) _ _
      generalize fillAll act BPush vals = act1 at *
      clear hd hps
      refine Does.mono (post := fun v w' => v = ptr g ∧ w' = wr) ?_ ?_
      · unfold Does; simp only [execOp]; rw [s0]; clear s0 hsz; go_simp
      · rintro v w' ⟨rfl, rfl⟩; refine ⟨hR, ⟨Mod.refl _ _, fun _ => New.refl _⟩, ?_⟩; simp only [phiPush]
    · intro vals wr hR hps hd
      have h1 := hd 1 (by kernel_rfl)
      simp only [phiPush] at h1
      have e1 := (fill_eval (B := BPush) (vals := vals) hsz 1 28 (by kernel_rfl)).trans h1
      show Does _ _ (fillAll act BPush vals) _ _
      generalize fillAll act BPush vals = act1 at *
      clear hd hps
      refine Does.mono (post := fun v w' => v = ptr g ∧ w' = wr) ?_ ?_
      · unfold Does; simp only [execOp]; rw [e1]; clear e1 hsz; go_simp
      · rintro v w' ⟨rfl, rfl⟩; refine ⟨hR, ⟨Mod.refl _ _, fun _ => New.refl _⟩, ?_⟩; simp only [phiPush]
    · intro vals wr hR hps hd
      have h2 := hd 2 (by kernel_rfl)
      simp only [phiPush] at h2
      have e2 := (fill_eval (B := BPush) (vals := vals) hsz 2 29 (by kernel_rfl)).trans h2
      show Does _ _ (fillAll act BPush vals) _ _
      generalize fillAll act BPush vals = act1 at *
      clear hd hps
      refine Does.mono (post := fun v w' => v = .pointer (some ⟨g, 2, none⟩) ∧ w' = wr) ?_ ?_
      · unfold Does; simp only [execOp]; rw [e2]; clear e2 hsz; go_simp
      · rintro v w' ⟨rfl, rfl⟩; refine ⟨hR, ⟨Mod.refl _ _, fun _ => New.refl _⟩, ?_⟩; simp only [phiPush]
    · intro vals wr hR hps hd
      have h3 := hd 3 (by kernel_rfl)
      simp only [phiPush] at h3
      have e3 := (fill_eval (B := BPush) (vals := vals) hsz 3 30 (by kernel_rfl)).trans h3
      have hx2 : wr.cell? ⟨g, 2, none⟩ = _ := (hB2.mod hR hgS).cellAt (i := 2) rfl
      show Does _ _ (fillAll act BPush vals) _ _
      generalize fillAll act BPush vals = act1 at *
      clear hd hps
      refine Does.mono (post := fun v w' => v = (.slice A n c) ∧ w' = wr) ?_ ?_
      · unfold Does; simp only [execOp]; rw [e3]; clear e3 hsz; go_simp
      · rintro v w' ⟨rfl, rfl⟩; refine ⟨hR, ⟨Mod.refl _ _, fun _ => New.refl _⟩, ?_⟩; simp only [phiPush]
    · intro vals wr hR hps hd
      have s0 := (fill_other (vals := vals) (B := BPush) 0 (by kernel_rfl)).trans ha0
      show Does _ _ (fillAll act BPush vals) _ _
      generalize fillAll act BPush vals = act1 at *
      clear hd hps
      refine Does.mono (post := fun v w' => v = ptr g ∧ w' = wr) ?_ ?_
      · unfold Does; simp only [execOp]; rw [s0]; clear s0 hsz; go_simp
      · rintro v w' ⟨rfl, rfl⟩; refine ⟨hR, ⟨Mod.refl _ _, fun _ => New.refl _⟩, ?_⟩; simp only [phiPush]
    · intro vals wr hR hps hd
      have h5 := hd 5 (by kernel_rfl)
      simp only [phiPush] at h5
      have e5 := (fill_eval (B := BPush) (vals := vals) hsz 5 32 (by kernel_rfl)).trans h5
      show Does _ _ (fillAll act BPush vals) _ _
      generalize fillAll act BPush vals = act1 at *
      clear hd hps
      refine Does.mono (post := fun v w' => v = ptr g ∧ w' = wr) ?_ ?_
      · unfold Does; simp only [execOp]; rw [e5]; clear e5 hsz; go_simp
      · rintro v w' ⟨rfl, rfl⟩; refine ⟨hR, ⟨Mod.refl _ _, fun _ => New.refl _⟩, ?_⟩; simp only [phiPush]
    · intro vals wr hR hps hd
      have h6 := hd 6 (by kernel_rfl)
      simp only [phiPush] at h6
      have e6 := (fill_eval (B := BPush) (vals := vals) hsz 6 33 (by kernel_rfl)).trans h6
      show Does _ _ (fillAll act BPush vals) _ _
      generalize fillAll act BPush vals = act1 at *
      clear hd hps
      refine Does.mono (post := fun v w' => v = .pointer (some ⟨g, 1, none⟩) ∧ w' = wr) ?_ ?_
      · unfold Does; simp only [execOp]; rw [e6]; clear e6 hsz; go_simp
      · rintro v w' ⟨rfl, rfl⟩; refine ⟨hR, ⟨Mod.refl _ _, fun _ => New.refl _⟩, ?_⟩; simp only [phiPush]
    · intro vals wr hR hps hd
      have h7 := hd 7 (by kernel_rfl)
      simp only [phiPush] at h7
      have e7 := (fill_eval (B := BPush) (vals := vals) hsz 7 34 (by kernel_rfl)).trans h7
      have hx1 : wr.cell? ⟨g, 1, none⟩ = _ := (hB2.mod hR hgS).cellAt (i := 1) rfl
      show Does _ _ (fillAll act BPush vals) _ _
      generalize fillAll act BPush vals = act1 at *
      clear hd hps
      refine Does.mono (post := fun v w' => v = .int .i64 nl ∧ w' = wr) ?_ ?_
      · unfold Does; simp only [execOp]; rw [e7]; clear e7 hsz; go_simp
      · rintro v w' ⟨rfl, rfl⟩; refine ⟨hR, ⟨Mod.refl _ _, fun _ => New.refl _⟩, ?_⟩; simp only [phiPush]
    · intro vals wr hR hps hd
      have s1 := (fill_other (vals := vals) (B := BPush) 1 (by kernel_rfl)).trans ha1
      show Does _ _ (fillAll act BPush vals) _ _
      generalize fillAll act BPush vals = act1 at *
      clear hd hps
      refine Does.mono (post := fun v w' => v = u ∧ w' = wr) ?_ ?_
      · unfold Does; simp only [execOp]; rw [s1]; clear s1 hsz; go_simp
      · rintro v w' ⟨rfl, rfl⟩; refine ⟨hR, ⟨Mod.refl _ _, fun _ => New.refl _⟩, ?_⟩; simp only [phiPush]
    · intro vals wr hR hps hd
      have h9 := hd 9 (by kernel_rfl)
      simp only [phiPush] at h9
      have e9 := (fill_eval (B := BPush) (vals := vals) hsz 9 36 (by kernel_rfl)).trans h9
      show Does _ _ (fillAll act BPush vals) _ _
      generalize fillAll act BPush vals = act1 at *
      clear hd hps
      exact does_append_rd wr (.const (.slice none 0 0)) (.tmp 36) 22 (by rfl) w1.heap.size 5 z0 _ 1 Try.underlying22 hi0 hz0 hz1 hz2 rfl isB_zero (.slice none 0 0) [] rfl (OwnP.nil _ _ _ _) u (b.map bv) e9 (hbk wr hR) (bv_one _) (isB_map _) hbl1 hbl2 hR.size fun v' wa hE hg _ => by have hn := grown_none hg; rw [List.nil_append] at hE; obtain ⟨A3, c3, rfl, _⟩ := hE.rd; refine ⟨hR.trans (Mod.of_new hn _) (fun _ h _ => h), ⟨Mod.of_new hn _, fun _ => hn⟩, ?_⟩; simp only [phiPush]; exact ⟨A3, c3, rfl, hE⟩
    · intro vals wr hR hps hd
      have h8 := hd 8 (by kernel_rfl)
      simp only [phiPush] at h8
      have e8 := (fill_eval (B := BPush) (vals := vals) hsz 8 35 (by kernel_rfl)).trans h8
      have h10 := hd 10 (by kernel_rfl)
      simp only [phiPush] at h10
      obtain ⟨A3, c3, e10', hE⟩ := h10
      have e10 := (fill_eval (B := BPush) (vals := vals) hsz 10 37 (by kernel_rfl)).trans e10'
      show Does _ _ (fillAll act BPush vals) _ _
      generalize fillAll act BPush vals = act1 at *
      clear hd hps
      refine Does.mono (post := fun v w' => v = .agg #[.int .i64 nl, .slice A3 (b.map bv).length c3] ∧ w' = wr) ?_ ?_
      · unfold Does; simp only [execOp, List.map_toArray, List.map_cons, List.map_nil]; rw [e8, e10]; clear e8 e10 hsz; go_simp
      · rintro v w' ⟨rfl, rfl⟩; refine ⟨hR, ⟨Mod.refl _ _, fun _ => New.refl _⟩, ?_⟩; simp only [phiPush]; exact ⟨A3, c3, rfl, hE⟩
    · intro vals wr hR hps hd
      have h11 := hd 11 (by kernel_rfl)
      simp only [phiPush] at h11
      obtain ⟨A3, c3, e11', hE⟩ := h11
      have e11 := (fill_eval (B := BPush) (vals := vals) hsz 11 38 (by kernel_rfl)).trans e11'
      show Does _ _ (fillAll act BPush vals) _ _
      generalize fillAll act BPush vals = act1 at *
      clear hd hps
      refine Does.mono (post := fun v w' => v = .agg #[.int .i64 nl, .slice A3 (b.map bv).length c3, .int .i64 0, .int .i64 0, .int .i64 0] ∧ w' = wr) ?_ ?_
      · unfold Does; simp only [execOp, List.map_toArray, List.map_cons, List.map_nil]; rw [e11]; clear e11 hsz; go_simp
      · rintro v w' ⟨rfl, rfl⟩; refine ⟨hR, ⟨Mod.refl _ _, fun _ => New.refl _⟩, ?_⟩; simp only [phiPush]; exact ⟨A3, c3, rfl, hE⟩
    · intro vals wr hR hps hd
      have h12 := hd 12 (by kernel_rfl)
      simp only [phiPush] at h12
      obtain ⟨A3, c3, e12', hE⟩ := h12
      have e12 := (fill_eval (B := BPush) (vals := vals) hsz 12 39 (by kernel_rfl)).trans e12'
      show Does _ _ (fillAll act BPush vals) _ _
      generalize fillAll act BPush vals = act1 at *
      clear hd hps
      refine Does.mono (post := fun v w' => v = ptr wr.heap.size ∧ w' = wr.alloc (.cells #[.int .i64 nl, .slice A3 (b.map bv).length c3, .int .i64 0, .int .i64 0, .int .i64 0] 129)) ?_ ?_
      · unfold Does; simp only [execOp]; rw [e12]; clear e12 hsz; go_simp
      · rintro v w' ⟨rfl, rfl⟩; have hn := New.alloc wr (.cells #[.int .i64 nl, .slice A3 (b.map bv).length c3, .int .i64 0, .int .i64 0, .int .i64 0] 129); refine ⟨hR.trans (Mod.of_new hn _) (fun _ h _ => h), ⟨Mod.of_new hn _, fun _ => hn⟩, ?_⟩; simp only [phiPush]; exact ⟨_, A3, c3, rfl, hR.size, Bk.ofNew _ _ _, hE.new_ hn⟩
    · intro vals wr hR hps hd
      have h13 := hd 13 (by kernel_rfl)
      simp only [phiPush] at h13
      obtain ⟨p, A3, c3, e13', hp, hK, hE⟩ := h13
      have e13 := (fill_eval (B := BPush) (vals := vals) hsz 13 40 (by kernel_rfl)).trans e13'
      show Does _ _ (fillAll act BPush vals) _ _
      generalize fillAll act BPush vals = act1 at *
      clear hd hps
      refine Does.mono (post := fun v w' => v = .slice (some ⟨wr.heap.size, 0, none⟩) 1 1 ∧ w' = wr.alloc (.cells #[ptr p] 127)) ?_ ?_
      · unfold Does; simp only [execOp, List.map_toArray, List.map_cons, List.map_nil]; rw [e13]; clear e13 hsz; go_simp
      · rintro v w' ⟨rfl, rfl⟩; have hn := New.alloc wr (.cells #[ptr p] 127); refine ⟨hR.trans (Mod.of_new hn _) (fun _ h _ => h), ⟨Mod.of_new hn _, fun _ => hn⟩, ?_⟩; simp only [phiPush]; exact ⟨_, p, A3, c3, rfl, hR.size, Bk.ofNew _ _ _, hp, hK.new_ hn, hE.new_ hn⟩
    · intro vals wr hR hps hd
      have h4 := hd 4 (by kernel_rfl)
      simp only [phiPush] at h4
      have e4 := (fill_eval (B := BPush) (vals := vals) hsz 4 31 (by kernel_rfl)).trans h4
      have h14 := hd 14 (by kernel_rfl)
      simp only [phiPush] at h14
      obtain ⟨q, p, A3, c3, e14', hq, hQ1, hp, hK, hE⟩ := h14
      have e14 := (fill_eval (B := BPush) (vals := vals) hsz 14 41 (by kernel_rfl)).trans e14'
      show Does _ _ (fillAll act BPush vals) _ _
      generalize fillAll act BPush vals = act1 at *
      clear hd
      exact does_append_rd wr (.tmp 31) (.tmp 41) 91 (by rfl) 0 127 y0 _ 8 Try.underlying91 hj0 hy0 hy1 hy2 rfl isP_nil (.slice A n c) xs e4 (hps rfl) _ [ptr p] e14 (Rd.ofBk (xs := [ptr p]) hQ1 (fun i x hx => by simpa using hx) (by simp) (by simp [maxLen])) (fun x hx => by rw [List.mem_singleton.1 hx]; rfl) (fun x hx => by rw [List.mem_singleton.1 hx]; exact ⟨_, rfl⟩) hl3 hl4 (Nat.zero_le _) fun v' wa hO hg hv => by have hm := grown_mod hg; have hS : Mod (fun k => (Value.slice A n c).ownBlock = some k) wr wa := hm; refine ⟨hR.trans hS (fun _ h _ => h), ⟨hS, fun h => absurd rfl h⟩, ?_⟩; simp only [phiPush]; exact ⟨p, A3, c3, hO, hv.imp id (fun h => ⟨_, h, hR.size⟩), hp, hK.mod hS (fun h => by have := hSb _ h; omega), hE.mod hS (fun k hk h => by have := hSb _ h; have := (hE.lt k hk).1; omega)⟩
    · intro vals wr hR hps hd
      have h0 := hd 0 (by kernel_rfl)
      simp only [phiPush] at h0
      have e0 := (fill_eval (B := BPush) (vals := vals) hsz 0 27 (by kernel_rfl)).trans h0
      show Does _ _ (fillAll act BPush vals) _ _
      generalize fillAll act BPush vals = act1 at *
      clear hd hps
      refine Does.mono (post := fun v w' => v = ptr g ∧ w' = wr) ?_ ?_
      · unfold Does; simp only [execOp]; rw [e0]; clear e0 hsz; go_simp
      · rintro v w' ⟨rfl, rfl⟩; refine ⟨hR, ⟨Mod.refl _ _, fun _ => New.refl _⟩, ?_⟩; simp only [phiPush]
    · intro vals wr hR hps hd
      have h16 := hd 16 (by kernel_rfl)
      simp only [phiPush] at h16
      have e16 := (fill_eval (B := BPush) (vals := vals) hsz 16 43 (by kernel_rfl)).trans h16
      show Does _ _ (fillAll act BPush vals) _ _
      generalize fillAll act BPush vals = act1 at *
      clear hd hps
      refine Does.mono (post := fun v w' => v = .pointer (some ⟨g, 2, none⟩) ∧ w' = wr) ?_ ?_
      · unfold Does; simp only [execOp]; rw [e16]; clear e16 hsz; go_simp
      · rintro v w' ⟨rfl, rfl⟩; refine ⟨hR, ⟨Mod.refl _ _, fun _ => New.refl _⟩, ?_⟩; simp only [phiPush]
  case last =>
    intro oper hop vals wr hR hφ
    have h15 := hφ 15 (by kernel_rfl)
    have h17 := hφ 17 (by kernel_rfl)
    simp only [phiPush] at h15 h17
    obtain ⟨p, A3, c3, hO, hv, hp, hK, hE⟩ := h15
    have e15 := (fill_eval (B := BPush) (vals := vals) hsz 15 42 (by kernel_rfl))
    have e17 := (fill_eval (B := BPush) (vals := vals) hsz 17 44 (by kernel_rfl)).trans h17
    have hGx := hB2.mod hR hgS
    have hx2 : wr.cell? ⟨g, 2, none⟩ = _ := hGx.cellAt (i := 2) rfl
    have hf2 := hGx.frozen 2
    obtain ⟨A4, c4, e4, _⟩ := hO.rd
    rw [e4] at e15 hO hv
    refine Does.mono (post := fun v w' => w' = wr.setCell ⟨g, 2, none⟩ (.slice A4 (xs ++ [ptr p]).length c4)) ?_ ?_
    · show Does _ _ (fillAll act BPush vals) _ _; generalize fillAll act BPush vals = act1 at *; clear hφ hQ; unfold Does execOp; rw [hop]; simp only []; rw [e15, e17]; go_simp
    · rintro v w' rfl
      exact hQ vals wr p A3 c3 _ hR hO hv hp hK hE
end Go.Proofs.Ytkfcdfcoiglieaa
