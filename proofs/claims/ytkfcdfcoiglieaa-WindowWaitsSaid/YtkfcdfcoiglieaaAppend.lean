/- append onto a row of the call's own, from whatever slice reads as cells, the nil one too; what all cells of the row are stays. No condition. -/
import Derived.Test.YtkfcdfcoiglieaaMem
import Derived.Lib.AppendZeros
namespace Go.Proofs.Ytkfcdfcoiglieaa
open Go.RowKit

theorem zeroCells_list (z : Value) (n : Nat) : (Builtin.zeroCells #[z] n).toList = List.replicate n z := by
  apply List.ext_getElem?
  intro j
  by_cases hj : j < n
  · simp [Builtin.zeroCells, hj, Nat.mod_one]
  · simp [Builtin.zeroCells, hj]

section
variable {P : Program} (w : World)
theorem run_append_roomAt (t ty e : TypeId) (i : TypeInfo) (ht : P.underlying t = some (.slice e)) (hi : P.info? e = some i) (h1s : i.size = 1)
    (g o sLen sCap : Nat) (cur : Array Value) (hg : w.heap[g]? = some (.cells cur e (0, 0)))
    (a : Addr) (m c : Nat) (news : List Value) (hl : news.length = m) (hnews : ∀ j u, news[j]? = some u → w.cell? (a.add j) = some u) (h1 : ∀ u ∈ news, u.oneCell' = true)
    (hroom : sLen + m ≤ sCap) (hfit : o + sLen + news.length ≤ cur.size) :
    (Builtin.append_ #[t, t] ty #[.slice (some ⟨g, o, none⟩) sLen sCap, .slice (some a) m c]).run P w =
      .ok (.slice (some ⟨g, o, none⟩) (sLen + m) sCap) (w.setRow g (cur.toList.take (o + sLen) ++ news ++ cur.toList.drop (o + sLen + news.length)).toArray) := by
  have hf := run_firstCells_some (P := P) w i.size m a m c news (by rw [h1s]; omega) hnews
  have hst := run_storeCells_at P g (o + sLen) e news 0 cur w hg (by simpa using hfit) h1
  simp only [Nat.add_zero] at hst
  have ha : (⟨g, o, none⟩ : Addr).add sLen = ⟨g, o + sLen, none⟩ := by unfold Addr.add; split <;> simp_all
  rw [h1s] at hf
  simp [Builtin.append_, run_underlying ht, sizeOf, typeInfo, hi, Builtin.lenOf, hroom, h1s, hf, ha, hst]

theorem run_append_noneP {Pr : Value → Prop} (base : Nat) (t ty e : TypeId) (i : TypeInfo) (ht : P.underlying t = some (.slice e)) (hi : P.info? e = some i)
    (v : Value) (xs : List Value) (hown : OwnP Pr w base e v xs) (c : Nat) : (Builtin.append_ #[t, t] ty #[v, .slice none 0 c]).run P w = .ok v w := by
  rcases hown with ⟨rfl, rfl⟩ | ⟨g, o, cap, cur, rfl, _, _, hnc, _⟩
  · simp [Builtin.append_, run_underlying ht, sizeOf, typeInfo, hi, Builtin.lenOf, Builtin.firstCells]
  · simp [Builtin.append_, run_underlying ht, sizeOf, typeInfo, hi, Builtin.lenOf, Builtin.firstCells, hnc, storeCells]

theorem run_append_zero {Pr : Value → Prop} (base : Nat) (t ty e : TypeId) (i : TypeInfo) (ht : P.underlying t = some (.slice e)) (hi : P.info? e = some i)
    (v : Value) (xs : List Value) (hown : OwnP Pr w base e v xs) (a : Addr) (c : Nat) : (Builtin.append_ #[t, t] ty #[v, .slice (some a) 0 c]).run P w = .ok v w := by
  rcases hown with ⟨rfl, rfl⟩ | ⟨g, o, cap, cur, rfl, _, _, hnc, _⟩
  · simp [Builtin.append_, run_underlying ht, sizeOf, typeInfo, hi, Builtin.lenOf, Builtin.firstCells, loadCells, loadCellsFrom]
  · simp [Builtin.append_, run_underlying ht, sizeOf, typeInfo, hi, Builtin.lenOf, Builtin.firstCells, hnc, storeCells, loadCells, loadCellsFrom]

theorem run_append_rd {Pr : Value → Prop} (base : Nat) (t ty e : TypeId) (i : TypeInfo) (z : Value) (bytes : Nat) (ht : P.underlying t = some (.slice e)) (hi : P.info? e = some i) (hz : i.zero = some z)
    (hsize : i.size = 1) (hby : i.bytes = bytes) (hzs : z.cells = #[z]) (hzp : Pr z)
    (v : Value) (xs : List Value) (hown : OwnP Pr w base e v xs) (u : Value) (news : List Value) (hr : Rd w u news) (h1 : ∀ x ∈ news, x.oneCell' = true) (hp : ∀ x ∈ news, Pr x)
    (h63 : xs.length + news.length ≤ maxLen) (hbytes : (xs.length + news.length) * bytes ≤ 140737488355328) (hbase : base ≤ w.heap.size) :
    ∃ v' w', (Builtin.append_ #[t, t] ty #[v, u]).run P w = .ok v' w' ∧ OwnP Pr w' base e v' (xs ++ news) ∧ w.grownBy w' v.ownBlock ∧
      (v'.ownBlock = v.ownBlock ∨ v'.ownBlock = some w.heap.size) := by
  obtain ⟨A, c, rfl, hc1, hc2, hx⟩ := hr
  have hnil : news.length = 0 → news = [] := List.eq_nil_of_length_eq_zero
  rcases A with _ | ad
  · have hc0 : c = 0 := by
      rcases Nat.eq_zero_or_pos c with h | h
      · exact h
      · obtain ⟨_, _, h, _⟩ := hx h; cases h
    have hn0 : news = [] := hnil (by omega)
    subst hn0
    exact ⟨v, w, run_append_noneP w base t ty e i ht hi v xs hown c, by simpa using hown, World.grownBy.refl w _, .inl rfl⟩
  · rcases Nat.eq_zero_or_pos news.length with hn0 | hpos
    · have hn0' := hnil hn0
      subst hn0'
      exact ⟨v, w, run_append_zero w base t ty e i ht hi v xs hown ad c, by simpa using hown, World.grownBy.refl w _, .inl rfl⟩
    · obtain ⟨b, o', e', hcell⟩ := hx (by omega)
      injection e' with e'
      subst e'
      have hcells : ∀ j x, news[j]? = some x → w.cell? ((⟨b, o', none⟩ : Addr).add j) = some x := by
        intro j x hj
        have ha : (⟨b, o', none⟩ : Addr).add j = ⟨b, o' + j, none⟩ := by unfold Addr.add; split <;> simp_all
        rw [ha]; exact hcell j x hj
      have hzc : ∀ n, (Builtin.zeroCells z.cells n).toList = List.replicate n z := fun n => by rw [hzs]; exact zeroCells_list z n
      subst hby
      have h63' : xs.length + news.length ≤ 9223372036854775807 := by simp only [maxLen] at h63; omega
      -- what the growing arm leaves
      have grown : ∀ (old : Nat) (row : Option Nat),
          OwnP Pr (w.drew.alloc (.cells (xs.toArray ++ news.toArray ++ Builtin.zeroCells z.cells (grownCap w (xs.length + news.length) old e - (xs.length + news.length))) e)) base e
            (.slice (some ⟨w.heap.size, 0, none⟩) (xs.length + news.length) (grownCap w (xs.length + news.length) old e)) (xs ++ news) ∧
          w.grownBy (w.drew.alloc (.cells (xs.toArray ++ news.toArray ++ Builtin.zeroCells z.cells (grownCap w (xs.length + news.length) old e - (xs.length + news.length))) e)) row := by
        intro old row
        have hge := grownCap_ge w (xs.length + news.length) old e
        have hcm : grownCap w (xs.length + news.length) old e ≤ maxLen := grownCap_le_maxLen w (xs.length + news.length) old e h63
        refine ⟨OwnP.made (w := w.drew) hbase (n := xs.length + news.length) ?_ (by simp) hge hcm ?_ ?_, ⟨rfl, rfl, rfl, by simp, fun k hk _ => Below.heap_alloc w.drew _ k hk⟩⟩
        · rw [Array.toList_append, Array.toList_append]
          exact List.take_left' (by simp)
        · simp only [Array.size_append, List.size_toArray, size_zeroCells, hzs]
          simp; omega
        · intro x hx
          rw [Array.toList_append, Array.toList_append, hzc] at hx
          rcases List.mem_append.1 hx with hx | hx
          · rcases List.mem_append.1 hx with hx | hx
            · exact hown.all x hx
            · exact hp x hx
          · rw [(List.mem_replicate.1 hx).2]; exact hzp
      have hall := hown.all
      rcases hown with ⟨rfl, rfl⟩ | ⟨g, o, cap, cur, rfl, hbg, hg, hnc, hcm, hcs, htake, hpc⟩
      · have hr := run_append_nil (P := P) w t ty e i z ht hi hz ⟨b, o', none⟩ news.length c news (by simp [hsize]) hcells hpos (by omega) (by have hb := hbytes; simp only [List.length_nil, Nat.zero_add] at hb; omega)
        have hgr := grown 0 (Value.ownBlock (.slice none 0 0))
        simp only [List.length_nil, Nat.zero_add, List.nil_append, Array.empty_append] at hgr ⊢
        exact ⟨_, _, hr, hgr.1, hgr.2, Or.inr rfl⟩
      · by_cases hroom : xs.length + news.length ≤ cap
        · have hfit : o + xs.length + news.length ≤ cur.size := by omega
          have hr := run_append_roomAt (P := P) w t ty e i ht hi hsize g o xs.length cap cur hg ⟨b, o', none⟩ news.length c news rfl hcells h1 hroom hfit
          refine ⟨_, _, hr, .inr ⟨g, o, cap, _, by rw [List.length_append], hbg, hg.setRow _, by simpa using hroom, hcm, ?_, ?_, ?_⟩, ⟨rfl, rfl, rfl, by simp, fun k _ hk => setRow_other w g k _ (fun e => hk (by simp [Value.ownBlock, e]))⟩, Or.inl rfl⟩
          · simp only [List.size_toArray, List.length_append, List.length_take, List.length_drop, Array.length_toList]
            omega
          · have hl1 : (cur.toList.take (o + xs.length)).length = o + xs.length := by
              rw [List.length_take, Array.length_toList]
              exact Nat.min_eq_left (Nat.le_trans (Nat.add_le_add_left hnc o) hcs)
            simp only [List.append_assoc]
            rw [List.drop_append_of_le_length (by rw [hl1]; omega), ← List.append_assoc, List.drop_take, show o + xs.length - o = xs.length from by omega, htake, List.length_append]
            exact List.take_left' (by simp)
          · intro x hx
            simp only [List.mem_append] at hx
            rcases hx with (hx | hx) | hx
            · exact hpc x (List.mem_of_mem_take hx)
            · exact hp x hx
            · exact hpc x (List.mem_of_mem_drop hx)
        · have holds : ∀ j u, xs[j]? = some u → w.cell? ((⟨g, o, none⟩ : Addr).add j) = some u := by
            intro j u hu
            have ha : (⟨g, o, none⟩ : Addr).add j = ⟨g, o + j, none⟩ := by unfold Addr.add; split <;> simp_all
            rw [ha]
            refine Bk.cellAt hg ?_
            rw [← htake, List.getElem?_take] at hu
            split at hu
            · rw [List.getElem?_drop] at hu; simpa using hu
            · cases hu
          have hr := run_append_grow (P := P) w t ty e i z ht hi hz ⟨g, o, none⟩ xs.length cap xs (by simp [hsize]) holds ⟨b, o', none⟩ news.length c news (by simp [hsize]) hcells (by omega) (by omega) (growslice_fits (by omega) hbytes)
          have hgr := grown cap (Value.ownBlock (.slice (some ⟨g, o, none⟩) xs.length cap))
          exact ⟨_, _, hr, hgr.1, hgr.2, Or.inr rfl⟩

theorem wp_append_rd {Pr : Value → Prop} {o : Oper} {a : Act} {K : Act → World → Prop} {Q : Exit → Act → World → Prop} (s x : Operand) (t : TypeId)
    (ho : o.op = .call { callee := .builtin .append, args := #[s, x], argTypes := #[t, t] })
    (base : Nat) (e : TypeId) (i : TypeInfo) (z : Value) (bytes : Nat) (ht : P.underlying t = some (.slice e)) (hi : P.info? e = some i) (hz : i.zero = some z)
    (hsize : i.size = 1) (hby : i.bytes = bytes) (hzs : z.cells = #[z]) (hzp : Pr z)
    (v : Value) (xs : List Value) (hs : a.eval s = v) (hown : OwnP Pr w base e v xs) (u : Value) (news : List Value) (hx : a.eval x = u) (hr : Rd w u news) (h1 : ∀ x ∈ news, x.oneCell' = true) (hp : ∀ x ∈ news, Pr x)
    (h63 : xs.length + news.length ≤ maxLen) (hbytes : (xs.length + news.length) * bytes ≤ 140737488355328) (hbase : base ≤ w.heap.size)
    (h : ∀ v' w', OwnP Pr w' base e v' (xs ++ news) → w.grownBy w' v.ownBlock → (v'.ownBlock = v.ownBlock ∨ v'.ownBlock = some w.heap.size) → K (a.put o.dst v') w') : o.wp P a w K Q := by
  obtain ⟨v', w', hrun, h2, h3, h4⟩ := run_append_rd (P := P) w base t o.type e i z bytes ht hi hz hsize hby hzs hzp v xs hown u news hr h1 hp h63 hbytes hbase
  unfold Oper.wp execOp
  simp only [ho, resolve, invoke, builtin, Sem.run_bind, Sem.run_pure, Result.andThen_ok, List.map_toArray, List.map_cons, List.map_nil, hs, hx, hrun]
  exact h v' w' h2 h3 h4

theorem wpList_append_rd {Pr : Value → Prop} {ops : Array Oper} {rest : List Oper} {o : Oper} {a : Act} {Q : Exit → Act → World → Prop} (hgd : o.guard = none) (s x : Operand) (t : TypeId)
    (ho : o.op = .call { callee := .builtin .append, args := #[s, x], argTypes := #[t, t] })
    (base : Nat) (e : TypeId) (i : TypeInfo) (z : Value) (bytes : Nat) (ht : P.underlying t = some (.slice e)) (hi : P.info? e = some i) (hz : i.zero = some z)
    (hsize : i.size = 1) (hby : i.bytes = bytes) (hzs : z.cells = #[z]) (hzp : Pr z)
    (v : Value) (xs : List Value) (hs : a.eval s = v) (hown : OwnP Pr w base e v xs) (u : Value) (news : List Value) (hx : a.eval x = u) (hr : Rd w u news) (h1 : ∀ x ∈ news, x.oneCell' = true) (hp : ∀ x ∈ news, Pr x)
    (h63 : xs.length + news.length ≤ maxLen) (hbytes : (xs.length + news.length) * bytes ≤ 140737488355328) (hbase : base ≤ w.heap.size)
    (h : ∀ v' w', OwnP Pr w' base e v' (xs ++ news) → w.grownBy w' v.ownBlock → (v'.ownBlock = v.ownBlock ∨ v'.ownBlock = some w.heap.size) → wpList P ops Q rest (a.put o.dst v') w') : wpList P ops Q (o :: rest) a w :=
  wpList_plain hgd fun _ hK => wp_append_rd w s x t ho base e i z bytes ht hi hz hsize hby hzs hzp v xs hs hown u news hx hr h1 hp h63 hbytes hbase fun v' w' h2 h3 h4 => hK _ _ (h v' w' h2 h3 h4)

/-- As a step of a region that draws its order. -/
theorem step_append_rd {Pr : Value → Prop} {ops : Array Oper} {o : Oper} {a : Act} {K : Act → World → Prop} {Q : Exit → Act → World → Prop} {E : Prop} (hgd : o.guard = none) (s x : Operand) (t : TypeId)
    (ho : o.op = .call { callee := .builtin .append, args := #[s, x], argTypes := #[t, t] })
    (base : Nat) (e : TypeId) (i : TypeInfo) (z : Value) (bytes : Nat) (ht : P.underlying t = some (.slice e)) (hi : P.info? e = some i) (hz : i.zero = some z)
    (hsize : i.size = 1) (hby : i.bytes = bytes) (hzs : z.cells = #[z]) (hzp : Pr z)
    (v : Value) (xs : List Value) (hs : a.eval s = v) (hown : OwnP Pr w base e v xs) (u : Value) (news : List Value) (hx : a.eval x = u) (hr : Rd w u news) (h1 : ∀ x ∈ news, x.oneCell' = true) (hp : ∀ x ∈ news, Pr x)
    (h63 : xs.length + news.length ≤ maxLen) (hbytes : (xs.length + news.length) * bytes ≤ 140737488355328) (hbase : base ≤ w.heap.size)
    (h : ∀ v' w', OwnP Pr w' base e v' (xs ++ news) → w.grownBy w' v.ownBlock → (v'.ownBlock = v.ownBlock ∨ v'.ownBlock = some w.heap.size) → K (a.put o.dst v') w') :
    if Region.wanted o (yielded ops a.tmps) = true then Oper.wp P o a w K Q else E := by
  have hw : Region.wanted o (yielded ops a.tmps) = true := by simp [Region.wanted, hgd]
  rw [if_pos hw]
  exact wp_append_rd w s x t ho base e i z bytes ht hi hz hsize hby hzs hzp v xs hs hown u news hx hr h1 hp h63 hbytes hbase h
end

/-- What an append onto an own row leaves: all but that row, and what is new, stands. -/
theorem grown_mod {w w' : World} {v : Value} (hg : w.grownBy w' v.ownBlock) : Mod (fun k => v.ownBlock = some k) w w' :=
  ⟨hg.os, hg.tape, hg.output, hg.size, fun k hk hn => hg.block k hk (fun e => hn e.symm)⟩
theorem grown_below {Pr : Value → Prop} {base : Nat} {w0 w w' : World} {v : Value} {e : TypeId} {xs : List Value} (h : Below base w0 w) (hown : OwnP Pr w base e v xs) (hg : w.grownBy w' v.ownBlock) (hb : base ≤ w.heap.size) : Below base w0 w' :=
  h.grown hg hb fun k hk => (hown.lt k hk).1
theorem bv_one (l : List UInt8) : ∀ x ∈ l.map bv, x.oneCell' = true := by
  intro x hx
  obtain ⟨c, _, rfl⟩ := List.mem_map.1 hx
  rfl
end Go.Proofs.Ytkfcdfcoiglieaa
