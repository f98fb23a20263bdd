/- append onto an empty slice without room (a slice literal of nothing), from whatever slice reads as cells. No condition. -/
import Derived.Test.YtkfcdfcoiglieaaAppend
namespace Go.Proofs.Ytkfcdfcoiglieaa
open Go.RowKit

/-- A slice of the call's own, or an empty one without room. -/
def OwnE (Pr : Value → Prop) (w : World) (base : Nat) (e : TypeId) (v : Value) (xs : List Value) : Prop := OwnP Pr w base e v xs ∨ (xs = [] ∧ ∃ a, v = .slice (some ⟨a, 0, none⟩) 0 0)
section
variable {Pr : Value → Prop} {w w' : World} {base : Nat} {e : TypeId} {v : Value} {xs : List Value}
theorem OwnE.new_ (h : OwnE Pr w base e v xs) (hn : New w w') : OwnE Pr w' base e v xs := h.imp (fun h => h.new_ hn) id
theorem OwnE.mono (h : OwnE Pr w base e v xs) {base' : Nat} (hb : base' ≤ base) : OwnE Pr w base' e v xs := h.imp (fun h => h.mono hb) id
theorem OwnE.mod {S : Nat → Prop} (h : OwnE Pr w base e v xs) (hm : Mod S w w') (hS : ∀ g, base ≤ g → g < w.heap.size → ¬ S g) : OwnE Pr w' base e v xs :=
  h.imp (fun h => h.mod hm (fun g hg => hS g (h.lt g hg).1 (h.lt g hg).2)) id
theorem OwnE.shape (h : OwnE Pr w base e v xs) : ∃ A c, v = .slice A xs.length c := by
  rcases h with (⟨rfl, rfl⟩ | ⟨g, o, cap, cur, rfl, _⟩) | ⟨rfl, a, rfl⟩
  · exact ⟨_, _, rfl⟩
  · exact ⟨_, _, rfl⟩
  · exact ⟨_, _, rfl⟩
theorem OwnE.rd (h : OwnE Pr w base e v xs) : Rd w v xs := by
  rcases h with h | ⟨rfl, a, rfl⟩
  · exact h.rd
  · exact ⟨_, 0, rfl, Nat.le_refl _, by simp [maxLen], fun h => absurd h (by omega)⟩
end
section
variable {P : Program} (w : World)
theorem run_append_emp {Pr : Value → Prop} (base : Nat) (t ty e : TypeId) (i : TypeInfo) (z : Value) (bytes : Nat) (ht : P.underlying t = some (.slice e)) (hi : P.info? e = some i) (hz : i.zero = some z)
    (hsize : i.size = 1) (hby : i.bytes = bytes) (hzs : z.cells = #[z]) (hzp : Pr z)
    (g : Nat) (u : Value) (news : List Value) (hr : Rd w u news) (hp : ∀ x ∈ news, Pr x)
    (h63 : news.length ≤ maxLen) (hbytes : news.length * bytes ≤ 140737488355328) (hbase : base ≤ w.heap.size) :
    ∃ v' w', (Builtin.append_ #[t, t] ty #[.slice (some ⟨g, 0, none⟩) 0 0, u]).run P w = .ok v' w' ∧ OwnE Pr w' base e v' news ∧ New w w' := by
  obtain ⟨A, c, rfl, hc1, hc2, hx⟩ := hr
  have hnil : news.length = 0 → news = [] := List.eq_nil_of_length_eq_zero
  rcases A with _ | ad
  · have hc0 : c = 0 := by
      rcases Nat.eq_zero_or_pos c with h | h
      · exact h
      · obtain ⟨_, _, h, _⟩ := hx h; cases h
    have hn0 : news = [] := hnil (by omega)
    subst hn0
    exact ⟨_, w, by simp [Builtin.append_, run_underlying ht, sizeOf, typeInfo, hi, Builtin.lenOf, Builtin.firstCells, storeCells], .inr ⟨rfl, g, rfl⟩, New.refl w⟩
  · rcases Nat.eq_zero_or_pos news.length with hn0 | hpos
    · have hn0' := hnil hn0
      subst hn0'
      exact ⟨_, w, by simp [Builtin.append_, run_underlying ht, sizeOf, typeInfo, hi, Builtin.lenOf, Builtin.firstCells, storeCells, loadCells, loadCellsFrom], .inr ⟨rfl, g, rfl⟩, New.refl w⟩
    · obtain ⟨b, o', e', hcell⟩ := hx (by omega)
      injection e' with e'
      subst e'
      have hcells : ∀ j x, news[j]? = some x → w.cell? ((⟨b, o', none⟩ : Addr).add j) = some x := by
        intro j x hj
        have ha : (⟨b, o', none⟩ : Addr).add j = ⟨b, o' + j, none⟩ := by unfold Addr.add; split <;> simp_all
        rw [ha]; exact hcell j x hj
      subst hby
      have hzc : ∀ n, (Builtin.zeroCells z.cells n).toList = List.replicate n z := fun n => by rw [hzs]; exact zeroCells_list z n
      have h63' : 0 + news.length ≤ 9223372036854775807 := by simp only [maxLen] at h63; omega
      have hr := run_append_grow (P := P) w t ty e i z ht hi hz ⟨g, 0, none⟩ 0 0 [] (by simp) (by simp) ⟨b, o', none⟩ news.length c news (by simp [hsize]) hcells (by omega) (by omega) (growslice_fits (by omega) (by rw [Nat.zero_add]; exact hbytes))
      refine ⟨_, _, hr, .inl (OwnP.made (w := w.drew) hbase (n := 0 + news.length) ?_ (by simp) (grownCap_ge w _ _ e) (grownCap_le_maxLen w _ _ e (by rw [Nat.zero_add]; exact h63)) ?_ ?_), (New.drew w).trans (New.alloc _ _)⟩
      · rw [Array.toList_append, Array.toList_append]
        exact List.take_left' (by simp)
      · have hge := grownCap_ge w (0 + news.length) 0 e
        simp only [Array.size_append, List.size_toArray, size_zeroCells, hzs]
        simp; omega
      · intro x hx
        rw [Array.toList_append, Array.toList_append, hzc] at hx
        rcases List.mem_append.1 hx with hx | hx
        · rcases List.mem_append.1 hx with hx | hx
          · simp at hx
          · exact hp x hx
        · rw [(List.mem_replicate.1 hx).2]; exact hzp

theorem run_append_fresh {Pr : Value → Prop} (t ty e : TypeId) (i : TypeInfo) (z : Value) (bytes : Nat) (ht : P.underlying t = some (.slice e)) (hi : P.info? e = some i) (hz : i.zero = some z)
    (hsize : i.size = 1) (hby : i.bytes = bytes) (hzs : z.cells = #[z]) (hzp : Pr z)
    (g : Nat) (u : Value) (news : List Value) (hr : Rd w u news) (hp : ∀ x ∈ news, Pr x) (hpos : 0 < news.length)
    (h63 : news.length ≤ maxLen) (hbytes : news.length * bytes ≤ 140737488355328) :
    ∃ cur cap, (Builtin.append_ #[t, t] ty #[.slice (some ⟨g, 0, none⟩) 0 0, u]).run P w = .ok (.slice (some ⟨w.heap.size, 0, none⟩) news.length cap) (w.drew.alloc (.cells cur e)) ∧
      cur.toList.take news.length = news ∧ news.length ≤ cap ∧ cap ≤ maxLen ∧ cap ≤ cur.size ∧ ∀ x ∈ cur.toList, Pr x := by
  obtain ⟨A, c, rfl, hc1, hc2, hx⟩ := hr
  obtain ⟨b, o', rfl, hcell⟩ := hx (by omega)
  have hcells : ∀ j x, news[j]? = some x → w.cell? ((⟨b, o', none⟩ : Addr).add j) = some x := by
    intro j x hj
    have ha : (⟨b, o', none⟩ : Addr).add j = ⟨b, o' + j, none⟩ := by unfold Addr.add; split <;> simp_all
    rw [ha]; exact hcell j x hj
  subst hby
  have hzc : ∀ n, (Builtin.zeroCells z.cells n).toList = List.replicate n z := fun n => by rw [hzs]; exact zeroCells_list z n
  have h63' : 0 + news.length ≤ 9223372036854775807 := by simp only [maxLen] at h63; omega
  have hr := run_append_grow (P := P) w t ty e i z ht hi hz ⟨g, 0, none⟩ 0 0 [] (by simp) (by simp) ⟨b, o', none⟩ news.length c news (by simp [hsize]) hcells (by omega) (by omega) (growslice_fits (by omega) (by rw [Nat.zero_add]; exact hbytes))
  rw [Nat.zero_add] at hr
  refine ⟨_, _, hr, ?_, grownCap_ge w _ _ e, grownCap_le_maxLen w _ _ e h63, ?_, ?_⟩
  · rw [Array.toList_append, Array.toList_append]
    exact List.take_left' (by simp)
  · have hge := grownCap_ge w news.length 0 e
    simp only [Array.size_append, List.size_toArray, size_zeroCells, hzs]
    simp; omega
  · intro x hx
    rw [Array.toList_append, Array.toList_append, hzc] at hx
    rcases List.mem_append.1 hx with hx | hx
    · rcases List.mem_append.1 hx with hx | hx
      · simp at hx
      · exact hp x hx
    · rw [(List.mem_replicate.1 hx).2]; exact hzp

theorem step_append_fresh {Pr : Value → Prop} {ops : Array Oper} {o : Oper} {a : Act} {K : Act → World → Prop} {Q : Exit → Act → World → Prop} {E : Prop} (hgd : o.guard = none) (s x : Operand) (t : TypeId)
    (ho : o.op = .call { callee := .builtin .append, args := #[s, x], argTypes := #[t, t] })
    (e : TypeId) (i : TypeInfo) (z : Value) (bytes : Nat) (ht : P.underlying t = some (.slice e)) (hi : P.info? e = some i) (hz : i.zero = some z)
    (hsize : i.size = 1) (hby : i.bytes = bytes) (hzs : z.cells = #[z]) (hzp : Pr z)
    (g : Nat) (hs : a.eval s = .slice (some ⟨g, 0, none⟩) 0 0) (u : Value) (news : List Value) (hx : a.eval x = u) (hr : Rd w u news) (hp : ∀ x ∈ news, Pr x) (hpos : 0 < news.length)
    (h63 : news.length ≤ maxLen) (hbytes : news.length * bytes ≤ 140737488355328)
    (h : ∀ cur cap, cur.toList.take news.length = news → news.length ≤ cap → cap ≤ maxLen → cap ≤ cur.size → (∀ x ∈ cur.toList, Pr x) →
      K (a.put o.dst (.slice (some ⟨w.heap.size, 0, none⟩) news.length cap)) (w.drew.alloc (.cells cur e))) :
    if Region.wanted o (yielded ops a.tmps) = true then Oper.wp P o a w K Q else E := by
  have hw : Region.wanted o (yielded ops a.tmps) = true := by simp [Region.wanted, hgd]
  rw [if_pos hw]
  obtain ⟨cur, cap, hrun, h2, h3, h4, h5, h6⟩ := run_append_fresh (P := P) w t o.type e i z bytes ht hi hz hsize hby hzs hzp g u news hr hp hpos h63 hbytes
  unfold Oper.wp execOp
  simp only [ho, resolve, invoke, builtin, Sem.run_bind, Sem.run_pure, Result.andThen_ok, List.map_toArray, List.map_cons, List.map_nil, hs, hx, hrun]
  exact h cur cap h2 h3 h4 h5 h6

theorem step_append_none {ops : Array Oper} {o : Oper} {a : Act} {K : Act → World → Prop} {Q : Exit → Act → World → Prop} {E : Prop} (hgd : o.guard = none) (s x : Operand) (t : TypeId)
    (ho : o.op = .call { callee := .builtin .append, args := #[s, x], argTypes := #[t, t] })
    (e : TypeId) (i : TypeInfo) (ht : P.underlying t = some (.slice e)) (hi : P.info? e = some i)
    (g : Nat) (hs : a.eval s = .slice (some ⟨g, 0, none⟩) 0 0) (u : Value) (hx : a.eval x = u) (hr : Rd w u [])
    (h : K (a.put o.dst (.slice (some ⟨g, 0, none⟩) 0 0)) w) :
    if Region.wanted o (yielded ops a.tmps) = true then Oper.wp P o a w K Q else E := by
  have hw : Region.wanted o (yielded ops a.tmps) = true := by simp [Region.wanted, hgd]
  rw [if_pos hw]
  have hrun : (Builtin.append_ #[t, t] o.type #[.slice (some ⟨g, 0, none⟩) 0 0, u]).run P w = .ok (.slice (some ⟨g, 0, none⟩) 0 0) w := by
    obtain ⟨A, c, rfl, _⟩ := hr
    rcases A with _ | ad
    · simp [Builtin.append_, run_underlying ht, sizeOf, typeInfo, hi, Builtin.lenOf, Builtin.firstCells, storeCells]
    · simp [Builtin.append_, run_underlying ht, sizeOf, typeInfo, hi, Builtin.lenOf, Builtin.firstCells, storeCells, loadCells, loadCellsFrom]
  unfold Oper.wp execOp
  simp only [ho, resolve, invoke, builtin, Sem.run_bind, Sem.run_pure, Result.andThen_ok, List.map_toArray, List.map_cons, List.map_nil, hs, hx, hrun]
  exact h

theorem step_append_emp {Pr : Value → Prop} {ops : Array Oper} {o : Oper} {a : Act} {K : Act → World → Prop} {Q : Exit → Act → World → Prop} {E : Prop} (hgd : o.guard = none) (s x : Operand) (t : TypeId)
    (ho : o.op = .call { callee := .builtin .append, args := #[s, x], argTypes := #[t, t] })
    (base : Nat) (e : TypeId) (i : TypeInfo) (z : Value) (bytes : Nat) (ht : P.underlying t = some (.slice e)) (hi : P.info? e = some i) (hz : i.zero = some z)
    (hsize : i.size = 1) (hby : i.bytes = bytes) (hzs : z.cells = #[z]) (hzp : Pr z)
    (g : Nat) (hs : a.eval s = .slice (some ⟨g, 0, none⟩) 0 0) (u : Value) (news : List Value) (hx : a.eval x = u) (hr : Rd w u news) (hp : ∀ x ∈ news, Pr x)
    (h63 : news.length ≤ maxLen) (hbytes : news.length * bytes ≤ 140737488355328) (hbase : base ≤ w.heap.size)
    (h : ∀ v' w', OwnE Pr w' base e v' news → New w w' → K (a.put o.dst v') w') :
    if Region.wanted o (yielded ops a.tmps) = true then Oper.wp P o a w K Q else E := by
  have hw : Region.wanted o (yielded ops a.tmps) = true := by simp [Region.wanted, hgd]
  rw [if_pos hw]
  obtain ⟨v', w', hrun, h2, h3⟩ := run_append_emp (P := P) w base t o.type e i z bytes ht hi hz hsize hby hzs hzp g u news hr hp h63 hbytes hbase
  unfold Oper.wp execOp
  simp only [ho, resolve, invoke, builtin, Sem.run_bind, Sem.run_pure, Result.andThen_ok, List.map_toArray, List.map_cons, List.map_nil, hs, hx, hrun]
  exact h v' w' h2 h3
end
end Go.Proofs.Ytkfcdfcoiglieaa
