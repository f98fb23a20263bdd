/- (*Window).Due: what is due is sent and told. Conditions: the window is one, its numbers are in their ranges. -/
import Derived.Test.YtkfcdfcoiglieaaDueL
import Derived.Maps.OwnIn
import Derived.Maps.AppendAt
namespace Go.Proofs.Ytkfcdfcoiglieaa
open Go.RowKit Go.Shelf
attribute [local go_sem] Oper.semAt_some

/-- The cells of a row of packets. -/
def pkflat : List Pk → List Value → List Value
  | k :: ks, u :: us => .int .i64 k.seq :: u :: pkflat ks us
  | _, _ => []
theorem pkflat_snoc : ∀ (ks : List Pk) (us : List Value) (k : Pk) (u : Value), us.length = ks.length → pkflat (ks ++ [k]) (us ++ [u]) = pkflat ks us ++ [.int .i64 k.seq, u]
  | [], [], _, _, _ => rfl
  | [], _ :: _, _, _, h => by simp at h
  | _ :: _, [], _, _, h => by simp at h
  | x :: ks, y :: us, k, u, h => by
    simp only [List.cons_append, pkflat]
    rw [pkflat_snoc ks us k u (by simpa using h)]
theorem pkflat_length : ∀ (ks : List Pk) (us : List Value), us.length = ks.length → (pkflat ks us).length = ks.length * 2
  | [], [], _ => rfl
  | [], _ :: _, h => by simp at h
  | _ :: _, [], h => by simp at h
  | x :: ks, y :: us, h => by
    simp only [pkflat, List.length_cons]
    rw [pkflat_length ks us (by simpa using h)]; omega
theorem pkflat_get : ∀ (ks : List Pk) (us : List Value) (i : Nat) (k : Pk) (u : Value), ks[i]? = some k → us[i]? = some u → (pkflat ks us)[2 * i]? = some (.int .i64 k.seq) ∧ (pkflat ks us)[2 * i + 1]? = some u
  | [], _, i, k, u, h, _ => by simp at h
  | _ :: _, [], i, k, u, _, h => by simp at h
  | x :: ks, y :: us, 0, k, u, h, h' => by
    simp only [List.getElem?_cons_zero, Option.some.injEq] at h h'
    subst h; subst h'
    exact ⟨rfl, rfl⟩
  | x :: ks, y :: us, i + 1, k, u, h, h' => by
    have := pkflat_get ks us i k u (by simpa using h) (by simpa using h')
    rw [show 2 * (i + 1) = 2 * i + 1 + 1 from by omega]
    exact this
/-- The slice v is a row of packets of the call's own. -/
def PkRow (W : World) (base : Nat) (v : Value) (pre : List Pk) : Prop :=
  ∃ us : List Value, us.length = pre.length ∧ W.ownsRow base 77 2 v pre.length (pkflat pre us) ∧ ∀ (i : Nat) (k : Pk) (u : Value), pre[i]? = some k → us[i]? = some u → OwnP isB W base 5 u (k.body.map bv)
theorem PkRow.mod {S : Nat → Prop} {W W' : World} {base : Nat} {v : Value} {pre : List Pk} (h : PkRow W base v pre) (hm : Mod S W W') (hS : ∀ k, S k → k < base) : PkRow W' base v pre := by
  obtain ⟨us, h1, ⟨h2, h3⟩, h4⟩ := h
  refine ⟨us, h1, ⟨h2, ?_⟩, fun i k u hk hu => (h4 i k u hk hu).mod hm fun j hj hs => by have := hS j hs; have := ((h4 i k u hk hu).lt j hj).1; omega⟩
  rcases h3 with h3 | ⟨g, cap, cur, e, hb, hg, r⟩
  · exact .inl h3
  · exact .inr ⟨g, cap, cur, e, hb, Bk.mod (g := g) hg hm (fun hs => by have := hS g hs; omega), r⟩
theorem PkRow.mono {W : World} {base base' : Nat} {v : Value} {pre : List Pk} (h : PkRow W base v pre) (hb : base' ≤ base) : PkRow W base' v pre := by
  obtain ⟨us, h1, ⟨h2, h3⟩, h4⟩ := h
  refine ⟨us, h1, ⟨h2, ?_⟩, fun i k u hk hu => (h4 i k u hk hu).mono hb⟩
  rcases h3 with h3 | ⟨g, cap, cur, e, hbb, r⟩
  · exact .inl h3
  · exact .inr ⟨g, cap, cur, e, Nat.le_trans hb hbb, r⟩
theorem PkRow.new_ {W W' : World} {base : Nat} {v : Value} {pre : List Pk} (h : PkRow W base v pre) (hn : New W W') : PkRow W' base v pre := h.mod (Mod.of_new hn (fun _ => False)) (fun _ h => h.elim)

theorem PkRow.ge {W : World} {base : Nat} {v : Value} {pre : List Pk} (h : PkRow W base v pre) : ∀ j, v.ownBlock = some j → base ≤ j := by
  obtain ⟨us, _, ⟨_, h3⟩, _⟩ := h
  intro j hj
  rcases h3 with ⟨h3, _⟩ | ⟨g, cap, cur, e, hb, hg, r⟩
  · rw [h3] at hj; cases hj
  · rw [e] at hj; injection hj with hj; subst hj; exact hb
theorem PkRow.lt {W : World} {base : Nat} {v : Value} {pre : List Pk} (h : PkRow W base v pre) : ∀ j, v.ownBlock = some j → j < W.heap.size := by
  obtain ⟨us, _, ⟨_, h3⟩, _⟩ := h
  intro j hj
  rcases h3 with ⟨h3, _⟩ | ⟨g, cap, cur, e, hb, hg, r⟩
  · rw [h3] at hj; cases hj
  · rw [e] at hj; injection hj with hj; subst hj; exact Bk.lt (g := g) hg
/-- A cell of another block of packets is turned. -/
theorem PkRow.set {W : World} {base Bx i : Nat} {v u : Value} {pre : List Pk} {cs : Array Value} {t : TypeId} (h : PkRow W base v pre) (hB : Bk W Bx t cs) (hb : 5 ≠ t) (hne : ∀ j, v.ownBlock = some j → j ≠ Bx) : PkRow (W.setCell ⟨Bx, i, none⟩ u) base v pre := by
  obtain ⟨us, h1, ⟨h2, h3⟩, h4⟩ := h
  have keep : ∀ k, k ≠ Bx → (W.setCell ⟨Bx, i, none⟩ u).heap[k]? = W.heap[k]? := fun k hk => heap_setCell_other W ⟨Bx, i, none⟩ k _ hk
  refine ⟨us, h1, ⟨h2, ?_⟩, fun i k u hk hu => (h4 i k u hk hu).keep fun j hj => keep j (own_ne (h4 i k u hk hu) hB hb j hj)⟩
  rcases h3 with h3 | ⟨g, cap, cur, e, hb, hg, r⟩
  · exact .inl h3
  · exact .inr ⟨g, cap, cur, e, hb, (keep g (hne g (by rw [e]; rfl))).trans hg, r⟩
/-- A packet is laid at the end. -/
theorem PkRow.snoc {W W' : World} {base : Nat} {v v' u : Value} {pre : List Pk} {us : List Value} {k : Pk} (h1 : us.length = pre.length) (hv : W.ownsRow base 77 2 v pre.length (pkflat pre us))
    (h4 : ∀ (i : Nat) (k : Pk) (u : Value), pre[i]? = some k → us[i]? = some u → OwnP isB W base 5 u (k.body.map bv)) (hu : OwnP isB W base 5 u (k.body.map bv))
    (h2 : W'.ownsRow base 77 2 v' (pre.length + 1) (pkflat pre us ++ [.int .i64 k.seq, u])) (hg : W.grownBy W' v.ownBlock) : PkRow W' base v' (pre ++ [k]) := by
  have keep : ∀ (x : Value) (xs : List Value), OwnP isB W base 5 x xs → OwnP isB W' base 5 x xs := fun x xs hx => hx.keep fun j hj => by
    refine hg.block j (hx.lt j hj).2 (fun e => ?_)
    rcases hv.2 with ⟨hv, _⟩ | ⟨g, cap, cur, hv, _, hB, _⟩
    · rw [hv] at e; cases e
    · rw [hv] at e; injection e with e; subst e
      exact own_ne hx hB (by decide) _ hj rfl
  refine ⟨us ++ [u], by simp [h1], by rw [pkflat_snoc _ _ _ _ h1, List.length_append]; exact h2, fun i kk uu hk huu => ?_⟩
  rcases Nat.lt_or_ge i pre.length with hi | hi
  · rw [List.getElem?_append_left hi] at hk
    rw [List.getElem?_append_left (by omega)] at huu
    exact keep _ _ (h4 i kk uu hk huu)
  · rw [List.getElem?_append_right hi] at hk
    rw [List.getElem?_append_right (by omega)] at huu
    have h0 : i - pre.length = 0 := by have := (List.getElem?_eq_some_iff.1 hk).1; simp at this; omega
    rw [h0] at hk; rw [h1, h0] at huu
    simp only [List.getElem?_cons_zero, Option.some.injEq] at hk huu
    subst hk; subst huu
    exact keep _ _ hu
theorem two_cells (w : World) (x y : Value) (t : TypeId) : ∀ (j : Nat) (u : Value), [x, y][j]? = some u → (w.alloc (.cells #[x, y] t)).cell? ((⟨w.heap.size, 0, none⟩ : Addr).add j) = some u := by
  intro j u hj
  have ha : (⟨w.heap.size, 0, none⟩ : Addr).add j = ⟨w.heap.size, j, none⟩ := by unfold Addr.add; split <;> simp_all
  rw [ha]
  exact (Bk.ofNew w t #[x, y]).cellAt (by simpa using hj)
section
variable {F : Fence} {nF : Nat} {P : Program} (w : World)
theorem wpListIn_append_rd {Pr : Value → Prop} {ops : Array Oper} {rest : List Oper} {o : Oper} {a : Act} {Q : Exit → Act → World → Prop} (hgd : o.guard = none) (s x : Operand) (t : TypeId)
    (ho : o.op = .call { callee := .builtin .append, args := #[s, x], argTypes := #[t, t] })
    (base : Nat) (e : TypeId) (i : TypeInfo) (z : Value) (bytes : Nat) (ht : P.underlying t = some (.slice e)) (hi : P.info? e = some i) (hz : i.zero = some z)
    (hsize : i.size = 1) (hby : i.bytes = bytes) (hzs : z.cells = #[z]) (hzp : Pr z)
    (v : Value) (xs : List Value) (hs : a.eval s = v) (hown : OwnP Pr w base e v xs) (u : Value) (news : List Value) (hx : a.eval x = u) (hr : Rd w u news) (h1 : ∀ x ∈ news, x.oneCell' = true) (hp : ∀ x ∈ news, Pr x)
    (h63 : xs.length + news.length ≤ maxLen) (hbytes : (xs.length + news.length) * bytes ≤ 140737488355328) (hbase : base ≤ w.heap.size)
    (h : ∀ v' w', OwnP Pr w' base e v' (xs ++ news) → w.grownBy w' v.ownBlock → (v'.ownBlock = v.ownBlock ∨ v'.ownBlock = some w.heap.size) → wpListIn F nF P ops Q rest (a.put o.dst v') w') : wpListIn F nF P ops Q (o :: rest) a w := by
  refine wpListIn_plain hgd fun K hK => ?_
  obtain ⟨v', w', hr, h2, h3, h4⟩ := run_append_rd (P := P) w base t o.type e i z bytes ht hi hz hsize hby hzs hzp v xs hown u news hr h1 hp h63 hbytes hbase
  unfold Oper.wpIn
  refine ⟨by simp [Oper.about, ho, resolve, Target.leads, Sem.run_pure], ?_⟩
  rw [Oper.semAt_plain F _ _ (by rw [ho]; intro c hc'; cases hc')]
  simp [execOp, ho, resolve, invoke, builtin, hs, hx, hr, Result.andThen]
  exact hK _ _ (h v' w' h2 h3 h4)
end

theorem nowW_ok {s : Wn} {now : Int} (hk : WinOk s) (h0 : 0 ≤ now) (h1 : now ≤ 2147483647) : WinOk (nowW s now) := by
  refine ⟨hk.s1, hk.s2, hk.len, hk.last0, ?_, ?_, hk.mean, hk.spread, fun k hkm => ?_⟩
  · have := hk.now0; show 0 ≤ max s.now now; omega
  · have := hk.now1; show max s.now now ≤ 2147483647; omega
  · obtain ⟨a, b, c, d, e, f, gg⟩ := hk.pk k hkm
    exact ⟨a, b, by show k.at_ ≤ max s.now now; omega, d, e, f, gg⟩
theorem info_pk : (Try.prog.info? 77).map (fun i => (i.zero, i.size, i.bytes)) = some (some (.agg #[.int .i64 0, .slice none 0 0]), 2, 32) := by kernel_rfl
set_option maxRecDepth 100000 in
set_option maxHeartbeats 3200000 in
theorem wdue_ok (g : Nat) (s : Wn) (F : Nat → Prop) (now : Int) (w : World) (h : WinRep w F g s) (hk : WinOk s) (hF : ∀ k, F k → k < w.heap.size) (ht0 : 0 ≤ now) (ht1 : now ≤ 2147483647) (hbl : ∀ k ∈ s.l, k.body.length ≤ 1000000000) :
    Calls Try.prog 67 #[ptr g, .int .i64 now] w fun e w' => ∃ v, e = .returned v ∧ PkRow w' w.heap.size v (outW now s) ∧ WinRep w' F g (dueW now s) ∧ Mod F w w' := by
  obtain ⟨A, c, ps, hB, hc1, hc2, _, _, _, _⟩ := h.open
  unfold winCells at hB
  have k0 := hB.cellAt (i := 0) rfl
  have k5 := hB.cellAt (i := 5) rfl
  have kf := hB.frozen 5
  clear hB
  have hs := hk.s1
  have htb : timeB now = true := decide_eq_true ⟨ht0, ht1⟩
  refine callsIn_wide (n := 5).1 ?_
  refine callsIn_of_wp_marks Try.func67 rfl trivial ?_ rfl
  simp only [Try.ntmps67, List.size_toArray, List.length_cons, List.length_nil, Nat.reduceAdd, Nat.reduceSub, Array.replicate_succ, Array.replicate_zero, List.push_toArray, List.append_toArray, List.nil_append, List.cons_append]
  gi_wp2_with fail
  refine ⟨trivial, callsIn_wide.2 ((none_not g s.size _ k0 hs).mono ?_)⟩
  rintro e w1 ⟨rfl, rfl⟩
  gi_wp2_with fail
  refine ⟨trivial, callsIn_wide.2 ((wtime_any now _).mono ?_)⟩
  rintro e w1 ⟨rfl, rfl⟩
  gi_wp2
  have hm1 : Mod F w ((w.setCell ⟨g, 5, none⟩ (.int .i64 (max s.now now))).alloc (.cells #[.slice none 0 0] 74)) :=
    Mod.trans (T := F) (b := w.setCell ⟨g, 5, none⟩ (.int .i64 (max s.now now))) ⟨rfl, rfl, rfl, by simp, fun k _ hn => heap_setCell_other w ⟨g, 5, none⟩ k _ (fun e => hn (by rw [e]; exact h.1))⟩ (Mod.of_new (New.alloc _ _) F) (fun _ h _ => h)
  have hW2 : WinRep ((w.setCell ⟨g, 5, none⟩ (.int .i64 (max s.now now))).alloc (.cells #[.slice none 0 0] 74)) F g (nowW s now) :=
    (h.setG (s' := nowW s now) 5 rfl (u := .int .i64 (max s.now now)) (fun lv => rfl)).new_ (New.alloc _ _)
  have hB2 : Bk ((w.setCell ⟨g, 5, none⟩ (.int .i64 (max s.now now))).alloc (.cells #[.slice none 0 0] 74)) w.heap.size 74 #[.slice none 0 0] := by
    have := Bk.ofNew (w.setCell ⟨g, 5, none⟩ (.int .i64 (max s.now now))) 74 #[.slice none 0 0]
    rwa [World.size_setCell] at this
  have hsz2 : ((w.setCell ⟨g, 5, none⟩ (.int .i64 (max s.now now))).alloc (.cells #[.slice none 0 0] 74)).heap.size = w.heap.size + 1 := by simp
  have hk2 := nowW_ok hk ht0 ht1
  generalize (w.setCell ⟨g, 5, none⟩ (.int .i64 (max s.now now))).alloc (.cells #[.slice none 0 0] 74) = w2 at *
  have Hsz2 := Lib.hid hsz2
  refine due_range 3 g (nowW s now) F rfl hk2 hW2 (fun k hk => by have := hF k hk; omega)
    (fun pre W => ∃ v, Bk W w.heap.size 74 #[v] ∧ PkRow W (w2.heap.size + 2) v pre ∧ Mod F w W) ?hI
    (fun pre k v a₁ W => ∃ v1 Bx, Bk W w.heap.size 74 #[v1] ∧ PkRow W (w2.heap.size + 2) v1 pre ∧ Mod F w W ∧ w2.heap.size + 2 ≤ Bx ∧ Bk W Bx 77 #[.int .i64 k.seq, v] ∧ (∀ j, v1.ownBlock = some j → j ≠ Bx) ∧ a₁ = { tmps := #[ptr g, .int .i64 now, undef, undef, .slice none 0 0, ptr w.heap.size, ptr Bx, ptr g, .bool false, .bool false, .int .i64 now, .bool true, .bool false, .bool false, ptr g, ptr g, ptr g, .pointer (some ⟨g, 5, none⟩), .int .i64 s.now, .int .i64 now, .int .i64 (max s.now now), ptr g, .pointer (some ⟨g, 5, none⟩), ptr g, .func (.func 100) #[ptr g] #[], .agg #[.int .i64 k.seq, v], undef, undef, undef, undef, undef, undef, undef, undef, undef], defers := [] }) ?hA1 ?h0 ?assign ?body ?done
  case hI =>
    rintro pre W W' ⟨v, h1, h2, h3⟩ hm
    have hz := Hsz2.out
    refine ⟨v, h1.mod hm (fun hs => ?_), h2.mod hm (fun k hs => ?_), h3.trans hm (fun i hi hlt => ?_)⟩
    · rcases hs with hs | hs
      · have := hF _ hs; omega
      · omega
    · rcases hs with hs | hs
      · have := hF _ hs; omega
      · omega
    · rcases hi with hi | hi
      · exact hi
      · omega
  case hA1 =>
    rintro pre k v a₁ W W' ⟨v1, Bx, h1, h2, h3, h4, h5, h6, h7⟩ hm
    have hz := Hsz2.out
    refine ⟨v1, Bx, h1.mod hm (fun hs => ?_), h2.mod hm (fun k hs => ?_), h3.trans hm (fun i hi hlt => ?_), h4, h5.mod hm (fun hs => ?_), h6, h7⟩
    · rcases hs with hs | hs
      · have := hF _ hs; omega
      · omega
    · rcases hs with hs | hs
      · have := hF _ hs; omega
      · omega
    · rcases hi with hi | hi
      · exact hi
      · omega
    · rcases hs with hs | hs
      · have := hF _ hs; omega
      · omega
  case h0 =>
    intro o
    have hn : New w2 ((w2.alloc (.deferred (some []))).alloc o) := (New.alloc w2 _).trans (New.alloc _ _)
    exact ⟨_, hB2.new_ hn, ⟨[], rfl, ⟨rfl, .inl ⟨rfl, rfl⟩⟩, fun i k u hk => by simp at hk⟩, hm1.trans (Mod.of_new hn F) (fun _ h _ => h)⟩
  case assign =>
    rintro l k v pre W K ⟨v1, i1, i2, i3⟩ hsz hOv hK
    obtain ⟨A3, c3, hv, _⟩ := hOv.1.rd
    rw [List.length_map] at hv
    subst hv
    simp only [List.setIfInBounds_toArray, List.set_cons_zero, List.set_cons_succ]
    gi_wp2
    have hn := New.alloc W (.cells #[.int .i64 k.seq, .slice A3 k.body.length c3] 77)
    refine hK _ _ hn ⟨v1, W.heap.size, i1.new_ hn, i2.new_ hn, i3.trans (Mod.of_new hn F) (fun _ h _ => h), hsz, Bk.ofNew _ _ _, fun j hj e => ?_, rfl⟩
    have := i2.lt j hj
    omega
  case body =>
    rintro l pre k v a₁ W ⟨v1, Bx, i1, i2, i3, hBx, hBk, hdj, rfl⟩ hOv hmem hpl hsz
    have hpl64 : pre.length < 64 := by have := hk.len; have := hk.s2; have : pre.length < s.l.length := hpl; omega
    obtain ⟨A3, c3, hv, _⟩ := hOv.1.rd
    rw [List.length_map] at hv
    subst hv
    have hbody : k.body.length ≤ 1000000000 := hbl k hmem
    obtain ⟨z0, hi0, hz0, hz1, hz2⟩ := info_parts info_u8
    obtain ⟨y0, hj0, hy0, hy1, hy2⟩ := info_parts info_pk
    have hbl1 : ([] : List Value).length + (k.body.map bv).length ≤ maxLen := by unfold maxLen; simp; omega
    have hbl2 : (([] : List Value).length + (k.body.map bv).length) * 1 ≤ 140737488355328 := by simp; omega
    have b1 := hBk.cellAt (i := 1) rfl
    have hne1 : ¬ w.heap.size = Bx := by have := Hsz2.out; omega
    have hne2 : ¬ Bx = w.heap.size := by have := Hsz2.out; omega
    have hz2' := Lib.hid hz2; have hy2' := Lib.hid hy2
    gi_wp2_with (first
      | (gi_at_builtin; refine wpListIn_append_rd W rfl (.const (.slice none 0 0)) (.tmp 27) _ rfl (w2.heap.size + 2) 5 z0 _ 1 Try.underlying22 hi0 hz0 hz1 hz2 rfl isB_zero (.slice none 0 0) [] rfl (OwnP.nil _ _ _ _) _ (k.body.map bv) rfl hOv.1.rd (bv_one _) (isB_map _) hbl1 hbl2 hsz ?_; intro v' wa hE hg _; rw [List.nil_append] at hE; obtain ⟨A4, c4, hv4, _⟩ := hE.rd; rw [List.length_map] at hv4; subst hv4; have hna := grown_none hg; have hBa := hBk.new_ hna; have hoa := i1.new_ hna; have ira := i2.new_ hna; have a0 := hBa.cellAt (i := 0) rfl; have a1 := hBa.cellAt (i := 1) rfl; have af := hBa.frozen 1; have o0 := hoa.cellAt (i := 0) rfl; have of0 := hoa.frozen 0)
      | (gi_at_builtin; obtain ⟨us, u1, u2, u3⟩ := (ira.set (i := 1) (u := .slice A4 k.body.length c4) hBa (by decide) hdj).new_ (New.alloc _ (.cells #[.int .i64 k.seq, .slice A4 k.body.length c4] 77)); have h2c := two_cells (wa.setCell ⟨Bx, 1, none⟩ (.slice A4 k.body.length c4)) (.int .i64 k.seq) (.slice A4 k.body.length c4) 77; rw [World.size_setCell] at h2c; refine wpListIn_append_own_at _ rfl (.tmp 30) (.tmp 32) _ rfl (w2.heap.size + 2) 77 y0 _ 2 32 Try.underlying74 hj0 hy0 hy1 hy2 (by rfl) (by decide) v1 pre.length _ rfl u2 ⟨wa.heap.size, 0, none⟩ 1 1 [.int .i64 k.seq, .slice A4 k.body.length c4] rfl rfl h2c (by simp [Value.oneCell']) (by unfold maxLen; omega) (by omega) (by have := New.size hna; rw [World.size_alloc, World.size_setCell]; omega) ?_; intro v2 w3 hown3 hg3 _ _; clear h2c; obtain ⟨g5, cap5, rfl⟩ := ownsRow_succ hown3; have hoc : Bk ((wa.setCell ⟨Bx, 1, none⟩ (.slice A4 k.body.length c4)).alloc (.cells #[.int .i64 k.seq, .slice A4 k.body.length c4] 77)) w.heap.size 74 #[v1] := (hoa.far (p := ⟨Bx, 1, none⟩) hne1 _).new_ (New.alloc _ _); have hod : Bk w3 w.heap.size 74 #[v1] := (hg3.block _ hoc.lt (fun e => by have := ira.ge _ e.symm; have := Hsz2.out; omega)).trans hoc; have p0 := hod.cellAt (i := 0) rfl; have pf := hod.frozen 0))
    have hch : ∀ j, j < w2.heap.size + 2 → w3.heap[j]? = W.heap[j]? := fun j hj => by
      have hz := New.size hna
      have hjx : j ≠ Bx := by omega
      have e1 : ((wa.setCell ⟨Bx, 1, none⟩ (.slice A4 k.body.length c4)).alloc (.cells #[.int .i64 k.seq, .slice A4 k.body.length c4] 77)).heap[j]? = wa.heap[j]? :=
        (Below.block (New.alloc (wa.setCell ⟨Bx, 1, none⟩ (.slice A4 k.body.length c4)) _) j (by rw [World.size_setCell]; omega)).trans (heap_setCell_other wa ⟨Bx, 1, none⟩ j _ hjx)
      refine ((hg3.block j (by rw [World.size_alloc, World.size_setCell]; omega) (fun e => by have := ira.ge _ e.symm; omega)).trans e1).trans (Below.block hna j (by omega))
    have hset : ∀ j, j ≠ w.heap.size → (w3.setCell ⟨w.heap.size, 0, none⟩ (.slice (some ⟨g5, 0, none⟩) (pre.length + 1) cap5)).heap[j]? = w3.heap[j]? := fun j hj => heap_setCell_other w3 ⟨w.heap.size, 0, none⟩ j _ hj
    have hz := Hsz2.out
    refine ⟨fun j hj => ?_, _, hod.set_ 0 _, ?_, ?_⟩
    · have hj' : j < w2.heap.size + 2 ∧ j ≠ w.heap.size := by
        rcases hj with hj | hj | hj
        · have := hF j hj; omega
        · omega
        · omega
      exact (hset j hj'.2).trans (hch j hj'.1)
    · have hEc : OwnP isB ((wa.setCell ⟨Bx, 1, none⟩ (.slice A4 k.body.length c4)).alloc (.cells #[.int .i64 k.seq, .slice A4 k.body.length c4] 77)) (w2.heap.size + 2) 5 (.slice A4 k.body.length c4) (k.body.map bv) := by
        exact (hE.keep (fun j hj => heap_setCell_other wa ⟨Bx, 1, none⟩ j _ (own_ne hE hBa (by decide) j hj))).new_ (New.alloc _ _)
      have hr := PkRow.snoc u1 u2 u3 hEc hown3 hg3
      exact hr.set hod (by decide) (fun j hj e => by have := hr.ge j hj; omega)
    · refine i3.trans (T := fun j => w.heap.size ≤ j) ⟨hg3.os.trans (by exact (Below.os hna : wa.os = W.os)), hg3.tape.trans (by exact (Below.tape hna : wa.tape = W.tape)), hg3.output.trans (by exact (Below.output hna : wa.output = W.output)), ?_, fun j hj hn => ?_⟩ (fun i hi hlt => absurd hlt (Nat.not_lt.2 hi))
      · have h1 := hg3.size
        have h2 := New.size hna
        rw [World.size_alloc, World.size_setCell] at h1
        rw [World.size_setCell]; omega
      · exact (hset j (fun e => hn (by rw [e]; exact Nat.le_refl _))).trans (hch j (by have : ¬ w.heap.size ≤ j := hn; omega))
  case done =>
    rintro W hWd ⟨v, i1, i2, i3⟩ hD
    have c0 := i1.cellAt (i := 0) rfl
    gi_wp2
    refine ⟨by simp, .inl ⟨_, _, rfl, run_takeDeferred hD, ?_⟩⟩
    have hz := Hsz2.out
    have hm : Mod (WithRec F w2.heap.size) W (W.putObj w2.heap.size (.deferred none)) := putObj_mod (Mod.refl F W)
    refine ⟨_, results_tmp rfl _ _ _, v, rfl, (i2.mod hm (fun k hs => ?_)).mono (by omega), ?_, i3.trans hm (fun i hi hlt => ?_)⟩
    · rcases hs with hs | hs
      · have := hF _ hs; omega
      · omega
    · exact hWd.keep (fun j hj => World.putObj_heap_other (by have := hF j hj; omega)) (fun _ h => h)
    · rcases hi with hi | hi
      · exact hi
      · omega
end Go.Proofs.Ytkfcdfcoiglieaa
