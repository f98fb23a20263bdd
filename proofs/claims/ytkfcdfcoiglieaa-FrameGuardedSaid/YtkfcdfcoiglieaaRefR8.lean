/- A region of satchelref11.Read that draws its order: the frame is made. Printed by gen_rg.py. Conditions: as the theorem says. -/
import Derived.Test.YtkfcdfcoiglieaaRefN
import Derived.Test.YtkfcdfcoiglieaaEmp
import Derived.Test.YtkfcdfcoiglieaaRg
namespace Go.Proofs.Ytkfcdfcoiglieaa
open Go.RowKit

theorem keepE6 {w : World} {base g : Nat} {v : Value} {l : List Value} {cs : Array Value} (h : OwnE isB w base 5 v l) (hg : Bk w g 47 cs) (a b c d e f : Value) :
    OwnE isB ((((((w.setCell ⟨g, 0, none⟩ a).setCell ⟨g, 1, none⟩ b).setCell ⟨g, 2, none⟩ c).setCell ⟨g, 3, none⟩ d).setCell ⟨g, 4, none⟩ e).setCell ⟨g, 5, none⟩ f) base 5 v l := by
  refine h.imp (fun h => h.keep (fun g' hg' => ?_)) id
  have hne : g' ≠ g := by
    rintro rfl
    rcases h with ⟨rfl, _⟩ | ⟨g0, o, cap, cur, rfl, h2, h3, _⟩
    · cases hg'
    · injection hg' with hg'
      subst hg'
      unfold Bk at hg h3
      rw [hg] at h3
      injection h3 with h3
      injection h3 with _ h3
      exact absurd h3 (by decide)
  have hs : ∀ (w : World) (i : Nat) (u : Value), (w.setCell ⟨g, i, none⟩ u).heap[g']? = w.heap[g']? := fun w i u => heap_setCell_other w ⟨g, i, none⟩ g' u hne
  rw [hs, hs, hs, hs, hs, hs]
theorem six {w : World} {g : Nat} {t : TypeId} {a b c d e f : Value} (h : Bk w g t #[a, b, c, d, e, f]) :
    w.cell? ⟨g, 0, none⟩ = some a ∧ w.cell? ⟨g, 1, none⟩ = some b ∧ w.cell? ⟨g, 2, none⟩ = some c ∧ w.cell? ⟨g, 3, none⟩ = some d ∧ w.cell? ⟨g, 4, none⟩ = some e ∧ w.cell? ⟨g, 5, none⟩ = some f ∧ ∀ i, w.frozen? ⟨g, i, none⟩ = false :=
  ⟨h.cellAt rfl, h.cellAt rfl, h.cellAt rfl, h.cellAt rfl, h.cellAt rfl, h.cellAt rfl, h.frozen⟩
theorem New.store {w w' : World} {g i : Nat} {u : Value} (h : New w w') (hg : w.heap.size ≤ g) : New w (w'.setCell ⟨g, i, none⟩ u) := Below.setCell h hg u
theorem rb_rest {A : Option Addr} {n c : Nat} {x : List UInt8} {w : World} (h : RB w (.slice A n c) x) (hl : 22 ≤ n) :
    Rd w (.slice (cutA A 22 c) (n - 22) (c - 22)) ((frmOf x).body.map bv) := by
  have hn : x.length = n := by
    obtain ⟨A', c', he, _⟩ := h.open
    injection he with _ e2 _
    exact e2.symm
  have hc := RB.cut h 22 n hl (Nat.le_refl _)
  have ht : (x.drop 22).take (n - 22) = (frmOf x).body := List.take_of_length_le (by rw [List.length_drop]; omega)
  rw [ht] at hc
  exact hc
theorem rd_none {w : World} {v : Value} {x : List UInt8} (h : x.length = 22) (hr : Rd w v ((frmOf x).body.map bv)) : Rd w v [] := by
  have : (frmOf x).body = [] := List.drop_eq_nil_of_le (by omega)
  rwa [this] at hr
theorem rnum_part {A : Option Addr} {n c lo : Nat} {x : List UInt8} {w : World} (h : RB w (.slice A n c) x) (hl : lo + 4 ≤ n) :
    Calls Try.prog 94 #[.slice (cutA A lo c) (n - lo) (c - lo)] w fun e w' => e = .returned (.int .i64 (num_ x lo (lo + 4) : Nat)) ∧ ∃ n, w' = w.drewN n := by
  have hn : x.length = n := by
    obtain ⟨A', c', he, _⟩ := h.open
    injection he with _ e2 _
    exact e2.symm
  have hc := RB.cut h lo n (by omega) (Nat.le_refl _)
  have ht : (x.drop lo).take (n - lo) = x.drop lo := List.take_of_length_le (by rw [List.length_drop]; omega)
  rw [ht] at hc
  have hnum : num_ (x.drop lo) 0 4 = num_ x lo (lo + 4) := by
    unfold num_
    rw [List.drop_zero, show lo + 4 - lo = 4 - 0 from by omega]
  rw [← hnum]
  exact rnumber_q _ _ _ _ _ hc (by rw [List.length_drop, hn]) (by omega)

theorem does_append_emp {P : Program} {o : Oper} {a : Act} (w : World) (s x : Operand) (t : TypeId) (ho : o.op = .call { callee := .builtin .append, args := #[s, x], argTypes := #[t, t] })
    {Pr : Value → Prop} (base : Nat) (e : TypeId) (i : TypeInfo) (z : Value) (bytes : Nat) (ht : P.underlying t = some (.slice e)) (hi : P.info? e = some i) (hz : i.zero = some z)
    (hsize : i.size = 1) (hby : i.bytes = bytes) (hzs : z.cells = #[z]) (hzp : Pr z)
    (g : Nat) (hs : a.eval s = .slice (some ⟨g, 0, none⟩) 0 0) (u : Value) (news : List Value) (hx : a.eval x = u) (hr : Rd w u news) (hp : ∀ x ∈ news, Pr x)
    (h63 : news.length ≤ maxLen) (hbytes : news.length * bytes ≤ 140737488355328) (hbase : base ≤ w.heap.size) {post : Value → World → Prop}
    (h : ∀ v' w', OwnE Pr w' base e v' news → New w w' → post v' w') : Does P o a w post := by
  obtain ⟨v', w', hrun, h2, h3⟩ := run_append_emp (P := P) w base t o.type e i z bytes ht hi hz hsize hby hzs hzp g u news hr hp h63 hbytes hbase
  unfold Does execOp
  simp only [ho, resolve, invoke, builtin, Sem.run_bind, Sem.run_pure, Result.andThen_ok, List.map_toArray, List.map_cons, List.map_nil, hs, hx, hrun]
  exact h v' w' h2 h3

def B588 : List (Nat × Tmp) := [(0, 23), (1, 24), (2, 25), (3, 26), (4, 27), (5, 28), (6, 29), (7, 30), (8, 31), (9, 32), (10, 33), (11, 34), (12, 35), (13, 36), (14, 37), (15, 38), (16, 39), (17, 40), (18, 41), (19, 42), (20, 43), (21, 6)]
noncomputable def ops588 : Array Oper := ((Try.f58.body).bind (regionOf 8)).getD #[]
/-- What each operation of the region yields. -/
def phi588 (x : List UInt8) (bk o c1 base b1 : Nat) : Nat → Value → World → Prop
  | 0, v, _ => v = .slice (some ⟨bk, o, none⟩) x.length c1
  | 1, v, _ => v = .pointer (some ⟨bk, o + 3, none⟩)
  | 2, v, _ => v = bv (at_ x 3)
  | 3, v, _ => v = .int .i64 (frmOf x).typ
  | 4, v, _ => v = .slice (some ⟨bk, o, none⟩) x.length c1
  | 5, v, _ => v = .slice (cutA (some ⟨bk, o, none⟩) 4 c1) (x.length - 4) (c1 - 4)
  | 6, v, _ => v = .int .i64 (frmOf x).ses
  | 7, v, _ => v = .slice (some ⟨bk, o, none⟩) x.length c1
  | 8, v, _ => v = .slice (cutA (some ⟨bk, o, none⟩) 8 c1) (x.length - 8) (c1 - 8)
  | 9, v, _ => v = .int .i64 (frmOf x).boot
  | 10, v, _ => v = .slice (some ⟨bk, o, none⟩) x.length c1
  | 11, v, _ => v = .slice (cutA (some ⟨bk, o, none⟩) 12 c1) (x.length - 12) (c1 - 12)
  | 12, v, _ => v = .int .i64 (frmOf x).seq
  | 13, v, _ => v = .slice (some ⟨bk, o, none⟩) x.length c1
  | 14, v, _ => v = .slice (cutA (some ⟨bk, o, none⟩) 16 c1) (x.length - 16) (c1 - 16)
  | 15, v, _ => v = .int .i64 (frmOf x).ack
  | 16, v, _ => ∃ g, v = .slice (some ⟨g, 0, none⟩) 0 0
  | 17, v, _ => v = .slice (some ⟨bk, o, none⟩) x.length c1
  | 18, v, _ => v = .slice (cutA (some ⟨bk, o, none⟩) 22 c1) (x.length - 22) (c1 - 22)
  | 19, v, w => ∃ A c, v = .slice A ((frmOf x).body.map bv).length c ∧ OwnE isB w base 5 v ((frmOf x).body.map bv)
  | 20, v, w => ∃ A c, v = .agg #[.int .i64 (frmOf x).typ, .int .i64 (frmOf x).ses, .int .i64 (frmOf x).boot, .int .i64 (frmOf x).seq, .int .i64 (frmOf x).ack, .slice A ((frmOf x).body.map bv).length c] ∧ OwnE isB w base 5 (.slice A ((frmOf x).body.map bv).length c) ((frmOf x).body.map bv)
  | 21, v, w => ∃ g, v = .pointer (some ⟨g, 0, none⟩) ∧ b1 ≤ g ∧ Bk w g 47 #[.int .i64 0, .int .i64 0, .int .i64 0, .int .i64 0, .int .i64 0, .slice none 0 0]
  | _, _, _ => False
theorem phi588_st (x : List UInt8) (bk o c1 base b1 : Nat) : ∀ i v w w', New w w' → phi588 x bk o c1 base b1 i v w → phi588 x bk o c1 base b1 i v w' := by
  intro i v w w' hn h
  unfold phi588 at *
  split at h <;> first
    | exact h
    | exact h.elim
    | (obtain ⟨A, c, h1, h2⟩ := h; exact ⟨A, c, h1, h2.new_ hn⟩)
    | (obtain ⟨g, h1, hb, h2⟩ := h; exact ⟨g, h1, hb, h2.new_ hn⟩)

set_option maxRecDepth 100000 in
set_option maxHeartbeats 3200000 in
theorem region588 (x : List UInt8) (bk o c1 base : Nat) (act : Act) (hsz : act.tmps.size = 114) (w1 : World) (ha4 : act.eval (.tmp 4) = .slice (some ⟨bk, o, none⟩) x.length c1) (hS : RB w1 (.slice (some ⟨bk, o, none⟩) x.length c1) x) (x3 : w1.cell? ⟨bk, o + 3, none⟩ = some (bv (at_ x 3))) (hx1 : 22 ≤ x.length) (hx2 : x.length ≤ 1422) (hl1 : x.length ≤ c1) (hc1 : c1 ≤ maxLen) (hbase : base ≤ w1.heap.size)
    {Q : Exit → Act → World → Prop} (hQ : ∀ (vals : Nat → Value) (w' : World) (g : Nat) (A : Option Addr) (c : Nat), vals 21 = .pointer (some ⟨g, 0, none⟩) → Bk w' g 47 #[.int .i64 (frmOf x).typ, .int .i64 (frmOf x).ses, .int .i64 (frmOf x).boot, .int .i64 (frmOf x).seq, .int .i64 (frmOf x).ack, .slice A ((frmOf x).body.map bv).length c] → OwnE isB w' base 5 (.slice A ((frmOf x).body.map bv).length c) ((frmOf x).body.map bv) → New w1 w' → Q .normal (fillAll act B588 vals) w') :
    (Code.region 8 ops588 true).wp Try.prog Q act w1 := by
  unfold maxLen at hc1
  have i0 : (22 : Int) ≤ (x.length : Int) := by omega
  have i1 : (22 : Int) ≤ (c1 : Int) := by omega
  have i2 : (4 : Int) ≤ (c1 : Int) := by omega
  have i3 : (8 : Int) ≤ (c1 : Int) := by omega
  have i4 : (12 : Int) ≤ (c1 : Int) := by omega
  have i5 : (16 : Int) ≤ (c1 : Int) := by omega
  have i6 : (4 : Int) ≤ (x.length : Int) := by omega
  have i7 : (8 : Int) ≤ (x.length : Int) := by omega
  have i8 : (12 : Int) ≤ (x.length : Int) := by omega
  have i9 : (16 : Int) ≤ (x.length : Int) := by omega
  have i10 : (3 : Int) < (x.length : Int) := by omega
  have hw3 : IntKind.i64.wrap ((at_ x 3).toNat : Int) = (frmOf x).typ := IntWalk.i64_in _ ⟨by have := (at_ x 3).toNat_lt; omega, by have := (at_ x 3).toNat_lt; omega⟩
  have hbl1 : ((frmOf x).body.map bv).length ≤ maxLen := by rw [List.length_map]; unfold maxLen frmOf; simp; omega
  have hbl2 : ((frmOf x).body.map bv).length * 1 ≤ 140737488355328 := by rw [List.length_map]; unfold frmOf; simp; omega
  obtain ⟨z0, hi0, hz0, hz1, hz2⟩ := info_parts info_u8
  refine wp_region_rg1 B588 22 (.store 47 (.tmp 6) (.tmp 43)) none (by kernel_rfl) (by rw [hsz]; kernel_rfl) (by kernel_rfl) (by kernel_rfl) (by kernel_rfl) (by kernel_rfl) (fun W => New w1 W) New (phi588 x bk o c1 base w1.heap.size) (phi588_st x bk o c1 base w1.heap.size) (New.drew w1) (by rfl) ?steps ?last
  case steps =>
    clear hQ
    refine ⟨?_, ?_, ?_, ?_, ?_, ?_, ?_, ?_, ?_, ?_, ?_, ?_, ?_, ?_, ?_, ?_, ?_, ?_, ?_, ?_, ?_, ?_, trivial⟩
    · intro vals wr hR hd
      have s4 := (fill_other (vals := vals) (B := B588) 4 (by kernel_rfl)).trans ha4
      show Does _ _ (fillAll act B588 vals) _ _
      generalize fillAll act B588 vals = act1 at *
      clear hd
      refine Does.mono (post := fun v w' => v = .slice (some ⟨bk, o, none⟩) x.length c1 ∧ w' = wr) ?_ ?_
      · unfold Does; simp only [execOp]; rw [s4]; clear s4 hsz; go_simp
      · rintro v w' ⟨rfl, rfl⟩; refine ⟨hR, New.refl _, ?_⟩; simp only [phi588]
    · intro vals wr hR hd
      have h0 := hd 0 (by kernel_rfl)
      simp only [phi588] at h0
      have e0 := (fill_eval (B := B588) (vals := vals) hsz 0 23 (by kernel_rfl)).trans h0
      show Does _ _ (fillAll act B588 vals) _ _
      generalize fillAll act B588 vals = act1 at *
      clear hd
      refine Does.mono (post := fun v w' => v = .pointer (some ⟨bk, o + 3, none⟩) ∧ w' = wr) ?_ ?_
      · unfold Does; simp only [execOp]; rw [e0]; clear e0 hsz; go_simp
      · rintro v w' ⟨rfl, rfl⟩; refine ⟨hR, New.refl _, ?_⟩; simp only [phi588]
    · intro vals wr hR hd
      have h1 := hd 1 (by kernel_rfl)
      simp only [phi588] at h1
      have e1 := (fill_eval (B := B588) (vals := vals) hsz 1 24 (by kernel_rfl)).trans h1
      have hx3 := hR.cell x3
      show Does _ _ (fillAll act B588 vals) _ _
      generalize fillAll act B588 vals = act1 at *
      clear hd
      refine Does.mono (post := fun v w' => v = bv (at_ x 3) ∧ w' = wr) ?_ ?_
      · unfold Does; simp only [execOp]; rw [e1]; clear e1 hsz; go_simp
      · rintro v w' ⟨rfl, rfl⟩; refine ⟨hR, New.refl _, ?_⟩; simp only [phi588]
    · intro vals wr hR hd
      have h2 := hd 2 (by kernel_rfl)
      simp only [phi588] at h2
      have e2 := (fill_eval (B := B588) (vals := vals) hsz 2 25 (by kernel_rfl)).trans h2
      show Does _ _ (fillAll act B588 vals) _ _
      generalize fillAll act B588 vals = act1 at *
      clear hd
      refine Does.mono (post := fun v w' => v = .int .i64 (frmOf x).typ ∧ w' = wr) ?_ ?_
      · unfold Does; simp only [execOp]; rw [e2]; clear e2 hsz; go_simp
      · rintro v w' ⟨rfl, rfl⟩; refine ⟨hR, New.refl _, ?_⟩; simp only [phi588]
    · intro vals wr hR hd
      have s4 := (fill_other (vals := vals) (B := B588) 4 (by kernel_rfl)).trans ha4
      show Does _ _ (fillAll act B588 vals) _ _
      generalize fillAll act B588 vals = act1 at *
      clear hd
      refine Does.mono (post := fun v w' => v = .slice (some ⟨bk, o, none⟩) x.length c1 ∧ w' = wr) ?_ ?_
      · unfold Does; simp only [execOp]; rw [s4]; clear s4 hsz; go_simp
      · rintro v w' ⟨rfl, rfl⟩; refine ⟨hR, New.refl _, ?_⟩; simp only [phi588]
    · intro vals wr hR hd
      have h4 := hd 4 (by kernel_rfl)
      simp only [phi588] at h4
      have e4 := (fill_eval (B := B588) (vals := vals) hsz 4 27 (by kernel_rfl)).trans h4
      show Does _ _ (fillAll act B588 vals) _ _
      generalize fillAll act B588 vals = act1 at *
      clear hd
      refine Does.mono (post := fun v w' => v = .slice (cutA (some ⟨bk, o, none⟩) 4 c1) (x.length - 4) (c1 - 4) ∧ w' = wr) ?_ ?_
      · unfold Does; simp only [execOp]; rw [e4]; clear e4 hsz; go_simp
      · rintro v w' ⟨rfl, rfl⟩; refine ⟨hR, New.refl _, ?_⟩; simp only [phi588]
    · intro vals wr hR hd
      have h5 := hd 5 (by kernel_rfl)
      simp only [phi588] at h5
      have e5 := (fill_eval (B := B588) (vals := vals) hsz 5 28 (by kernel_rfl)).trans h5
      show Does _ _ (fillAll act B588 vals) _ _
      generalize fillAll act B588 vals = act1 at *
      clear hd
      refine Does.mono (post := fun v w' => v = .int .i64 (frmOf x).ses ∧ New wr w') ?_ ?_
      · unfold Does; simp only [execOp, resolve, List.map_toArray, List.map_cons, List.map_nil]; rw [e5]; clear e5 hsz; go_simp
        refine (rnum_part (lo := 4) (hS.new_ hR) (by omega)).mono ?_
        rintro e w'' ⟨rfl, n, rfl⟩
        exact ⟨_, rfl, rfl, drewN_new _ _⟩
      · rintro v w' ⟨rfl, hn⟩; refine ⟨hR.trans hn, hn, ?_⟩; simp only [phi588]
    · intro vals wr hR hd
      have s4 := (fill_other (vals := vals) (B := B588) 4 (by kernel_rfl)).trans ha4
      show Does _ _ (fillAll act B588 vals) _ _
      generalize fillAll act B588 vals = act1 at *
      clear hd
      refine Does.mono (post := fun v w' => v = .slice (some ⟨bk, o, none⟩) x.length c1 ∧ w' = wr) ?_ ?_
      · unfold Does; simp only [execOp]; rw [s4]; clear s4 hsz; go_simp
      · rintro v w' ⟨rfl, rfl⟩; refine ⟨hR, New.refl _, ?_⟩; simp only [phi588]
    · intro vals wr hR hd
      have h7 := hd 7 (by kernel_rfl)
      simp only [phi588] at h7
      have e7 := (fill_eval (B := B588) (vals := vals) hsz 7 30 (by kernel_rfl)).trans h7
      show Does _ _ (fillAll act B588 vals) _ _
      generalize fillAll act B588 vals = act1 at *
      clear hd
      refine Does.mono (post := fun v w' => v = .slice (cutA (some ⟨bk, o, none⟩) 8 c1) (x.length - 8) (c1 - 8) ∧ w' = wr) ?_ ?_
      · unfold Does; simp only [execOp]; rw [e7]; clear e7 hsz; go_simp
      · rintro v w' ⟨rfl, rfl⟩; refine ⟨hR, New.refl _, ?_⟩; simp only [phi588]
    · intro vals wr hR hd
      have h8 := hd 8 (by kernel_rfl)
      simp only [phi588] at h8
      have e8 := (fill_eval (B := B588) (vals := vals) hsz 8 31 (by kernel_rfl)).trans h8
      show Does _ _ (fillAll act B588 vals) _ _
      generalize fillAll act B588 vals = act1 at *
      clear hd
      refine Does.mono (post := fun v w' => v = .int .i64 (frmOf x).boot ∧ New wr w') ?_ ?_
      · unfold Does; simp only [execOp, resolve, List.map_toArray, List.map_cons, List.map_nil]; rw [e8]; clear e8 hsz; go_simp
        refine (rnum_part (lo := 8) (hS.new_ hR) (by omega)).mono ?_
        rintro e w'' ⟨rfl, n, rfl⟩
        exact ⟨_, rfl, rfl, drewN_new _ _⟩
      · rintro v w' ⟨rfl, hn⟩; refine ⟨hR.trans hn, hn, ?_⟩; simp only [phi588]
    · intro vals wr hR hd
      have s4 := (fill_other (vals := vals) (B := B588) 4 (by kernel_rfl)).trans ha4
      show Does _ _ (fillAll act B588 vals) _ _
      generalize fillAll act B588 vals = act1 at *
      clear hd
      refine Does.mono (post := fun v w' => v = .slice (some ⟨bk, o, none⟩) x.length c1 ∧ w' = wr) ?_ ?_
      · unfold Does; simp only [execOp]; rw [s4]; clear s4 hsz; go_simp
      · rintro v w' ⟨rfl, rfl⟩; refine ⟨hR, New.refl _, ?_⟩; simp only [phi588]
    · intro vals wr hR hd
      have h10 := hd 10 (by kernel_rfl)
      simp only [phi588] at h10
      have e10 := (fill_eval (B := B588) (vals := vals) hsz 10 33 (by kernel_rfl)).trans h10
      show Does _ _ (fillAll act B588 vals) _ _
      generalize fillAll act B588 vals = act1 at *
      clear hd
      refine Does.mono (post := fun v w' => v = .slice (cutA (some ⟨bk, o, none⟩) 12 c1) (x.length - 12) (c1 - 12) ∧ w' = wr) ?_ ?_
      · unfold Does; simp only [execOp]; rw [e10]; clear e10 hsz; go_simp
      · rintro v w' ⟨rfl, rfl⟩; refine ⟨hR, New.refl _, ?_⟩; simp only [phi588]
    · intro vals wr hR hd
      have h11 := hd 11 (by kernel_rfl)
      simp only [phi588] at h11
      have e11 := (fill_eval (B := B588) (vals := vals) hsz 11 34 (by kernel_rfl)).trans h11
      show Does _ _ (fillAll act B588 vals) _ _
      generalize fillAll act B588 vals = act1 at *
      clear hd
      refine Does.mono (post := fun v w' => v = .int .i64 (frmOf x).seq ∧ New wr w') ?_ ?_
      · unfold Does; simp only [execOp, resolve, List.map_toArray, List.map_cons, List.map_nil]; rw [e11]; clear e11 hsz; go_simp
        refine (rnum_part (lo := 12) (hS.new_ hR) (by omega)).mono ?_
        rintro e w'' ⟨rfl, n, rfl⟩
        exact ⟨_, rfl, rfl, drewN_new _ _⟩
      · rintro v w' ⟨rfl, hn⟩; refine ⟨hR.trans hn, hn, ?_⟩; simp only [phi588]
    · intro vals wr hR hd
      have s4 := (fill_other (vals := vals) (B := B588) 4 (by kernel_rfl)).trans ha4
      show Does _ _ (fillAll act B588 vals) _ _
      generalize fillAll act B588 vals = act1 at *
      clear hd
      refine Does.mono (post := fun v w' => v = .slice (some ⟨bk, o, none⟩) x.length c1 ∧ w' = wr) ?_ ?_
      · unfold Does; simp only [execOp]; rw [s4]; clear s4 hsz; go_simp
      · rintro v w' ⟨rfl, rfl⟩; refine ⟨hR, New.refl _, ?_⟩; simp only [phi588]
    · intro vals wr hR hd
      have h13 := hd 13 (by kernel_rfl)
      simp only [phi588] at h13
      have e13 := (fill_eval (B := B588) (vals := vals) hsz 13 36 (by kernel_rfl)).trans h13
      show Does _ _ (fillAll act B588 vals) _ _
      generalize fillAll act B588 vals = act1 at *
      clear hd
      refine Does.mono (post := fun v w' => v = .slice (cutA (some ⟨bk, o, none⟩) 16 c1) (x.length - 16) (c1 - 16) ∧ w' = wr) ?_ ?_
      · unfold Does; simp only [execOp]; rw [e13]; clear e13 hsz; go_simp
      · rintro v w' ⟨rfl, rfl⟩; refine ⟨hR, New.refl _, ?_⟩; simp only [phi588]
    · intro vals wr hR hd
      have h14 := hd 14 (by kernel_rfl)
      simp only [phi588] at h14
      have e14 := (fill_eval (B := B588) (vals := vals) hsz 14 37 (by kernel_rfl)).trans h14
      show Does _ _ (fillAll act B588 vals) _ _
      generalize fillAll act B588 vals = act1 at *
      clear hd
      refine Does.mono (post := fun v w' => v = .int .i64 (frmOf x).ack ∧ New wr w') ?_ ?_
      · unfold Does; simp only [execOp, resolve, List.map_toArray, List.map_cons, List.map_nil]; rw [e14]; clear e14 hsz; go_simp
        refine (rnum_part (lo := 16) (hS.new_ hR) (by omega)).mono ?_
        rintro e w'' ⟨rfl, n, rfl⟩
        exact ⟨_, rfl, rfl, drewN_new _ _⟩
      · rintro v w' ⟨rfl, hn⟩; refine ⟨hR.trans hn, hn, ?_⟩; simp only [phi588]
    · intro vals wr hR hd
      show Does _ _ (fillAll act B588 vals) _ _
      generalize fillAll act B588 vals = act1 at *
      clear hd
      refine Does.mono (post := fun v w' => v = .slice (some ⟨wr.heap.size, 0, none⟩) 0 0 ∧ New wr w') ?_ ?_
      · unfold Does; simp only [execOp]; clear hsz; go_simp
        exact New.alloc _ _
      · rintro v w' ⟨rfl, hn⟩; refine ⟨hR.trans hn, hn, ?_⟩; simp only [phi588]; exact ⟨_, rfl⟩
    · intro vals wr hR hd
      have s4 := (fill_other (vals := vals) (B := B588) 4 (by kernel_rfl)).trans ha4
      show Does _ _ (fillAll act B588 vals) _ _
      generalize fillAll act B588 vals = act1 at *
      clear hd
      refine Does.mono (post := fun v w' => v = .slice (some ⟨bk, o, none⟩) x.length c1 ∧ w' = wr) ?_ ?_
      · unfold Does; simp only [execOp]; rw [s4]; clear s4 hsz; go_simp
      · rintro v w' ⟨rfl, rfl⟩; refine ⟨hR, New.refl _, ?_⟩; simp only [phi588]
    · intro vals wr hR hd
      have h17 := hd 17 (by kernel_rfl)
      simp only [phi588] at h17
      have e17 := (fill_eval (B := B588) (vals := vals) hsz 17 40 (by kernel_rfl)).trans h17
      show Does _ _ (fillAll act B588 vals) _ _
      generalize fillAll act B588 vals = act1 at *
      clear hd
      refine Does.mono (post := fun v w' => v = .slice (cutA (some ⟨bk, o, none⟩) 22 c1) (x.length - 22) (c1 - 22) ∧ w' = wr) ?_ ?_
      · unfold Does; simp only [execOp]; rw [e17]; clear e17 hsz; go_simp
      · rintro v w' ⟨rfl, rfl⟩; refine ⟨hR, New.refl _, ?_⟩; simp only [phi588]
    · intro vals wr hR hd
      have h16 := hd 16 (by kernel_rfl)
      simp only [phi588] at h16
      obtain ⟨g16, e16'⟩ := h16
      have e16 := (fill_eval (B := B588) (vals := vals) hsz 16 39 (by kernel_rfl)).trans e16'
      have h18 := hd 18 (by kernel_rfl)
      simp only [phi588] at h18
      have e18 := (fill_eval (B := B588) (vals := vals) hsz 18 41 (by kernel_rfl)).trans h18
      show Does _ _ (fillAll act B588 vals) _ _
      generalize fillAll act B588 vals = act1 at *
      clear hd
      exact does_append_emp _ (.tmp 39) (.tmp 41) _ (by rfl) base 5 z0 _ 1 Try.underlying22 hi0 hz0 hz1 hz2 rfl isB_zero g16 e16 _ ((frmOf x).body.map bv) e18 (rb_rest (hS.new_ hR) hx1) (isB_map _) hbl1 hbl2 (Nat.le_trans hbase hR.size) fun v' wa hE hnE => by obtain ⟨A2, c2, rfl⟩ := hE.shape; refine ⟨hR.trans hnE, hnE, ?_⟩; simp only [phi588]; exact ⟨A2, c2, rfl, hE⟩
    · intro vals wr hR hd
      have h3 := hd 3 (by kernel_rfl)
      simp only [phi588] at h3
      have e3 := (fill_eval (B := B588) (vals := vals) hsz 3 26 (by kernel_rfl)).trans h3
      have h6 := hd 6 (by kernel_rfl)
      simp only [phi588] at h6
      have e6 := (fill_eval (B := B588) (vals := vals) hsz 6 29 (by kernel_rfl)).trans h6
      have h9 := hd 9 (by kernel_rfl)
      simp only [phi588] at h9
      have e9 := (fill_eval (B := B588) (vals := vals) hsz 9 32 (by kernel_rfl)).trans h9
      have h12 := hd 12 (by kernel_rfl)
      simp only [phi588] at h12
      have e12 := (fill_eval (B := B588) (vals := vals) hsz 12 35 (by kernel_rfl)).trans h12
      have h15 := hd 15 (by kernel_rfl)
      simp only [phi588] at h15
      have e15 := (fill_eval (B := B588) (vals := vals) hsz 15 38 (by kernel_rfl)).trans h15
      have h19 := hd 19 (by kernel_rfl)
      simp only [phi588] at h19
      obtain ⟨A2, c2, e19', hE⟩ := h19
      have e19 := (fill_eval (B := B588) (vals := vals) hsz 19 42 (by kernel_rfl)).trans e19'
      rw [e19'] at hE
      show Does _ _ (fillAll act B588 vals) _ _
      generalize fillAll act B588 vals = act1 at *
      clear hd
      refine Does.mono (post := fun v w' => v = .agg #[.int .i64 (frmOf x).typ, .int .i64 (frmOf x).ses, .int .i64 (frmOf x).boot, .int .i64 (frmOf x).seq, .int .i64 (frmOf x).ack, .slice A2 ((frmOf x).body.map bv).length c2] ∧ w' = wr) ?_ ?_
      · unfold Does; simp only [execOp, List.map_toArray, List.map_cons, List.map_nil]; rw [e3, e6, e9, e12, e15, e19]; clear e3 e6 e9 e12 e15 e19 hsz; go_simp
      · rintro v w' ⟨rfl, rfl⟩; refine ⟨hR, New.refl _, ?_⟩; simp only [phi588]; exact ⟨A2, c2, rfl, hE⟩
    · intro vals wr hR hd
      show Does _ _ (fillAll act B588 vals) _ _
      generalize fillAll act B588 vals = act1 at *
      clear hd
      refine Does.mono (post := fun v w' => v = .pointer (some ⟨wr.heap.size, 0, none⟩) ∧ w' = wr.alloc (.cells #[.int .i64 0, .int .i64 0, .int .i64 0, .int .i64 0, .int .i64 0, .slice none 0 0] 47)) ?_ ?_
      · unfold Does; simp only [execOp]; clear hsz; go_simp
      · rintro v w' ⟨rfl, rfl⟩; refine ⟨hR.trans (New.alloc _ _), New.alloc _ _, ?_⟩; simp only [phi588]; exact ⟨_, rfl, hR.size, Bk.ofNew _ _ _⟩
  case last =>
    intro oper hop vals wr hR hφ
    have h21 := hφ 21 (by kernel_rfl)
    have h20 := hφ 20 (by kernel_rfl)
    simp only [phi588] at h20 h21
    obtain ⟨g, e21, hbg, hZ⟩ := h21
    obtain ⟨A2, c2, e20, hE⟩ := h20
    have q0 := hZ.cellAt (i := 0) rfl
    have q1 := hZ.cellAt (i := 1) rfl
    have q2 := hZ.cellAt (i := 2) rfl
    have q3 := hZ.cellAt (i := 3) rfl
    have q4 := hZ.cellAt (i := 4) rfl
    have q5 := hZ.cellAt (i := 5) rfl
    have qf := hZ.frozen
    have e20' := (fill_eval (B := B588) (vals := vals) hsz 20 43 (by kernel_rfl)).trans e20
    have e21' := (fill_eval (B := B588) (vals := vals) hsz 21 6 (by kernel_rfl)).trans e21
    refine Does.mono (post := fun v w' => w' = ((((((wr.setCell ⟨g, 0, none⟩ (.int .i64 (frmOf x).typ)).setCell ⟨g, 1, none⟩ (.int .i64 (frmOf x).ses)).setCell ⟨g, 2, none⟩ (.int .i64 (frmOf x).boot)).setCell ⟨g, 3, none⟩ (.int .i64 (frmOf x).seq)).setCell ⟨g, 4, none⟩ (.int .i64 (frmOf x).ack)).setCell ⟨g, 5, none⟩ (.slice A2 ((frmOf x).body.map bv).length c2))) ?_ ?_
    · show Does _ _ (fillAll act B588 vals) _ _; generalize fillAll act B588 vals = act1 at *; clear hφ hQ; unfold Does execOp; rw [hop]; simp only []; rw [e20', e21']; go_simp
    · rintro v w' rfl
      exact hQ vals _ g A2 c2 e21 (bk6 hZ _ _ _ _ _ _) (keepE6 hE hZ _ _ _ _ _ _) (new6 hR hbg _ _ _ _ _ _)
end Go.Proofs.Ytkfcdfcoiglieaa
