/- satchellaw11.FrameReads returns true. Conditions: the slice reads as bytes. -/
import Derived.Test.YtkfcdfcoiglieaaRefR
import Derived.Test.YtkfcdfcoiglieaaFrameK
import Derived.Test.YtkfcdfcoiglieaaKit2
import Derived.Test.YtkfcdfcoiglieaaSums
namespace Go.Proofs.Ytkfcdfcoiglieaa
open Go.RowKit

theorem lent_own {w : World} {g : Nat} {l : List UInt8} (h : Bk w g 5 ((lentL l).map bv).toArray) (hl : l.length ≤ 1000000000) :
    OwnP isB w g 5 (.slice (some ⟨g, 0, none⟩) (l.map bv).length (l.length + 3)) (l.map bv) := by
  refine .inr ⟨g, 0, l.length + 3, _, rfl, Nat.le_refl _, h, by simp, by unfold maxLen; omega, by simp [length_lentL], ?_, fun x hx => isB_map _ x (by simpa using hx)⟩
  simp [lentL]
theorem samef_same (F : Frm) (va vb : Value) (w : World) (h1 : RB w va F.body) (h2 : RB w vb F.body) :
    Calls Try.prog 59 #[fv F va, fv F vb] w fun e w' => e = .returned (.bool true) ∧ New w w' :=
  (samef_any F F va vb w h1 h2).mono fun e w' ⟨he, hn⟩ => ⟨by rw [he, sameF_refl], hn⟩
theorem readf_gen (v : Value) (b : List UInt8) (F : Frm) (n : Int) (w : World) (h : RB w v b) (hb : b.length ≤ 1000000000) (hF : readF b = F) (hn : errR b = n) :
    Calls Try.prog 57 #[v] w fun e w' => ∃ A c, e = .returned (.tuple #[fv F (.slice A F.body.length c), .int .i64 n]) ∧ OwnB w' w.heap.size (.slice A F.body.length c) F.body ∧ New w w' := by
  subst hF; subst hn
  refine (readf_any v b w h hb).mono ?_
  rintro e w' ⟨v', rfl, ho, hn⟩
  obtain ⟨A, c, rfl, _, _⟩ := ho.rb.shape
  exact ⟨A, c, rfl, ho, hn⟩
theorem rreadf_gen (v : Value) (b : List UInt8) (F : Frm) (n : Int) (w : World) (h : RB w v b) (hb : b.length ≤ 1000000000) (hF : readF b = F) (hn : errR b = n) :
    Calls Try.prog 58 #[v] w fun e w' => ∃ A c, e = .returned (.tuple #[fv F (.slice A F.body.length c), .int .i64 n]) ∧ OwnE isB w' w.heap.size 5 (.slice A F.body.length c) (F.body.map bv) ∧ New w w' := by
  subst hF; subst hn
  refine (rreadf_any v b w h hb).mono ?_
  rintro e w' ⟨v', rfl, ho, hn⟩
  obtain ⟨A, c, rfl⟩ := ho.shape
  rw [List.length_map] at ho ⊢
  exact ⟨A, c, rfl, ho, hn⟩

set_option maxRecDepth 100000 in
set_option maxHeartbeats 4000000 in
theorem reads_law (v : Value) (b : List UInt8) (w : World) (h : RB w v b) :
    Calls Try.prog 12 #[v] w fun e w' => e = .returned (.bool true) ∧ New w w' := by
  obtain ⟨A, c, rfl, hl, hc⟩ := h.shape
  by_cases hlong : (2000 : Int) < (b.length : Int)
  · go_enter Try.func12, Try.ntmps12
    go_wp2
    go_ret
    exact ⟨rfl, New.refl _⟩
  obtain ⟨F, hF⟩ : ∃ F, readF b = F := ⟨_, rfl⟩
  obtain ⟨n, hn⟩ : ∃ n, errR b = n := ⟨_, rfl⟩
  have HR := Lib.hid (fun (v : Value) (w : World) (h : RB w v b) => readf_gen v b F n w h (by omega) hF hn)
  have HRR := Lib.hid (fun (v : Value) (w : World) (h : RB w v b) => rreadf_gen v b F n w h (by omega) hF hn)
  clear hF hn
  go_enter Try.func12, Try.ntmps12
  go_wp2_with fail
  refine (lent_any _ b _ h (by omega)).mono ?_
  rintro e w1 ⟨rfl, hL1, hn1⟩
  have hlt1 := hL1.lt
  obtain ⟨LB, hLB⟩ : ∃ v, v = Value.slice (some ⟨w.heap.size, 0, none⟩) b.length (b.length + 3) := ⟨_, rfl⟩
  rw [← hLB]
  have hrLB : RB w1 LB b := by rw [hLB]; exact (lent_rb hL1 (by omega)).1
  have HLB := Lib.hid hLB
  clear hLB
  go_wp2_with fail
  refine (HR.out _ _ hrLB).mono ?_
  rintro e w2 ⟨A2, c2, rfl, ho2, hn2⟩
  go_wp2_with fail
  have hB3 := Bk.ofNew w2 47 #[.int .i64 F.typ, .int .i64 F.ses, .int .i64 F.boot, .int .i64 F.seq, .int .i64 F.ack, .slice A2 F.body.length c2]
  have hN3 := hn2.trans (New.alloc w2 (.cells #[.int .i64 F.typ, .int .i64 F.ses, .int .i64 F.boot, .int .i64 F.seq, .int .i64 F.ack, .slice A2 F.body.length c2] 47))
  have ho3 := ho2.new_ (New.alloc w2 (.cells #[.int .i64 F.typ, .int .i64 F.ses, .int .i64 F.boot, .int .i64 F.seq, .int .i64 F.ack, .slice A2 F.body.length c2] 47))
  generalize w2.alloc (.cells #[.int .i64 F.typ, .int .i64 F.ses, .int .i64 F.boot, .int .i64 F.seq, .int .i64 F.ack, .slice A2 F.body.length c2] 47) = w3 at hB3 hN3 ho3 ⊢
  obtain ⟨g3, hg3⟩ : ∃ g, g = w2.heap.size := ⟨_, rfl⟩
  rw [← hg3] at hB3 ⊢
  have hg3' : w1.heap.size ≤ g3 := by have := hn2.size; omega
  clear hg3
  have hlt3 := hB3.lt
  refine (HRR.out _ _ ((h.new_ hn1).new_ hN3)).mono ?_
  rintro e w4 ⟨A4, c4, rfl, ho4, hn4⟩
  have hB4 := hB3.new_ hn4
  have ho34 := ho3.new_ hn4
  have hlt4 := hB4.lt
  have m0 := hB4.cellAt (i := 0) rfl
  have m1 := hB4.cellAt (i := 1) rfl
  have m2 := hB4.cellAt (i := 2) rfl
  have m3 := hB4.cellAt (i := 3) rfl
  have m4 := hB4.cellAt (i := 4) rfl
  have m5 := hB4.cellAt (i := 5) rfl
  go_wp2_with fail
  have hB5 := Bk.ofNew w4 47 #[.int .i64 F.typ, .int .i64 F.ses, .int .i64 F.boot, .int .i64 F.seq, .int .i64 F.ack, .slice A4 F.body.length c4]
  have hB35 := hB4.alloc (.cells #[.int .i64 F.typ, .int .i64 F.ses, .int .i64 F.boot, .int .i64 F.seq, .int .i64 F.ack, .slice A4 F.body.length c4] 47)
  have hN5 := hn4.trans (New.alloc w4 (.cells #[.int .i64 F.typ, .int .i64 F.ses, .int .i64 F.boot, .int .i64 F.seq, .int .i64 F.ack, .slice A4 F.body.length c4] 47))
  have ho5 := ho4.new_ (New.alloc w4 (.cells #[.int .i64 F.typ, .int .i64 F.ses, .int .i64 F.boot, .int .i64 F.seq, .int .i64 F.ack, .slice A4 F.body.length c4] 47))
  have ho35 := ho34.new_ (New.alloc w4 (.cells #[.int .i64 F.typ, .int .i64 F.ses, .int .i64 F.boot, .int .i64 F.seq, .int .i64 F.ack, .slice A4 F.body.length c4] 47))
  have hN15 := hN3.trans hN5
  generalize w4.alloc (.cells #[.int .i64 F.typ, .int .i64 F.ses, .int .i64 F.boot, .int .i64 F.seq, .int .i64 F.ack, .slice A4 F.body.length c4] 47) = w5 at hB5 hB35 hN5 ho5 ho35 hN15 ⊢
  obtain ⟨g5, hg5⟩ : ∃ g, g = w4.heap.size := ⟨_, rfl⟩
  rw [← hg5] at hB5 ⊢
  have hg5' : w1.heap.size ≤ g5 := by have := hN3.size; have := hn4.size; omega
  clear hg5 m0 m1 m2 m3 m4 m5
  refine (samef_same F _ _ _ ho35.rb ho5.rd).mono ?_
  rintro e w6 ⟨rfl, hn6⟩
  have hN16 := hN15.trans hn6
  have hLB := HLB.out
  subst hLB
  go_wp2_with fail
  have hL6 := hL1.new_ hN16
  refine (kept_any _ _ b _ (lent_rb hL6 (by omega)).2 (h.new_ (hn1.trans hN16)) (by omega)).mono ?_
  rintro e w7 ⟨rfl, hn7⟩
  go_wp2_with fail
  have hL7 := hL6.new_ hn7
  have hN17 := hN16.trans hn7
  have hlo := lent_own hL7 (by omega)
  rw [List.length_map] at hlo
  refine (over_any _ _ _ _ hlo).mono ?_
  rintro e w8 ⟨rfl, hM⟩
  have hn57 := hn6.trans hn7
  have hS : ∀ k, w1.heap.size ≤ k → ¬ (some w.heap.size = some k) := fun k hk e => by injection e with e; omega
  have hn24 := hn2.size
  have hs3 := hN3.size
  have ho8 := OwnP.mod (ho35.new_ hn57) hM (fun k hk => hS k (by have := (OwnP.lt ho35 k hk).1; omega))
  have ho9 := OwnE.mod (ho5.new_ hn57) hM (fun k hk _ => hS k (by omega))
  have hB8 := (hB35.new_ hn57).mod hM (hS _ hg3')
  have hB9 := (hB5.new_ hn57).mod hM (hS _ hg5')
  have hS2 : ∀ k, (Value.slice (some ⟨w.heap.size, 0, none⟩) b.length (b.length + 3)).ownBlock = some k → w.heap.size ≤ k := fun k hk => by
    injection hk with hk
    exact Nat.le_of_eq hk
  have hN8 : New w w8 := (hn1.trans hN17).thenMod hM hS2
  have m0 := hB8.cellAt (i := 0) rfl
  have m1 := hB8.cellAt (i := 1) rfl
  have m2 := hB8.cellAt (i := 2) rfl
  have m3 := hB8.cellAt (i := 3) rfl
  have m4 := hB8.cellAt (i := 4) rfl
  have m5 := hB8.cellAt (i := 5) rfl
  have k0 := hB9.cellAt (i := 0) rfl
  have k1 := hB9.cellAt (i := 1) rfl
  have k2 := hB9.cellAt (i := 2) rfl
  have k3 := hB9.cellAt (i := 3) rfl
  have k4 := hB9.cellAt (i := 4) rfl
  have k5 := hB9.cellAt (i := 5) rfl
  go_wp2_with fail
  refine (samef_same F _ _ _ (show RB w8 _ _ from OwnP.rd ho8) ho9.rd).mono ?_
  rintro e w9 ⟨rfl, hn9⟩
  go_wp2_with fail
  refine (awake11 _).mono ?_
  rintro e w10 ⟨rfl, hn10⟩
  go_wp2
  go_ret
  exact ⟨rfl, (hN8.trans hn9).trans hn10⟩
end Go.Proofs.Ytkfcdfcoiglieaa
