/- WindowNone, walked. Conditions: the sizes that a row lets in. -/
import Derived.Test.YtkfcdfcoiglieaaWLaw
namespace Go.Proofs.Ytkfcdfcoiglieaa
open Go.RowKit

theorem run_neq_float0 (w : World) : (binOp .neq 88 (.float .f64 0) (.float .f64 0)).run Try.prog w = .ok (.bool false) w := by kernel_rfl
theorem ra_one {w : World} {a : AcT} {u : Value} (hr : RB w u a.b) : RA (w.alloc (.cells #[.int .i64 a.kind, .int .i64 a.n, .int .i64 a.now, u] 82)) (.slice (some ⟨w.heap.size, 0, none⟩) 1 1) [a] := by
  refine ⟨_, 1, rfl, by simp, by omega, fun _ => ⟨w.heap.size, 0, rfl, fun i b hb => ?_⟩⟩
  have hi : i = 0 := by have := (List.getElem?_eq_some_iff.1 hb).1; simp at this; exact this
  subst hi
  have : b = a := by simpa using hb.symm
  subst this
  have hB := Bk.ofNew w 82 #[.int .i64 b.kind, .int .i64 b.n, .int .i64 b.now, u]
  exact ⟨u, hB.cellAt (i := 0) rfl, hB.cellAt (i := 1) rfl, hB.cellAt (i := 2) rfl, hB.cellAt (i := 3) rfl, hr.new_ (New.alloc _ _)⟩
set_option maxRecDepth 100000 in
set_option maxHeartbeats 800000 in
theorem none13 (a : AcT) (u : Value) (w : World) (hr : RB w u a.b) (hbl : a.b.length ≤ 140737488351232) :
    Calls Try.prog 22 #[.agg #[.int .i64 a.kind, .int .i64 a.n, .int .i64 a.now, u]] w fun e w' => e = .returned (.bool true) ∧ New w w' := by
  obtain ⟨Ab, cb, rfl, _, _⟩ := hr.shape
  have f0 := run_neq_float0
  have hra : RA ((w.alloc (.cells #[.int .i64 a.kind, .int .i64 a.n, .int .i64 a.now, .slice Ab a.b.length cb] 82)).alloc (.cells #[.int .i64 a.kind, .int .i64 a.n, .int .i64 a.now, .slice Ab a.b.length cb] 82)) (.slice (some ⟨w.heap.size + 1, 0, none⟩) 1 1) [a] := by
    have := ra_one (hr.new_ (New.alloc w (.cells #[.int .i64 a.kind, .int .i64 a.n, .int .i64 a.now, .slice Ab a.b.length cb] 82)))
    rwa [World.size_alloc] at this
  have Hra := Lib.hid hra; clear hra
  cases hL : longA [a] with
  | true =>
    have HL := Lib.hid hL; clear hL
    go_enter Try.func22, Try.ntmps22
    go_wp2_with fail
    refine (long_any _ [a] _ Hra.out (fun x hx => by rw [List.mem_singleton.1 hx]; exact hbl)).mono ?_
    rw [HL.out]
    rintro e w1 ⟨rfl, rfl⟩
    go_wp2_with fail
    refine (awake13 _).mono ?_
    rintro e w2 ⟨rfl, hn⟩
    go_wp2
    go_ret
    exact ⟨rfl, ((New.alloc w _).trans (New.alloc _ _)).trans hn⟩
  | false =>
    have HL := Lib.hid hL; clear hL
    go_enter Try.func22, Try.ntmps22
    go_wp2_with fail
    refine (long_any _ [a] _ Hra.out (fun x hx => by rw [List.mem_singleton.1 hx]; exact hbl)).mono ?_
    rw [HL.out]
    rintro e w1 ⟨rfl, rfl⟩
    go_wp2_with fail
    generalize hwx : World.alloc (World.alloc (World.alloc (World.alloc w _) _) _) _ = wx at *
    have hn : New w wx := by rw [← hwx]; exact (((New.alloc w _).trans (New.alloc _ _)).trans (New.alloc _ _)).trans (New.alloc _ _)
    have hb0 : Bk wx w.heap.size 82 #[.int .i64 a.kind, .int .i64 a.n, .int .i64 a.now, .slice Ab a.b.length cb] := by rw [← hwx]; exact (((Bk.ofNew w _ _).new_ (New.alloc _ _)).new_ (New.alloc _ _)).new_ (New.alloc _ _)
    have hz0 : Bk wx (w.heap.size + 1 + 1) 93 #[.int .i64 0, .int .i64 0, .slice none 0 0, .float .f64 0, .float .f64 0, .int .i64 0] := by
      rw [← hwx]
      have := (Bk.ofNew ((w.alloc (.cells #[.int .i64 a.kind, .int .i64 a.n, .int .i64 a.now, .slice Ab a.b.length cb] 82)).alloc (.cells #[.int .i64 a.kind, .int .i64 a.n, .int .i64 a.now, .slice Ab a.b.length cb] 82)) 93 #[.int .i64 0, .int .i64 0, .slice none 0 0, .float .f64 0, .float .f64 0, .int .i64 0])
      rw [World.size_alloc, World.size_alloc] at this
      exact this.new_ (New.alloc _ _)
    have ha0 : Bk wx (w.heap.size + 1 + 1 + 1) 67 #[.pointer none, .pointer (some ⟨w.heap.size + 1 + 1, 0, none⟩)] := by
      rw [← hwx]
      have := (Bk.ofNew (((w.alloc (.cells #[.int .i64 a.kind, .int .i64 a.n, .int .i64 a.now, .slice Ab a.b.length cb] 82)).alloc (.cells #[.int .i64 a.kind, .int .i64 a.n, .int .i64 a.now, .slice Ab a.b.length cb] 82)).alloc (.cells #[.int .i64 0, .int .i64 0, .slice none 0 0, .float .f64 0, .float .f64 0, .int .i64 0] 93)) 67 #[.pointer none, .pointer (some ⟨w.heap.size + 1 + 1, 0, none⟩)])
      rw [World.size_alloc, World.size_alloc, World.size_alloc] at this
      exact this
    have c1 := hb0.cellAt (i := 1) rfl
    have c2 := hb0.cellAt (i := 2) rfl
    have c3 := hb0.cellAt (i := 3) rfl
    have z0 := hz0.cellAt (i := 0) rfl
    have hall : ∀ i : Nat, i < 2 → ∃ pv, wx.cell? ⟨w.heap.size + 1 + 1 + 1, i, none⟩ = some pv ∧ NoWin wx pv := fun i hi => by
      match i, hi with
      | 0, _ => exact ⟨_, ha0.cellAt (i := 0) rfl, .inl rfl⟩
      | 1, _ => exact ⟨_, ha0.cellAt (i := 1) rfl, .inr ⟨_, rfl, z0⟩⟩
    have Hall := Lib.hid hall; have Hn := Lib.hid hn
    clear hwx hb0 hz0 ha0 hall hn z0 hr Hra HL
    go_loop [4] (fun u4 => ∃ i : Nat, i ≤ 2 ∧ u4 = .int .i64 i) (fun u4 => 2 - (intOf u4).toNat)
    case atStart => exact ⟨0, by omega, rfl⟩
    case round =>
      obtain ⟨i, hi, rfl⟩ := hrel
      by_cases hlt : i < 2
      · obtain ⟨pv, hcell, hno⟩ := Hall.out i hlt
        have Hno := Lib.hid hno; clear hno
        have iI0 : (0 : Int) ≤ (i : Int) := by omega
        have iI1 : (i : Int) < 2 := by omega
        go_wp2_with fail
        refine (push_no pv _ _ Hno.out).mono ?_
        rintro e w2 ⟨rfl, rfl⟩
        go_wp2_with fail
        refine (ack_no pv _ _ _ Hno.out).mono ?_
        rintro e w2 ⟨rfl, rfl⟩
        go_wp2_with fail
        refine (when_no pv _ Hno.out).mono ?_
        rintro e w2 ⟨rfl, rfl⟩
        go_wp2_with fail
        refine (times_no pv _ Hno.out).mono ?_
        rintro e w2 ⟨rfl, rfl⟩
        go_wp2_with fail
        refine (due_no pv _ _ Hno.out).mono ?_
        rintro e w2 ⟨rfl, rfl⟩
        go_wp2_with fail
        refine (open_no pv _ Hno.out).mono ?_
        rintro e w2 ⟨rfl, rfl⟩
        go_wp2_with fail
        refine (last_no pv _ Hno.out).mono ?_
        rintro e w2 ⟨rfl, rfl⟩
        go_wp2
        go_round
        case rel => exact ⟨i + 1, by omega, by go_num⟩
        case measure => simp [intOf]; omega
      · have hi2 : i = 2 := by omega
        subst hi2
        go_wp2_with fail
        refine (awake13 _).mono ?_
        rintro e w2 ⟨rfl, hn2⟩
        go_wp2
        go_ret
        exact ⟨rfl, Hn.out.trans hn2⟩
end Go.Proofs.Ytkfcdfcoiglieaa
