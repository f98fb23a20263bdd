/- frame.known, types, as, Check return what the plain law says. Conditions: a frame's body reads as bytes. -/
import Derived.Test.YtkfcdfcoiglieaaFrameP
import Derived.Test.YtkfcdfcoiglieaaAw4
import Derived.Deep.DeepCutAuto
namespace Go.Proofs.Ytkfcdfcoiglieaa
open Go.RowKit

/-- A frame as a value. -/
abbrev fv (f : Frm) (vb : Value) : Value := .agg #[.int .i64 f.typ, .int .i64 f.ses, .int .i64 f.boot, .int .i64 f.seq, .int .i64 f.ack, vb]

set_option maxRecDepth 100000 in
set_option maxHeartbeats 400000 in
theorem known_any (t : Int) (w : World) : Calls Try.prog 87 #[.int .i64 t] w fun e w' => e = .returned (.bool (knownB t)) ∧ w = w' := by
  by_cases h1 : 1 ≤ t
  · by_cases h2 : t ≤ 5
    · have hd : Hid (knownB t = true) := decide_eq_true ⟨h1, h2⟩
      go_enter Try.func87, Try.ntmps87
      go_wp2
      go_ret
      exact ⟨by rw [hd.out]; rfl, rfl⟩
    · have hd : Hid (knownB t = false) := decide_eq_false (fun h => h2 h.2)
      go_enter Try.func87, Try.ntmps87
      go_wp2
      go_ret
      exact ⟨by rw [hd.out]; rfl, rfl⟩
  · have hd : Hid (knownB t = false) := decide_eq_false (fun h => h1 h.1)
    go_enter Try.func87, Try.ntmps87
    go_wp2
    go_ret
    exact ⟨by rw [hd.out]; rfl, rfl⟩

set_option maxRecDepth 100000 in
set_option maxHeartbeats 400000 in
theorem types_any (w : World) : Calls Try.prog 104 #[] w fun e w' => e = .returned (.pointer (some ⟨w.heap.size, 0, none⟩)) ∧ w.alloc (.cells #[Value.bool false, Value.bool false, Value.bool false, Value.bool false, Value.bool false, Value.bool false, Value.bool false, Value.bool false, Value.bool false, Value.bool false, Value.bool true, Value.bool false, Value.bool false, Value.bool false, Value.bool true, Value.bool true, Value.bool true, Value.bool true, Value.bool true, Value.bool true, Value.bool true, Value.bool false, Value.bool true, Value.bool false, Value.bool true, Value.bool false, Value.bool false, Value.bool false, Value.bool false, Value.bool true] 145) = w' := by
  go_enter Try.func104, Try.ntmps104
  go_wp2
  go_ret
  exact ⟨rfl, rfl⟩

theorem bk_last (w : World) (o1 o2 : Obj) (t : TypeId) (cs : Array Value) : Bk (((w.alloc o1).alloc o2).alloc (.cells cs t)).drew (w.heap.size + 1 + 1) t cs := by
  have := Bk.ofNew ((w.alloc o1).alloc o2) t cs
  simpa using this.drew
theorem bk_mid (w : World) (o1 o3 : Obj) (t : TypeId) (cs : Array Value) : Bk (((w.alloc o1).alloc (.cells cs t)).alloc o3).drew (w.heap.size + 1) t cs := by
  have := (Bk.ofNew (w.alloc o1) t cs).alloc o3
  simpa using this.drew
theorem bk_first (w : World) (o2 o3 : Obj) (t : TypeId) (cs : Array Value) : Bk (((w.alloc (.cells cs t)).alloc o2).alloc o3).drew w.heap.size t cs :=
  (((Bk.ofNew w t cs).alloc o2).alloc o3).drew
theorem new3 (w : World) (o1 o2 o3 : Obj) : New w (((w.alloc o1).alloc o2).alloc o3).drew := (((New.alloc w o1).trans (New.alloc _ o2)).trans (New.alloc _ o3)).trans (New.drew _)

/-- frame.as is met at each type by itself. -/
def AsPost (w : World) (f : Frm) (e : Ending) (w' : World) : Prop := e = .returned (.bool (asF f)) ∧ New w w'
theorem asPost {w w' : World} {f : Frm} {b : Bool} (h : asF f = b) (hn : New w w') : AsPost w f (.returned (.bool b)) w' := ⟨by rw [h], hn⟩

set_option maxRecDepth 100000 in
set_option maxHeartbeats 1600000 in
theorem as_1 (s b q a : Int) (vb : Value) (l : List UInt8) (w : World) (h : RB w vb l) :
    Calls Try.prog 88 #[.agg #[.int .i64 1, .int .i64 s, .int .i64 b, .int .i64 q, .int .i64 a, vb]] w (AsPost w ⟨1, s, b, q, a, l⟩) := by
  obtain ⟨A, c, rfl, hl, hc⟩ := h.shape
  have hB0 := Bk.ofNew w 47 #[.int .i64 1, .int .i64 s, .int .i64 b, .int .i64 q, .int .i64 a, .slice A l.length c]
  have hN0 := New.alloc w (.cells #[.int .i64 1, .int .i64 s, .int .i64 b, .int .i64 q, .int .i64 a, .slice A l.length c] 47)
  go_enter Try.func88, Try.ntmps88
  go_upto_region 1 with fail
  go_cut [3] (fun s3 wx => ∃ g : Nat, s3 = .pointer (some ⟨g, 0, none⟩) ∧ Bk wx g 140 #[Value.bool false, Value.bool false, Value.bool false, Value.bool false, Value.bool false] ∧ Bk wx w.heap.size 47 #[.int .i64 1, .int .i64 s, .int .i64 b, .int .i64 q, .int .i64 a, .slice A l.length c] ∧ New w wx)
  case first =>
    go_region_with (go_at_call 104; refine (types_any _).mono ?_; rintro e w1 ⟨rfl, rfl⟩)
    all_goals
      go_wp2_with fail
      go_meet
      exact ⟨_, rfl, by first | exact bk_last _ _ _ _ _ | exact bk_mid _ _ _ _ _, bk_first _ _ _ _ _, new3 _ _ _ _⟩
  case rest =>
    obtain ⟨g, rfl, hB1, hB2, hN⟩ := hcut
    have k0 := hB1.cellAt (i := 0) rfl
    have k1 := hB1.cellAt (i := 1) rfl
    have k2 := hB1.cellAt (i := 2) rfl
    have k3 := hB1.cellAt (i := 3) rfl
    have k4 := hB1.cellAt (i := 4) rfl
    have m0 := hB2.cellAt (i := 0) rfl
    have m1 := hB2.cellAt (i := 1) rfl
    have m2 := hB2.cellAt (i := 2) rfl
    have m3 := hB2.cellAt (i := 3) rfl
    have m4 := hB2.cellAt (i := 4) rfl
    have m5 := hB2.cellAt (i := 5) rfl
    clear hB1 hB2
    go_wp2
    all_goals
      go_ret
      exact asPost (by clear k0 k1 k2 k3 k4 m0 m1 m2 m3 m4 m5; simp_all [asF] <;> first | omega | (rintro rfl; simp_all)) hN

end Go.Proofs.Ytkfcdfcoiglieaa
