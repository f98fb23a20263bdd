/- satchelkit.SameFrame, satchellaw11.syn, laid return what they say. Conditions: the bodies read as bytes. -/
import Derived.Test.YtkfcdfcoiglieaaFrameN
namespace Go.Proofs.Ytkfcdfcoiglieaa
open Go.RowKit

/-- Two frames, part by part. -/
def sameF (f g : Frm) : Bool := decide (f.typ = g.typ) && (decide (f.ses = g.ses) && (decide (f.boot = g.boot) && (decide (f.seq = g.seq) && (decide (f.ack = g.ack) && decide (f.body = g.body)))))
theorem sameF_refl (f : Frm) : sameF f f = true := by simp [sameF]
theorem sameF_eq {f g : Frm} : sameF f g = true ↔ f = g := by
  obtain ⟨a, b, c, d, e, l⟩ := f
  obtain ⟨a', b', c', d', e', l'⟩ := g
  simp [sameF]
def SamePost (w : World) (f g : Frm) (e : Ending) (w' : World) : Prop := e = .returned (.bool (sameF f g)) ∧ New w w'
theorem samePost {w w' : World} {f g : Frm} {b : Bool} (h : sameF f g = b) (hn : New w w') : SamePost w f g (.returned (.bool b)) w' := ⟨by rw [h], hn⟩

set_option maxRecDepth 100000 in
set_option maxHeartbeats 1600000 in
theorem samef_any (f g : Frm) (va vb : Value) (w : World) (h1 : RB w va f.body) (h2 : RB w vb g.body) :
    Calls Try.prog 59 #[fv f va, fv g vb] w (SamePost w f g) := by
  obtain ⟨t, s, b, q, a, l⟩ := f
  obtain ⟨t', s', b', q', a', l'⟩ := g
  dsimp only at h1 h2
  change Calls Try.prog _ #[.agg #[.int .i64 t, .int .i64 s, .int .i64 b, .int .i64 q, .int .i64 a, va], .agg #[.int .i64 t', .int .i64 s', .int .i64 b', .int .i64 q', .int .i64 a', vb]] w _
  obtain ⟨A, c, rfl, hl, hc⟩ := h1.shape
  obtain ⟨A2, c2, rfl, hl2, hc2⟩ := h2.shape
  have hN := (New.alloc w (.cells #[.int .i64 t, .int .i64 s, .int .i64 b, .int .i64 q, .int .i64 a, .slice A l.length c] 47)).trans (New.alloc _ (.cells #[.int .i64 t', .int .i64 s', .int .i64 b', .int .i64 q', .int .i64 a', .slice A2 l'.length c2] 47))
  by_cases e0 : t = t'
  rotate_left
  · have Hr : Hid (sameF ⟨t, s, b, q, a, l⟩ ⟨t', s', b', q', a', l'⟩ = false) := Lib.hid (by simp [sameF, e0])
    go_enter Try.func59, Try.ntmps59
    go_wp2
    go_ret
    exact samePost Hr.out hN
  subst e0
  by_cases e1 : s = s'
  rotate_left
  · have Hr : Hid (sameF ⟨t, s, b, q, a, l⟩ ⟨t, s', b', q', a', l'⟩ = false) := Lib.hid (by simp [sameF, e1])
    go_enter Try.func59, Try.ntmps59
    go_wp2
    go_ret
    exact samePost Hr.out hN
  subst e1
  by_cases e2 : b = b'
  rotate_left
  · have Hr : Hid (sameF ⟨t, s, b, q, a, l⟩ ⟨t, s, b', q', a', l'⟩ = false) := Lib.hid (by simp [sameF, e2])
    go_enter Try.func59, Try.ntmps59
    go_wp2
    go_ret
    exact samePost Hr.out hN
  subst e2
  by_cases e3 : q = q'
  rotate_left
  · have Hr : Hid (sameF ⟨t, s, b, q, a, l⟩ ⟨t, s, b, q', a', l'⟩ = false) := Lib.hid (by simp [sameF, e3])
    go_enter Try.func59, Try.ntmps59
    go_wp2
    go_ret
    exact samePost Hr.out hN
  subst e3
  by_cases e4 : a = a'
  rotate_left
  · have Hr : Hid (sameF ⟨t, s, b, q, a, l⟩ ⟨t, s, b, q, a', l'⟩ = false) := Lib.hid (by simp [sameF, e4])
    go_enter Try.func59, Try.ntmps59
    go_wp2
    go_ret
    exact samePost Hr.out hN
  subst e4
  have Hr : Hid (sameF ⟨t, s, b, q, a, l⟩ ⟨t, s, b, q, a, l'⟩ = decide (l = l')) := Lib.hid (by simp [sameF])
  go_enter Try.func59, Try.ntmps59
  go_wp2_with fail
  refine (same_any _ _ _ _ _ (h1.new_ hN) (h2.new_ hN)).mono ?_
  rintro e w2 ⟨rfl, rfl⟩
  go_wp2
  go_ret
  exact samePost Hr.out hN

/-- A Syn of session 7. -/
def synF : Frm := ⟨1, 7, 0, 0, 0, []⟩
def synHead : List UInt8 := [83, 75, 1, 1, 0, 0, 0, 7, 0, 0, 0, 0, 0, 0, 0, 0, 0, 0, 0, 0, 0, 0]
set_option maxRecDepth 100000 in
set_option maxHeartbeats 400000 in
theorem syn_any (w : World) : Calls Try.prog 62 #[] w fun e w' => e = .returned (fv synF (.slice none 0 0)) ∧ New w w' := by
  go_enter Try.func62, Try.ntmps62
  go_wp2
  exact bodyPost_ret (v := fv synF (.slice none 0 0)) (by simp [results, Try.results62, go_sem, synF]) rfl ⟨rfl, New.alloc _ _⟩
set_option maxRecDepth 100000 in
set_option maxHeartbeats 400000 in
theorem laid_any (w : World) : Calls Try.prog 92 #[] w fun e w' => ∃ v, e = .returned v ∧ OwnB w' w.heap.size v synHead ∧ New w w' := by
  go_enter Try.func92, Try.ntmps92
  go_wp2
  go_ret
  refine ⟨_, rfl, ?_, New.alloc _ _⟩
  exact OwnP.made (Nat.le_refl _) rfl rfl (Nat.le_refl _) (by decide) (by decide) (fun x hx => isB_map synHead x hx)
end Go.Proofs.Ytkfcdfcoiglieaa
