/- guard.Put and guard.Check return what the chapter says; nothing that was there turns. Conditions: the slice reads as bytes; its length fits. -/
import Derived.Test.YtkfcdfcoiglieaaMore
import Derived.Test.YtkfcdfcoiglieaaSlib
namespace Go.Proofs.Ytkfcdfcoiglieaa
open Go.RowKit

def le4 (n : BitVec 32) : List UInt8 := [UInt8.ofNat n.toNat, UInt8.ofNat (n.toNat / 256), UInt8.ofNat (n.toNat / 65536), UInt8.ofNat (n.toNat / 16777216)]
/-- Bytes, guarded. -/
def putL (l : List UInt8) : List UInt8 := l ++ le4 (Crc.sumOf l)
theorem length_putL (l : List UInt8) : (putL l).length = l.length + 4 := by simp [putL, le4]

/-- The sum's four bytes, as a block. -/
theorem rd_le4 (w : World) (n : BitVec 32) : Rd (w.alloc (.cells #[Value.int IntKind.u8 ((n.toNat : Int) % 256), Value.int IntKind.u8 ((n.toNat : Int) / 256 % 256), Value.int IntKind.u8 ((n.toNat : Int) / 65536 % 256), Value.int IntKind.u8 ((n.toNat : Int) / 16777216)] 5)) (.slice (some ⟨w.heap.size, 0, none⟩) 4 4) ((le4 n).map bv) := by
  have hnn := n.isLt
  refine Rd.ofBk (xs := (le4 n).map bv) (Bk.ofNew w 5 _) (fun i x hx => ?_) (by simp [le4]) (by simp [maxLen])
  rw [← hx]
  match i with
  | 0 | 1 | 2 | 3 => simp [le4] <;> omega
  | i + 4 => simp [le4]

set_option maxRecDepth 100000 in
set_option maxHeartbeats 400000 in
theorem put_any (v : Value) (l : List UInt8) (w : World) (h : RB w v l) (hl : l.length ≤ 1000000000) :
    Calls Try.prog 27 #[v] w fun e w' => ∃ v', e = .returned v' ∧ OwnB w' w.heap.size v' (putL l) ∧ New w w' := by
  obtain ⟨A, c, rfl, hl1, hc1⟩ := h.shape
  have hs := sum_any (.slice A l.length c) l
  have Hs := Lib.hid hs; clear hs
  generalize hcs : Crc.sumOf l = n at Hs
  have Hcs := Lib.hid hcs; clear hcs
  go_enter Try.func27, Try.ntmps27
  go_wp2_with (go_at_call 28; refine (Hs.out _ h).mono ?_; rintro e w1 ⟨rfl, hn1⟩)
  have hnn := n.isLt
  have hr4 := rd_le4 w1 n
  have hN1 := New.alloc w1 (.cells #[Value.int IntKind.u8 ((n.toNat : Int) % 256), Value.int IntKind.u8 ((n.toNat : Int) / 256 % 256), Value.int IntKind.u8 ((n.toNat : Int) / 65536 % 256), Value.int IntKind.u8 ((n.toNat : Int) / 16777216)] 5)
  have hsz : (w1.alloc (.cells #[Value.int IntKind.u8 ((n.toNat : Int) % 256), Value.int IntKind.u8 ((n.toNat : Int) / 256 % 256), Value.int IntKind.u8 ((n.toNat : Int) / 65536 % 256), Value.int IntKind.u8 ((n.toNat : Int) / 16777216)] 5)).heap.size = w1.heap.size + 1 := World.size_alloc _ _
  generalize w1.alloc (.cells #[Value.int IntKind.u8 ((n.toNat : Int) % 256), Value.int IntKind.u8 ((n.toNat : Int) / 256 % 256), Value.int IntKind.u8 ((n.toNat : Int) / 65536 % 256), Value.int IntKind.u8 ((n.toNat : Int) / 16777216)] 5) = w2 at *
  have hB2 := Bk.ofNew w2 22 #[.slice A l.length c, .slice (some ⟨w1.heap.size, 0, none⟩) 4 4]
  rw [hsz] at hB2
  have hN2 := New.alloc w2 (.cells #[.slice A l.length c, .slice (some ⟨w1.heap.size, 0, none⟩) 4 4] 22)
  have hrs : RBs (w2.alloc (.cells #[.slice A l.length c, .slice (some ⟨w1.heap.size, 0, none⟩) 4 4] 22)) (.slice (some ⟨w1.heap.size + 1, 0, none⟩) 2 2) [l, le4 n] := by
    refine ⟨_, 2, rfl, by simp, by simp [maxLen], fun _ => ⟨_, 0, rfl, fun i l' hl' => ?_⟩⟩
    match i, hl' with
    | 0, hl' => injection hl' with hl'; subst hl'; exact ⟨_, hB2.cellAt rfl, (h.new_ (hn1.trans hN1)).new_ hN2⟩
    | 1, hl' => injection hl' with hl'; subst hl'; exact ⟨_, hB2.cellAt rfl, Rd.new_ hr4 hN2⟩
    | i + 2, hl' => simp at hl'
  refine (concat_any _ [l, le4 n] _ hrs (by simp [totalLen, le4]; omega)).mono ?_
  rintro e w3 ⟨v', rfl, hown, hn3⟩
  go_wp2
  go_ret
  refine ⟨v', rfl, ?_, ((hn1.trans hN1).trans hN2).trans hn3⟩
  have he : [l, le4 n].flatten = putL l := by simp [putL, Hcs.out]
  rw [he] at hown
  exact hown.mono ((hn1.trans hN1).trans hN2).size

/-- What guarded bytes guard. -/
def checkL (l : List UInt8) : Option (List UInt8) := if 4 ≤ l.length ∧ putL (l.take (l.length - 4)) = l then some (l.take (l.length - 4)) else none
def errOf {α : Type} (o : Option α) (bad : Int) : Int := if o.isSome then 0 else bad
def CheckPost (w : World) (l : List UInt8) (e : Ending) (w' : World) : Prop :=
  ∃ v', e = .returned (.tuple #[v', .int .i64 (errOf (checkL l) 4)]) ∧ OwnB w' w.heap.size v' ((checkL l).getD []) ∧ New w w'
theorem checkPost_none {w w' : World} {l : List UInt8} (h : checkL l = none) (hn : New w w') : CheckPost w l (.returned (.tuple #[.slice none 0 0, .int .i64 4])) w' :=
  ⟨_, by rw [h]; rfl, by rw [h]; exact OwnB.nil _ _, hn⟩
theorem checkPost_some {w w' : World} {l d : List UInt8} {v' : Value} (h : checkL l = some d) (ho : OwnB w' w.heap.size v' d) (hn : New w w') : CheckPost w l (.returned (.tuple #[v', .int .i64 0])) w' :=
  ⟨_, by rw [h]; rfl, by rw [h]; exact ho, hn⟩

set_option maxRecDepth 100000 in
set_option maxHeartbeats 400000 in
theorem check_any (v : Value) (l : List UInt8) (w : World) (h : RB w v l) (hl : l.length ≤ 1000000000) :
    Calls Try.prog 35 #[v] w (CheckPost w l) := by
  obtain ⟨A, c, rfl, hl1, hc1⟩ := h.shape
  by_cases h4 : 4 ≤ l.length
  · have hd : checkL l = if putL (l.take (l.length - 4)) = l then some (l.take (l.length - 4)) else none := by unfold checkL; simp [h4]
    have Hd := Lib.hid hd
    have hrk := h.take (l.length - 4) (by omega)
    have hlk : (l.take (l.length - 4)).length = l.length - 4 := by simp
    have Hlk := Lib.hid hlk
    have hput := put_any (.slice A (l.length - 4) c) (l.take (l.length - 4)) w hrk (by simp; omega)
    have Hput := Lib.hid hput
    have hle : (l.take (l.length - 4)).length ≤ 1073741824 := by simp; omega
    clear hd hput hlk
    go_enter Try.func35, Try.ntmps35
    go_wp2_with fail
    refine Hput.out.mono ?_
    rintro e w1 ⟨v1, rfl, hown1, hn1⟩
    have hr1 : RB w1 v1 (putL (l.take (l.length - 4))) := hown1.rb
    have hr2 := h.new_ hn1
    go_wp2_with fail
    refine (equal_any _ _ _ _ _ hr1 hr2).mono ?_
    rintro e w2 ⟨rfl, hn2⟩
    have hn := hn1.trans hn2
    by_cases heq : putL (l.take (l.length - 4)) = l
    · have hdec : decide (putL (l.take (l.length - 4)) = l) = true := decide_eq_true heq
      have Heq := Lib.hid heq; clear heq
      go_wp2_with fail
      refine (clone_any _ (l.take (l.length - 4)) _ (hrk.new_ hn) hle).mono ?_
      rintro e w3 ⟨v3, rfl, hown3, hn3⟩
      go_wp2_with fail
      go_ret2
      exact checkPost_some (by rw [Hd.out, if_pos Heq.out]) (hown3.mono hn.size) (hn.trans hn3)
    · have hdec : decide (putL (l.take (l.length - 4)) = l) = false := decide_eq_false heq
      have Heq := Lib.hid heq; clear heq
      go_wp2_with fail
      go_ret2
      exact checkPost_none (by rw [Hd.out, if_neg Heq.out]) hn
  · have hd : checkL l = none := by unfold checkL; rw [if_neg (fun h => h4 h.1)]
    have Hd := Lib.hid hd; clear hd
    have hlt : l.length < 4 := by omega
    clear h4
    go_enter Try.func35, Try.ntmps35
    go_wp2_with fail
    go_ret2
    exact checkPost_none Hd.out (New.refl _)
end Go.Proofs.Ytkfcdfcoiglieaa
