/- The chapter 'frame' in plain Lean: what a frame has, its bytes, and what bytes are read as. No condition. -/
import Derived.Test.YtkfcdfcoiglieaaBurst
namespace Go.Proofs.Ytkfcdfcoiglieaa

/-- A frame. -/
structure Frm where
  typ : Int
  ses : Int
  boot : Int
  seq : Int
  ack : Int
  body : List UInt8
def Frm.zero : Frm := ⟨0, 0, 0, 0, 0, []⟩
def inId (n : Int) : Bool := decide (0 ≤ n) && decide (n ≤ 2147483647)
def knownB (t : Int) : Bool := decide (1 ≤ t ∧ t ≤ 5)
/-- Is a frame as its type says? -/
def asF (f : Frm) : Bool :=
  decide (1 ≤ f.ses) &&
  (if f.typ = 1 then decide (f.boot = 0) && decide (f.seq ≤ 0) && decide (f.ack = 0) && decide (f.body.length = 0)
   else if f.typ = 2 then decide (1 ≤ f.boot) && decide (f.seq ≤ 0) && decide (f.ack = 0) && decide (f.body.length = 0)
   else if f.typ = 3 then decide (1 ≤ f.boot) && decide (0 < f.seq)
   else if f.typ = 4 then decide (1 ≤ f.boot) && decide (f.seq ≤ 0) && decide (f.body.length = 0)
   else decide (f.seq ≤ 0) && decide (f.ack = 0) && decide (f.body.length = 0))
/-- What is wrong with a frame. -/
def checkF (f : Frm) : Int :=
  if ¬ (1 ≤ f.typ ∧ f.typ ≤ 5) then 213
  else if inId f.ses = false then 5
  else if inId f.boot = false then 5
  else if inId f.seq = false then 5
  else if inId f.ack = false then 5
  else if 1400 < f.body.length then 3
  else if asF f = false then 2
  else 0
end Go.Proofs.Ytkfcdfcoiglieaa
