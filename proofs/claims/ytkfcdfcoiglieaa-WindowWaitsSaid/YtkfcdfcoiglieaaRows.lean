/-
  No cell of these rows narrows 'for every input' (looked for: loops, veiled, ifaces, maps, wideKeys, modest, calm, conditions, laid).
  DERIVED. THE GIVEN ROWS OF THIS SEAT. 22 by the template 'for every input the law returns true; each argument reads behind the call as it read before'; 0 by the template 'total and deterministic' (their statements: YtkfcdfcoiglieaaTotals.lean).
  GIVEN WITH THE SEED: the statements are not yours to turn. If you find one false, say at which input.
  Laid BY PROGRAM, IN A SANDBOX (cutbox-rows.mjs): the forced cells as the released guide's own fill.sh prints them over the translation cce1b644b8e5a032… (all of the seat's roots in one cut). By AI agents, Wed Nov 11 2026. No macro, syntax, notation, axiom, sorry.
-/
import Derived.Test.YtkfcdfcoiglieaaChecked
import GoSem.Claim
import GoSem.ClaimJoined
import GoSem.ClaimMapViews
import Derived.JoinedTies
import Derived.KernelRfl
namespace Go.Proofs.Ytkfcdfcoiglieaa
/- THE CELL 'sum', in the pinned program and in every row, IS THE sha256 OF THE DUMP (.gsa) THAT YtkfcdfcoiglieaaProg.lean LOADS. Nothing in Lean hashes anything: it is a label: what it is worth is what the hold of that sum in a sandbox is worth. -/
noncomputable def Try.pinned : Pinned := { name := "ytkfcdfcoiglieaa", sum := "cce1b644b8e5a032aad37fc80806fc2167b593e10daa6e454c644f872b2e7556", checked := Try.checked }
namespace Rows
def none {H : Type} : Left H := { results := [], args := [] }

/-- 'satchellaw04.GuardSums': WHATEVER THE INPUT: true; the input reads as it did. -/
def guardSumsSpec : ChangeSpec := { name := "guardSums", fn := fun _ => fun
  | [d1, d2] => { results := [.lit (.bool true)], args := [d1, d2] }
  | _ => none }
def guardSumsRow : OpenClaim := { program := "ytkfcdfcoiglieaa", sum := "cce1b644b8e5a032aad37fc80806fc2167b593e10daa6e454c644f872b2e7556", func := "satchel/satchellaw04.GuardSums", spec := "guardSums", apart := false }
def GuardSumsSaid : Prop := guardSumsRow.holds Try.pinned (OpenSpec.ofChange guardSumsSpec)

/-- ITS FALSE NEIGHBOUR: 'it returns false'. Refute it at one input. -/
def guardSumsWrong : ChangeSpec := { name := "guardSums", fn := fun _ => fun
  | [d1, d2] => { results := [.lit (.bool false)], args := [d1, d2] }
  | _ => none }
def GuardSumsWrongFalsely : Prop := guardSumsRow.holds Try.pinned (OpenSpec.ofChange guardSumsWrong)

/-- 'satchellaw04.GuardChecks': WHATEVER THE INPUT: true; the input reads as it did. -/
def guardChecksSpec : ChangeSpec := { name := "guardChecks", fn := fun _ => fun
  | [d] => { results := [.lit (.bool true)], args := [d] }
  | _ => none }
def guardChecksRow : OpenClaim := { program := "ytkfcdfcoiglieaa", sum := "cce1b644b8e5a032aad37fc80806fc2167b593e10daa6e454c644f872b2e7556", func := "satchel/satchellaw04.GuardChecks", spec := "guardChecks", apart := false }
def GuardChecksSaid : Prop := guardChecksRow.holds Try.pinned (OpenSpec.ofChange guardChecksSpec)

/-- ITS FALSE NEIGHBOUR: 'it returns false'. Refute it at one input. -/
def guardChecksWrong : ChangeSpec := { name := "guardChecks", fn := fun _ => fun
  | [d] => { results := [.lit (.bool false)], args := [d] }
  | _ => none }
def GuardChecksWrongFalsely : Prop := guardChecksRow.holds Try.pinned (OpenSpec.ofChange guardChecksWrong)

/-- 'satchellaw04.GuardKnown': WHATEVER THE INPUT: true; the input reads as it did. -/
def guardKnownSpec : ChangeSpec := { name := "guardKnown", fn := fun _ => fun
  | [] => { results := [.lit (.bool true)], args := [] }
  | _ => none }
def guardKnownRow : OpenClaim := { program := "ytkfcdfcoiglieaa", sum := "cce1b644b8e5a032aad37fc80806fc2167b593e10daa6e454c644f872b2e7556", func := "satchel/satchellaw04.GuardKnown", spec := "guardKnown", apart := false }
def GuardKnownSaid : Prop := guardKnownRow.holds Try.pinned (OpenSpec.ofChange guardKnownSpec)

/-- ITS FALSE NEIGHBOUR: 'it returns false'. Refute it at one input. -/
def guardKnownWrong : ChangeSpec := { name := "guardKnown", fn := fun _ => fun
  | [] => { results := [.lit (.bool false)], args := [] }
  | _ => none }
def GuardKnownWrongFalsely : Prop := guardKnownRow.holds Try.pinned (OpenSpec.ofChange guardKnownWrong)

/-- 'satchellaw04.GuardBursts': WHATEVER THE INPUT: true; the input reads as it did. -/
def guardBurstsSpec : ChangeSpec := { name := "guardBursts", fn := fun _ => fun
  | [d1, d2, d3] => { results := [.lit (.bool true)], args := [d1, d2, d3] }
  | _ => none }
def guardBurstsRow : OpenClaim := { program := "ytkfcdfcoiglieaa", sum := "cce1b644b8e5a032aad37fc80806fc2167b593e10daa6e454c644f872b2e7556", func := "satchel/satchellaw04.GuardBursts", spec := "guardBursts", apart := false }
def GuardBurstsSaid : Prop := guardBurstsRow.holds Try.pinned (OpenSpec.ofChange guardBurstsSpec)

/-- ITS FALSE NEIGHBOUR: 'it returns false'. Refute it at one input. -/
def guardBurstsWrong : ChangeSpec := { name := "guardBursts", fn := fun _ => fun
  | [d1, d2, d3] => { results := [.lit (.bool false)], args := [d1, d2, d3] }
  | _ => none }
def GuardBurstsWrongFalsely : Prop := guardBurstsRow.holds Try.pinned (OpenSpec.ofChange guardBurstsWrong)

/-- 'satchellaw04.GuardPieces': WHATEVER THE INPUT: true; the input reads as it did. -/
def guardPiecesSpec : ChangeSpec := { name := "guardPieces", fn := fun _ => fun
  | [d1, d2, d3] => { results := [.lit (.bool true)], args := [d1, d2, d3] }
  | _ => none }
def guardPiecesRow : OpenClaim := { program := "ytkfcdfcoiglieaa", sum := "cce1b644b8e5a032aad37fc80806fc2167b593e10daa6e454c644f872b2e7556", func := "satchel/satchellaw04.GuardPieces", spec := "guardPieces", apart := false }
def GuardPiecesSaid : Prop := guardPiecesRow.holds Try.pinned (OpenSpec.ofChange guardPiecesSpec)

/-- ITS FALSE NEIGHBOUR: 'it returns false'. Refute it at one input. -/
def guardPiecesWrong : ChangeSpec := { name := "guardPieces", fn := fun _ => fun
  | [d1, d2, d3] => { results := [.lit (.bool false)], args := [d1, d2, d3] }
  | _ => none }
def GuardPiecesWrongFalsely : Prop := guardPiecesRow.holds Try.pinned (OpenSpec.ofChange guardPiecesWrong)

/-- 'satchellaw15.LinkBoots': WHATEVER THE INPUT: true; the input reads as it did. -/
def linkBootsSpec : ChangeSpec := { name := "linkBoots", fn := fun _ => fun
  | [d1, d2, d3] => { results := [.lit (.bool true)], args := [d1, d2, d3] }
  | _ => none }
def linkBootsRow : OpenClaim := { program := "ytkfcdfcoiglieaa", sum := "cce1b644b8e5a032aad37fc80806fc2167b593e10daa6e454c644f872b2e7556", func := "satchel/satchellaw15.LinkBoots", spec := "linkBoots", unfollowed := true, recurses := true, apart := false }
def LinkBootsSaid : Prop := linkBootsRow.holds Try.pinned (OpenSpec.ofChange linkBootsSpec)

/-- ITS FALSE NEIGHBOUR: 'it returns false'. Refute it at one input. -/
def linkBootsWrong : ChangeSpec := { name := "linkBoots", fn := fun _ => fun
  | [d1, d2, d3] => { results := [.lit (.bool false)], args := [d1, d2, d3] }
  | _ => none }
def LinkBootsWrongFalsely : Prop := linkBootsRow.holds Try.pinned (OpenSpec.ofChange linkBootsWrong)

/-- 'satchellaw04.GuardLong': WHATEVER THE INPUT: true; the input reads as it did. -/
def guardLongSpec : ChangeSpec := { name := "guardLong", fn := fun _ => fun
  | [d1, d2, d3] => { results := [.lit (.bool true)], args := [d1, d2, d3] }
  | _ => none }
def guardLongRow : OpenClaim := { program := "ytkfcdfcoiglieaa", sum := "cce1b644b8e5a032aad37fc80806fc2167b593e10daa6e454c644f872b2e7556", func := "satchel/satchellaw04.GuardLong", spec := "guardLong", apart := false }
def GuardLongSaid : Prop := guardLongRow.holds Try.pinned (OpenSpec.ofChange guardLongSpec)

/-- ITS FALSE NEIGHBOUR: 'it returns false'. Refute it at one input. -/
def guardLongWrong : ChangeSpec := { name := "guardLong", fn := fun _ => fun
  | [d1, d2, d3] => { results := [.lit (.bool false)], args := [d1, d2, d3] }
  | _ => none }
def GuardLongWrongFalsely : Prop := guardLongRow.holds Try.pinned (OpenSpec.ofChange guardLongWrong)

/-- 'satchellaw15.LinkKnown': WHATEVER THE INPUT: true; the input reads as it did. -/
def linkKnownSpec : ChangeSpec := { name := "linkKnown", fn := fun _ => fun
  | [] => { results := [.lit (.bool true)], args := [] }
  | _ => none }
def linkKnownRow : OpenClaim := { program := "ytkfcdfcoiglieaa", sum := "cce1b644b8e5a032aad37fc80806fc2167b593e10daa6e454c644f872b2e7556", func := "satchel/satchellaw15.LinkKnown", spec := "linkKnown", unfollowed := true, recurses := true, apart := false }
def LinkKnownSaid : Prop := linkKnownRow.holds Try.pinned (OpenSpec.ofChange linkKnownSpec)

/-- ITS FALSE NEIGHBOUR: 'it returns false'. Refute it at one input. -/
def linkKnownWrong : ChangeSpec := { name := "linkKnown", fn := fun _ => fun
  | [] => { results := [.lit (.bool false)], args := [] }
  | _ => none }
def LinkKnownWrongFalsely : Prop := linkKnownRow.holds Try.pinned (OpenSpec.ofChange linkKnownWrong)

/-- 'satchellaw11.FramePuts': WHATEVER THE INPUT: true; the input reads as it did. -/
def framePutsSpec : ChangeSpec := { name := "framePuts", fn := fun _ => fun
  | [d] => { results := [.lit (.bool true)], args := [d] }
  | _ => none }
def framePutsRow : OpenClaim := { program := "ytkfcdfcoiglieaa", sum := "cce1b644b8e5a032aad37fc80806fc2167b593e10daa6e454c644f872b2e7556", func := "satchel/satchellaw11.FramePuts", spec := "framePuts", unfollowed := true, recurses := true, apart := false }
def FramePutsSaid : Prop := framePutsRow.holds Try.pinned (OpenSpec.ofChange framePutsSpec)

/-- ITS FALSE NEIGHBOUR: 'it returns false'. Refute it at one input. -/
def framePutsWrong : ChangeSpec := { name := "framePuts", fn := fun _ => fun
  | [d] => { results := [.lit (.bool false)], args := [d] }
  | _ => none }
def FramePutsWrongFalsely : Prop := framePutsRow.holds Try.pinned (OpenSpec.ofChange framePutsWrong)

/-- 'satchellaw11.FrameReads': WHATEVER THE INPUT: true; the input reads as it did. -/
def frameReadsSpec : ChangeSpec := { name := "frameReads", fn := fun _ => fun
  | [d] => { results := [.lit (.bool true)], args := [d] }
  | _ => none }
def frameReadsRow : OpenClaim := { program := "ytkfcdfcoiglieaa", sum := "cce1b644b8e5a032aad37fc80806fc2167b593e10daa6e454c644f872b2e7556", func := "satchel/satchellaw11.FrameReads", spec := "frameReads", unfollowed := true, recurses := true, apart := false }
def FrameReadsSaid : Prop := frameReadsRow.holds Try.pinned (OpenSpec.ofChange frameReadsSpec)

/-- ITS FALSE NEIGHBOUR: 'it returns false'. Refute it at one input. -/
def frameReadsWrong : ChangeSpec := { name := "frameReads", fn := fun _ => fun
  | [d] => { results := [.lit (.bool false)], args := [d] }
  | _ => none }
def FrameReadsWrongFalsely : Prop := frameReadsRow.holds Try.pinned (OpenSpec.ofChange frameReadsWrong)

/-- 'satchellaw11.FrameGuarded': WHATEVER THE INPUT: true; the input reads as it did. -/
def frameGuardedSpec : ChangeSpec := { name := "frameGuarded", fn := fun _ => fun
  | [d1, d2, d3, d4] => { results := [.lit (.bool true)], args := [d1, d2, d3, d4] }
  | _ => none }
def frameGuardedRow : OpenClaim := { program := "ytkfcdfcoiglieaa", sum := "cce1b644b8e5a032aad37fc80806fc2167b593e10daa6e454c644f872b2e7556", func := "satchel/satchellaw11.FrameGuarded", spec := "frameGuarded", unfollowed := true, recurses := true, apart := false }
def FrameGuardedSaid : Prop := frameGuardedRow.holds Try.pinned (OpenSpec.ofChange frameGuardedSpec)

/-- ITS FALSE NEIGHBOUR: 'it returns false'. Refute it at one input. -/
def frameGuardedWrong : ChangeSpec := { name := "frameGuarded", fn := fun _ => fun
  | [d1, d2, d3, d4] => { results := [.lit (.bool false)], args := [d1, d2, d3, d4] }
  | _ => none }
def FrameGuardedWrongFalsely : Prop := frameGuardedRow.holds Try.pinned (OpenSpec.ofChange frameGuardedWrong)

/-- 'satchellaw11.FrameBack': WHATEVER THE INPUT: true; the input reads as it did. -/
def frameBackSpec : ChangeSpec := { name := "frameBack", fn := fun _ => fun
  | [d1, d2] => { results := [.lit (.bool true)], args := [d1, d2] }
  | _ => none }
def frameBackRow : OpenClaim := { program := "ytkfcdfcoiglieaa", sum := "cce1b644b8e5a032aad37fc80806fc2167b593e10daa6e454c644f872b2e7556", func := "satchel/satchellaw11.FrameBack", spec := "frameBack", unfollowed := true, recurses := true, apart := false }
def FrameBackSaid : Prop := frameBackRow.holds Try.pinned (OpenSpec.ofChange frameBackSpec)

/-- ITS FALSE NEIGHBOUR: 'it returns false'. Refute it at one input. -/
def frameBackWrong : ChangeSpec := { name := "frameBack", fn := fun _ => fun
  | [d1, d2] => { results := [.lit (.bool false)], args := [d1, d2] }
  | _ => none }
def FrameBackWrongFalsely : Prop := frameBackRow.holds Try.pinned (OpenSpec.ofChange frameBackWrong)

/-- 'satchellaw11.FrameTurned': WHATEVER THE INPUT: true; the input reads as it did. -/
def frameTurnedSpec : ChangeSpec := { name := "frameTurned", fn := fun _ => fun
  | [d1, d2, d3] => { results := [.lit (.bool true)], args := [d1, d2, d3] }
  | _ => none }
def frameTurnedRow : OpenClaim := { program := "ytkfcdfcoiglieaa", sum := "cce1b644b8e5a032aad37fc80806fc2167b593e10daa6e454c644f872b2e7556", func := "satchel/satchellaw11.FrameTurned", spec := "frameTurned", unfollowed := true, recurses := true, apart := false }
def FrameTurnedSaid : Prop := frameTurnedRow.holds Try.pinned (OpenSpec.ofChange frameTurnedSpec)

/-- ITS FALSE NEIGHBOUR: 'it returns false'. Refute it at one input. -/
def frameTurnedWrong : ChangeSpec := { name := "frameTurned", fn := fun _ => fun
  | [d1, d2, d3] => { results := [.lit (.bool false)], args := [d1, d2, d3] }
  | _ => none }
def FrameTurnedWrongFalsely : Prop := frameTurnedRow.holds Try.pinned (OpenSpec.ofChange frameTurnedWrong)

/-- 'satchellaw11.FrameTypes': WHATEVER THE INPUT: true; the input reads as it did. -/
def frameTypesSpec : ChangeSpec := { name := "frameTypes", fn := fun _ => fun
  | [d1, d2] => { results := [.lit (.bool true)], args := [d1, d2] }
  | _ => none }
def frameTypesRow : OpenClaim := { program := "ytkfcdfcoiglieaa", sum := "cce1b644b8e5a032aad37fc80806fc2167b593e10daa6e454c644f872b2e7556", func := "satchel/satchellaw11.FrameTypes", spec := "frameTypes", unfollowed := true, recurses := true, apart := false }
def FrameTypesSaid : Prop := frameTypesRow.holds Try.pinned (OpenSpec.ofChange frameTypesSpec)

/-- ITS FALSE NEIGHBOUR: 'it returns false'. Refute it at one input. -/
def frameTypesWrong : ChangeSpec := { name := "frameTypes", fn := fun _ => fun
  | [d1, d2] => { results := [.lit (.bool false)], args := [d1, d2] }
  | _ => none }
def FrameTypesWrongFalsely : Prop := frameTypesRow.holds Try.pinned (OpenSpec.ofChange frameTypesWrong)

/-- 'satchellaw11.FrameKnown': WHATEVER THE INPUT: true; the input reads as it did. -/
def frameKnownSpec : ChangeSpec := { name := "frameKnown", fn := fun _ => fun
  | [] => { results := [.lit (.bool true)], args := [] }
  | _ => none }
def frameKnownRow : OpenClaim := { program := "ytkfcdfcoiglieaa", sum := "cce1b644b8e5a032aad37fc80806fc2167b593e10daa6e454c644f872b2e7556", func := "satchel/satchellaw11.FrameKnown", spec := "frameKnown", unfollowed := true, recurses := true, apart := false }
def FrameKnownSaid : Prop := frameKnownRow.holds Try.pinned (OpenSpec.ofChange frameKnownSpec)

/-- ITS FALSE NEIGHBOUR: 'it returns false'. Refute it at one input. -/
def frameKnownWrong : ChangeSpec := { name := "frameKnown", fn := fun _ => fun
  | [] => { results := [.lit (.bool false)], args := [] }
  | _ => none }
def FrameKnownWrongFalsely : Prop := frameKnownRow.holds Try.pinned (OpenSpec.ofChange frameKnownWrong)

/-- 'satchellaw13.WindowWaits': WHATEVER THE INPUT: true; the input reads as it did. -/
def windowWaitsSpec : ChangeSpec := { name := "windowWaits", fn := fun _ => fun
  | [d1, d2, d3, d4, d5] => { results := [.lit (.bool true)], args := [d1, d2, d3, d4, d5] }
  | _ => none }
def windowWaitsRow : OpenClaim := { program := "ytkfcdfcoiglieaa", sum := "cce1b644b8e5a032aad37fc80806fc2167b593e10daa6e454c644f872b2e7556", func := "satchel/satchellaw13.WindowWaits", spec := "windowWaits", inPlace := ["math.archCeil", "math.archFloor", "math.Float64bits", "math.Float64frombits", "math.archTrunc"], unfollowed := true, recurses := true, apart := false }
def WindowWaitsSaid : Prop := windowWaitsRow.holds Try.pinned (OpenSpec.ofChange windowWaitsSpec)

/-- ITS FALSE NEIGHBOUR: 'it returns false'. Refute it at one input. -/
def windowWaitsWrong : ChangeSpec := { name := "windowWaits", fn := fun _ => fun
  | [d1, d2, d3, d4, d5] => { results := [.lit (.bool false)], args := [d1, d2, d3, d4, d5] }
  | _ => none }
def WindowWaitsWrongFalsely : Prop := windowWaitsRow.holds Try.pinned (OpenSpec.ofChange windowWaitsWrong)

/-- 'satchellaw13.WindowBound': WHATEVER THE INPUT: true; the input reads as it did. -/
def windowBoundSpec : ChangeSpec := { name := "windowBound", fn := fun _ => fun
  | [d1, d2] => { results := [.lit (.bool true)], args := [d1, d2] }
  | _ => none }
def windowBoundRow : OpenClaim := { program := "ytkfcdfcoiglieaa", sum := "cce1b644b8e5a032aad37fc80806fc2167b593e10daa6e454c644f872b2e7556", func := "satchel/satchellaw13.WindowBound", spec := "windowBound", inPlace := ["math.archCeil", "math.archFloor", "math.Float64bits", "math.Float64frombits", "math.archTrunc"], unfollowed := true, recurses := true, apart := false }
def WindowBoundSaid : Prop := windowBoundRow.holds Try.pinned (OpenSpec.ofChange windowBoundSpec)

/-- ITS FALSE NEIGHBOUR: 'it returns false'. Refute it at one input. -/
def windowBoundWrong : ChangeSpec := { name := "windowBound", fn := fun _ => fun
  | [d1, d2] => { results := [.lit (.bool false)], args := [d1, d2] }
  | _ => none }
def WindowBoundWrongFalsely : Prop := windowBoundRow.holds Try.pinned (OpenSpec.ofChange windowBoundWrong)

/-- 'satchellaw13.WindowWhen': WHATEVER THE INPUT: true; the input reads as it did. -/
def windowWhenSpec : ChangeSpec := { name := "windowWhen", fn := fun _ => fun
  | [d1, d2] => { results := [.lit (.bool true)], args := [d1, d2] }
  | _ => none }
def windowWhenRow : OpenClaim := { program := "ytkfcdfcoiglieaa", sum := "cce1b644b8e5a032aad37fc80806fc2167b593e10daa6e454c644f872b2e7556", func := "satchel/satchellaw13.WindowWhen", spec := "windowWhen", inPlace := ["math.archCeil", "math.archFloor", "math.Float64bits", "math.Float64frombits", "math.archTrunc"], unfollowed := true, recurses := true, apart := false }
def WindowWhenSaid : Prop := windowWhenRow.holds Try.pinned (OpenSpec.ofChange windowWhenSpec)

/-- ITS FALSE NEIGHBOUR: 'it returns false'. Refute it at one input. -/
def windowWhenWrong : ChangeSpec := { name := "windowWhen", fn := fun _ => fun
  | [d1, d2] => { results := [.lit (.bool false)], args := [d1, d2] }
  | _ => none }
def WindowWhenWrongFalsely : Prop := windowWhenRow.holds Try.pinned (OpenSpec.ofChange windowWhenWrong)

/-- 'satchellaw13.WindowKnown': WHATEVER THE INPUT: true; the input reads as it did. -/
def windowKnownSpec : ChangeSpec := { name := "windowKnown", fn := fun _ => fun
  | [] => { results := [.lit (.bool true)], args := [] }
  | _ => none }
def windowKnownRow : OpenClaim := { program := "ytkfcdfcoiglieaa", sum := "cce1b644b8e5a032aad37fc80806fc2167b593e10daa6e454c644f872b2e7556", func := "satchel/satchellaw13.WindowKnown", spec := "windowKnown", inPlace := ["math.archCeil", "math.archFloor", "math.Float64bits", "math.Float64frombits", "math.archTrunc"], unfollowed := true, recurses := true, apart := false }
def WindowKnownSaid : Prop := windowKnownRow.holds Try.pinned (OpenSpec.ofChange windowKnownSpec)

/-- ITS FALSE NEIGHBOUR: 'it returns false'. Refute it at one input. -/
def windowKnownWrong : ChangeSpec := { name := "windowKnown", fn := fun _ => fun
  | [] => { results := [.lit (.bool false)], args := [] }
  | _ => none }
def WindowKnownWrongFalsely : Prop := windowKnownRow.holds Try.pinned (OpenSpec.ofChange windowKnownWrong)

/-- 'satchellaw13.WindowNone': WHATEVER THE INPUT: true; the input reads as it did. -/
def windowNoneSpec : ChangeSpec := { name := "windowNone", fn := fun _ => fun
  | [d] => { results := [.lit (.bool true)], args := [d] }
  | _ => none }
def windowNoneRow : OpenClaim := { program := "ytkfcdfcoiglieaa", sum := "cce1b644b8e5a032aad37fc80806fc2167b593e10daa6e454c644f872b2e7556", func := "satchel/satchellaw13.WindowNone", spec := "windowNone", inPlace := ["math.archCeil", "math.archFloor", "math.Float64bits", "math.Float64frombits", "math.archTrunc"], unfollowed := true, recurses := true, apart := false }
def WindowNoneSaid : Prop := windowNoneRow.holds Try.pinned (OpenSpec.ofChange windowNoneSpec)

/-- ITS FALSE NEIGHBOUR: 'it returns false'. Refute it at one input. -/
def windowNoneWrong : ChangeSpec := { name := "windowNone", fn := fun _ => fun
  | [d] => { results := [.lit (.bool false)], args := [d] }
  | _ => none }
def WindowNoneWrongFalsely : Prop := windowNoneRow.holds Try.pinned (OpenSpec.ofChange windowNoneWrong)

/-- 'satchellaw15.LinkNone': WHATEVER THE INPUT: true; the input reads as it did. -/
def linkNoneSpec : ChangeSpec := { name := "linkNone", fn := fun _ => fun
  | [d1, d2] => { results := [.lit (.bool true)], args := [d1, d2] }
  | _ => none }
def linkNoneRow : OpenClaim := { program := "ytkfcdfcoiglieaa", sum := "cce1b644b8e5a032aad37fc80806fc2167b593e10daa6e454c644f872b2e7556", func := "satchel/satchellaw15.LinkNone", spec := "linkNone", unfollowed := true, recurses := true, apart := false }
def LinkNoneSaid : Prop := linkNoneRow.holds Try.pinned (OpenSpec.ofChange linkNoneSpec)

/-- ITS FALSE NEIGHBOUR: 'it returns false'. Refute it at one input. -/
def linkNoneWrong : ChangeSpec := { name := "linkNone", fn := fun _ => fun
  | [d1, d2] => { results := [.lit (.bool false)], args := [d1, d2] }
  | _ => none }
def LinkNoneWrongFalsely : Prop := linkNoneRow.holds Try.pinned (OpenSpec.ofChange linkNoneWrong)

/-- 'satchellaw15.LinkSessions': WHATEVER THE INPUT: true; the input reads as it did. -/
def linkSessionsSpec : ChangeSpec := { name := "linkSessions", fn := fun _ => fun
  | [d] => { results := [.lit (.bool true)], args := [d] }
  | _ => none }
def linkSessionsRow : OpenClaim := { program := "ytkfcdfcoiglieaa", sum := "cce1b644b8e5a032aad37fc80806fc2167b593e10daa6e454c644f872b2e7556", func := "satchel/satchellaw15.LinkSessions", spec := "linkSessions", unfollowed := true, recurses := true, apart := false }
def LinkSessionsSaid : Prop := linkSessionsRow.holds Try.pinned (OpenSpec.ofChange linkSessionsSpec)

/-- ITS FALSE NEIGHBOUR: 'it returns false'. Refute it at one input. -/
def linkSessionsWrong : ChangeSpec := { name := "linkSessions", fn := fun _ => fun
  | [d] => { results := [.lit (.bool false)], args := [d] }
  | _ => none }
def LinkSessionsWrongFalsely : Prop := linkSessionsRow.holds Try.pinned (OpenSpec.ofChange linkSessionsWrong)

/- THE SECOND FORM. 'bulk': how many values and letters a reading holds, each counted each time it is reached (what is shared counts as often as it is met; a slice's spare places count too). A statement '..UptoSaid' is the law's where the arguments, and the package variables that the reading takes, are together of bulk at most 1048576: NARROWER than '..Said'. Prove '..Said' where nothing that the law and all that it calls make is longer than what came in: it says more and counts as full. Else prove '..UptoSaid'. A law counts once. -/
mutual
def uptoBulk {H : Type} : DataW H → Nat
  | .lit (.string bytes) => bytes.length + 1
  | .lit _ => 1
  | .nil => 1
  | .ptr d => uptoBulk d + 1
  | .slice elems spare => uptoBulkAll elems + uptoBulkAll spare + 1
  | .agg parts => uptoBulkAll parts + 1
  | .iface _ d => uptoBulk d + 1
  | .map entries => uptoBulkEntries entries + 1
  | .held _ => 1
def uptoBulkAll {H : Type} : List (DataW H) → Nat
  | [] => 0
  | d :: r => uptoBulk d + uptoBulkAll r
def uptoBulkEntries {H : Type} : List (Lit × DataW H) → Nat
  | [] => 0
  | x :: r => uptoBulkEntry x + uptoBulkEntries r
def uptoBulkEntry {H : Type} : Lit × DataW H → Nat
  | (.string bytes, d) => bytes.length + uptoBulk d + 1
  | (_, d) => uptoBulk d + 1
 end
def uptoSmall : (H : Type) → List (DataW H) → Bool := fun _ ds => decide (uptoBulkAll ds ≤ 1048576)
def OpenSpec.upto (s : _root_.Go.ChangeSpec) : _root_.Go.OpenSpec := { _root_.Go.OpenSpec.ofChange s with cond := some uptoSmall }

/-- 'satchellaw04.GuardSums', WHERE WHAT IT READS IS OF BULK AT MOST 1048576: true; the input reads as it did. -/
def guardSumsUptoRow : OpenClaim := { program := "ytkfcdfcoiglieaa", sum := "cce1b644b8e5a032aad37fc80806fc2167b593e10daa6e454c644f872b2e7556", func := "satchel/satchellaw04.GuardSums", spec := "guardSums", apart := false, narrowed := true }
def GuardSumsUptoSaid : Prop := guardSumsUptoRow.holds Try.pinned (OpenSpec.upto guardSumsSpec)

/-- 'satchellaw04.GuardChecks', WHERE WHAT IT READS IS OF BULK AT MOST 1048576: true; the input reads as it did. -/
def guardChecksUptoRow : OpenClaim := { program := "ytkfcdfcoiglieaa", sum := "cce1b644b8e5a032aad37fc80806fc2167b593e10daa6e454c644f872b2e7556", func := "satchel/satchellaw04.GuardChecks", spec := "guardChecks", apart := false, narrowed := true }
def GuardChecksUptoSaid : Prop := guardChecksUptoRow.holds Try.pinned (OpenSpec.upto guardChecksSpec)

/-- 'satchellaw04.GuardKnown', WHERE WHAT IT READS IS OF BULK AT MOST 1048576: true; the input reads as it did. -/
def guardKnownUptoRow : OpenClaim := { program := "ytkfcdfcoiglieaa", sum := "cce1b644b8e5a032aad37fc80806fc2167b593e10daa6e454c644f872b2e7556", func := "satchel/satchellaw04.GuardKnown", spec := "guardKnown", apart := false, narrowed := true }
def GuardKnownUptoSaid : Prop := guardKnownUptoRow.holds Try.pinned (OpenSpec.upto guardKnownSpec)

/-- 'satchellaw04.GuardBursts', WHERE WHAT IT READS IS OF BULK AT MOST 1048576: true; the input reads as it did. -/
def guardBurstsUptoRow : OpenClaim := { program := "ytkfcdfcoiglieaa", sum := "cce1b644b8e5a032aad37fc80806fc2167b593e10daa6e454c644f872b2e7556", func := "satchel/satchellaw04.GuardBursts", spec := "guardBursts", apart := false, narrowed := true }
def GuardBurstsUptoSaid : Prop := guardBurstsUptoRow.holds Try.pinned (OpenSpec.upto guardBurstsSpec)

/-- 'satchellaw04.GuardPieces', WHERE WHAT IT READS IS OF BULK AT MOST 1048576: true; the input reads as it did. -/
def guardPiecesUptoRow : OpenClaim := { program := "ytkfcdfcoiglieaa", sum := "cce1b644b8e5a032aad37fc80806fc2167b593e10daa6e454c644f872b2e7556", func := "satchel/satchellaw04.GuardPieces", spec := "guardPieces", apart := false, narrowed := true }
def GuardPiecesUptoSaid : Prop := guardPiecesUptoRow.holds Try.pinned (OpenSpec.upto guardPiecesSpec)

/-- 'satchellaw15.LinkBoots', WHERE WHAT IT READS IS OF BULK AT MOST 1048576: true; the input reads as it did. -/
def linkBootsUptoRow : OpenClaim := { program := "ytkfcdfcoiglieaa", sum := "cce1b644b8e5a032aad37fc80806fc2167b593e10daa6e454c644f872b2e7556", func := "satchel/satchellaw15.LinkBoots", spec := "linkBoots", unfollowed := true, recurses := true, apart := false, narrowed := true }
def LinkBootsUptoSaid : Prop := linkBootsUptoRow.holds Try.pinned (OpenSpec.upto linkBootsSpec)

/-- 'satchellaw04.GuardLong', WHERE WHAT IT READS IS OF BULK AT MOST 1048576: true; the input reads as it did. -/
def guardLongUptoRow : OpenClaim := { program := "ytkfcdfcoiglieaa", sum := "cce1b644b8e5a032aad37fc80806fc2167b593e10daa6e454c644f872b2e7556", func := "satchel/satchellaw04.GuardLong", spec := "guardLong", apart := false, narrowed := true }
def GuardLongUptoSaid : Prop := guardLongUptoRow.holds Try.pinned (OpenSpec.upto guardLongSpec)

/-- 'satchellaw15.LinkKnown', WHERE WHAT IT READS IS OF BULK AT MOST 1048576: true; the input reads as it did. -/
def linkKnownUptoRow : OpenClaim := { program := "ytkfcdfcoiglieaa", sum := "cce1b644b8e5a032aad37fc80806fc2167b593e10daa6e454c644f872b2e7556", func := "satchel/satchellaw15.LinkKnown", spec := "linkKnown", unfollowed := true, recurses := true, apart := false, narrowed := true }
def LinkKnownUptoSaid : Prop := linkKnownUptoRow.holds Try.pinned (OpenSpec.upto linkKnownSpec)

/-- 'satchellaw11.FramePuts', WHERE WHAT IT READS IS OF BULK AT MOST 1048576: true; the input reads as it did. -/
def framePutsUptoRow : OpenClaim := { program := "ytkfcdfcoiglieaa", sum := "cce1b644b8e5a032aad37fc80806fc2167b593e10daa6e454c644f872b2e7556", func := "satchel/satchellaw11.FramePuts", spec := "framePuts", unfollowed := true, recurses := true, apart := false, narrowed := true }
def FramePutsUptoSaid : Prop := framePutsUptoRow.holds Try.pinned (OpenSpec.upto framePutsSpec)

/-- 'satchellaw11.FrameReads', WHERE WHAT IT READS IS OF BULK AT MOST 1048576: true; the input reads as it did. -/
def frameReadsUptoRow : OpenClaim := { program := "ytkfcdfcoiglieaa", sum := "cce1b644b8e5a032aad37fc80806fc2167b593e10daa6e454c644f872b2e7556", func := "satchel/satchellaw11.FrameReads", spec := "frameReads", unfollowed := true, recurses := true, apart := false, narrowed := true }
def FrameReadsUptoSaid : Prop := frameReadsUptoRow.holds Try.pinned (OpenSpec.upto frameReadsSpec)

/-- 'satchellaw11.FrameGuarded', WHERE WHAT IT READS IS OF BULK AT MOST 1048576: true; the input reads as it did. -/
def frameGuardedUptoRow : OpenClaim := { program := "ytkfcdfcoiglieaa", sum := "cce1b644b8e5a032aad37fc80806fc2167b593e10daa6e454c644f872b2e7556", func := "satchel/satchellaw11.FrameGuarded", spec := "frameGuarded", unfollowed := true, recurses := true, apart := false, narrowed := true }
def FrameGuardedUptoSaid : Prop := frameGuardedUptoRow.holds Try.pinned (OpenSpec.upto frameGuardedSpec)

/-- 'satchellaw11.FrameBack', WHERE WHAT IT READS IS OF BULK AT MOST 1048576: true; the input reads as it did. -/
def frameBackUptoRow : OpenClaim := { program := "ytkfcdfcoiglieaa", sum := "cce1b644b8e5a032aad37fc80806fc2167b593e10daa6e454c644f872b2e7556", func := "satchel/satchellaw11.FrameBack", spec := "frameBack", unfollowed := true, recurses := true, apart := false, narrowed := true }
def FrameBackUptoSaid : Prop := frameBackUptoRow.holds Try.pinned (OpenSpec.upto frameBackSpec)

/-- 'satchellaw11.FrameTurned', WHERE WHAT IT READS IS OF BULK AT MOST 1048576: true; the input reads as it did. -/
def frameTurnedUptoRow : OpenClaim := { program := "ytkfcdfcoiglieaa", sum := "cce1b644b8e5a032aad37fc80806fc2167b593e10daa6e454c644f872b2e7556", func := "satchel/satchellaw11.FrameTurned", spec := "frameTurned", unfollowed := true, recurses := true, apart := false, narrowed := true }
def FrameTurnedUptoSaid : Prop := frameTurnedUptoRow.holds Try.pinned (OpenSpec.upto frameTurnedSpec)

/-- 'satchellaw11.FrameTypes', WHERE WHAT IT READS IS OF BULK AT MOST 1048576: true; the input reads as it did. -/
def frameTypesUptoRow : OpenClaim := { program := "ytkfcdfcoiglieaa", sum := "cce1b644b8e5a032aad37fc80806fc2167b593e10daa6e454c644f872b2e7556", func := "satchel/satchellaw11.FrameTypes", spec := "frameTypes", unfollowed := true, recurses := true, apart := false, narrowed := true }
def FrameTypesUptoSaid : Prop := frameTypesUptoRow.holds Try.pinned (OpenSpec.upto frameTypesSpec)

/-- 'satchellaw11.FrameKnown', WHERE WHAT IT READS IS OF BULK AT MOST 1048576: true; the input reads as it did. -/
def frameKnownUptoRow : OpenClaim := { program := "ytkfcdfcoiglieaa", sum := "cce1b644b8e5a032aad37fc80806fc2167b593e10daa6e454c644f872b2e7556", func := "satchel/satchellaw11.FrameKnown", spec := "frameKnown", unfollowed := true, recurses := true, apart := false, narrowed := true }
def FrameKnownUptoSaid : Prop := frameKnownUptoRow.holds Try.pinned (OpenSpec.upto frameKnownSpec)

/-- 'satchellaw13.WindowWaits', WHERE WHAT IT READS IS OF BULK AT MOST 1048576: true; the input reads as it did. -/
def windowWaitsUptoRow : OpenClaim := { program := "ytkfcdfcoiglieaa", sum := "cce1b644b8e5a032aad37fc80806fc2167b593e10daa6e454c644f872b2e7556", func := "satchel/satchellaw13.WindowWaits", spec := "windowWaits", inPlace := ["math.archCeil", "math.archFloor", "math.Float64bits", "math.Float64frombits", "math.archTrunc"], unfollowed := true, recurses := true, apart := false, narrowed := true }
def WindowWaitsUptoSaid : Prop := windowWaitsUptoRow.holds Try.pinned (OpenSpec.upto windowWaitsSpec)

/-- 'satchellaw13.WindowBound', WHERE WHAT IT READS IS OF BULK AT MOST 1048576: true; the input reads as it did. -/
def windowBoundUptoRow : OpenClaim := { program := "ytkfcdfcoiglieaa", sum := "cce1b644b8e5a032aad37fc80806fc2167b593e10daa6e454c644f872b2e7556", func := "satchel/satchellaw13.WindowBound", spec := "windowBound", inPlace := ["math.archCeil", "math.archFloor", "math.Float64bits", "math.Float64frombits", "math.archTrunc"], unfollowed := true, recurses := true, apart := false, narrowed := true }
def WindowBoundUptoSaid : Prop := windowBoundUptoRow.holds Try.pinned (OpenSpec.upto windowBoundSpec)

/-- 'satchellaw13.WindowWhen', WHERE WHAT IT READS IS OF BULK AT MOST 1048576: true; the input reads as it did. -/
def windowWhenUptoRow : OpenClaim := { program := "ytkfcdfcoiglieaa", sum := "cce1b644b8e5a032aad37fc80806fc2167b593e10daa6e454c644f872b2e7556", func := "satchel/satchellaw13.WindowWhen", spec := "windowWhen", inPlace := ["math.archCeil", "math.archFloor", "math.Float64bits", "math.Float64frombits", "math.archTrunc"], unfollowed := true, recurses := true, apart := false, narrowed := true }
def WindowWhenUptoSaid : Prop := windowWhenUptoRow.holds Try.pinned (OpenSpec.upto windowWhenSpec)

/-- 'satchellaw13.WindowKnown', WHERE WHAT IT READS IS OF BULK AT MOST 1048576: true; the input reads as it did. -/
def windowKnownUptoRow : OpenClaim := { program := "ytkfcdfcoiglieaa", sum := "cce1b644b8e5a032aad37fc80806fc2167b593e10daa6e454c644f872b2e7556", func := "satchel/satchellaw13.WindowKnown", spec := "windowKnown", inPlace := ["math.archCeil", "math.archFloor", "math.Float64bits", "math.Float64frombits", "math.archTrunc"], unfollowed := true, recurses := true, apart := false, narrowed := true }
def WindowKnownUptoSaid : Prop := windowKnownUptoRow.holds Try.pinned (OpenSpec.upto windowKnownSpec)

/-- 'satchellaw13.WindowNone', WHERE WHAT IT READS IS OF BULK AT MOST 1048576: true; the input reads as it did. -/
def windowNoneUptoRow : OpenClaim := { program := "ytkfcdfcoiglieaa", sum := "cce1b644b8e5a032aad37fc80806fc2167b593e10daa6e454c644f872b2e7556", func := "satchel/satchellaw13.WindowNone", spec := "windowNone", inPlace := ["math.archCeil", "math.archFloor", "math.Float64bits", "math.Float64frombits", "math.archTrunc"], unfollowed := true, recurses := true, apart := false, narrowed := true }
def WindowNoneUptoSaid : Prop := windowNoneUptoRow.holds Try.pinned (OpenSpec.upto windowNoneSpec)

/-- 'satchellaw15.LinkNone', WHERE WHAT IT READS IS OF BULK AT MOST 1048576: true; the input reads as it did. -/
def linkNoneUptoRow : OpenClaim := { program := "ytkfcdfcoiglieaa", sum := "cce1b644b8e5a032aad37fc80806fc2167b593e10daa6e454c644f872b2e7556", func := "satchel/satchellaw15.LinkNone", spec := "linkNone", unfollowed := true, recurses := true, apart := false, narrowed := true }
def LinkNoneUptoSaid : Prop := linkNoneUptoRow.holds Try.pinned (OpenSpec.upto linkNoneSpec)

/-- 'satchellaw15.LinkSessions', WHERE WHAT IT READS IS OF BULK AT MOST 1048576: true; the input reads as it did. -/
def linkSessionsUptoRow : OpenClaim := { program := "ytkfcdfcoiglieaa", sum := "cce1b644b8e5a032aad37fc80806fc2167b593e10daa6e454c644f872b2e7556", func := "satchel/satchellaw15.LinkSessions", spec := "linkSessions", unfollowed := true, recurses := true, apart := false, narrowed := true }
def LinkSessionsUptoSaid : Prop := linkSessionsUptoRow.holds Try.pinned (OpenSpec.upto linkSessionsSpec)

end Rows
end Go.Proofs.Ytkfcdfcoiglieaa
