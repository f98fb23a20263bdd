/- Closed facts of the program that every row of this seat asks. No condition. -/
import Derived.Test.YtkfcdfcoiglieaaRows
import Derived.ProofKit
namespace Go.Proofs.Ytkfcdfcoiglieaa.Facts
/-- The words of the program's head, as signs. -/
def w1 : List Char := [104, 97, 114, 110, 101, 115, 115].map Char.ofNat
def w2 : List Char := [53, 102, 55, 49, 56, 57, 52, 100, 100, 101, 49, 100, 52, 49, 56, 50, 100, 98, 53, 50, 98, 54, 50, 49, 52, 57, 97, 57, 102, 57, 98, 100, 98, 102, 97, 49, 57, 102, 97, 51, 48, 56, 97, 55, 54, 102, 99, 54, 54, 51, 52, 98, 49, 101, 49, 99, 57, 98, 50, 56, 53, 50, 97, 102].map Char.ofNat
def w3 : List Char := [99, 117, 116].map Char.ofNat
def w4 : List Char := [97, 116, 32, 115, 97, 116, 99, 104, 101, 108, 47, 115, 97, 116, 99, 104, 101, 108, 108, 97, 119, 48, 52, 46, 71, 117, 97, 114, 100, 83, 117, 109, 115, 32, 115, 97, 116, 99, 104, 101, 108, 47, 115, 97, 116, 99, 104, 101, 108, 108, 97, 119, 48, 52, 46, 71, 117, 97, 114, 100, 67, 104, 101, 99, 107, 115, 32, 115, 97, 116, 99, 104, 101, 108, 47, 115, 97, 116, 99, 104, 101, 108, 108, 97, 119, 48, 52, 46, 71, 117, 97, 114, 100, 75, 110, 111, 119, 110, 32, 115, 97, 116, 99, 104, 101, 108, 47, 115, 97, 116, 99, 104, 101, 108, 108, 97, 119, 48, 52, 46, 71, 117, 97, 114, 100, 66, 117, 114, 115, 116, 115, 32, 115, 97, 116, 99, 104, 101, 108, 47, 115, 97, 116, 99, 104, 101, 108, 108, 97, 119, 48, 52, 46, 71, 117, 97, 114, 100, 80, 105, 101, 99, 101, 115, 32, 115, 97, 116, 99, 104, 101, 108, 47, 115, 97, 116, 99, 104, 101, 108, 108, 97, 119, 49, 53, 46, 76, 105, 110, 107, 66, 111, 111, 116, 115, 32, 115, 97, 116, 99, 104, 101, 108, 47, 115, 97, 116, 99, 104, 101, 108, 108, 97, 119, 48, 52, 46, 71, 117, 97, 114, 100, 76, 111, 110, 103, 32, 115, 97, 116, 99, 104, 101, 108, 47, 115, 97, 116, 99, 104, 101, 108, 108, 97, 119, 49, 53, 46, 76, 105, 110, 107, 75, 110, 111, 119, 110, 32, 115, 97, 116, 99, 104, 101, 108, 47, 115, 97, 116, 99, 104, 101, 108, 108, 97, 119, 49, 49, 46, 70, 114, 97, 109, 101, 80, 117, 116, 115, 32, 115, 97, 116, 99, 104, 101, 108, 47, 115, 97, 116, 99, 104, 101, 108, 108, 97, 119, 49, 49, 46, 70, 114, 97, 109, 101, 82, 101, 97, 100, 115, 32, 115, 97, 116, 99, 104, 101, 108, 47, 115, 97, 116, 99, 104, 101, 108, 108, 97, 119, 49, 49, 46, 70, 114, 97, 109, 101, 71, 117, 97, 114, 100, 101, 100, 32, 115, 97, 116, 99, 104, 101, 108, 47, 115, 97, 116, 99, 104, 101, 108, 108, 97, 119, 49, 49, 46, 70, 114, 97, 109, 101, 66, 97, 99, 107, 32, 115, 97, 116, 99, 104, 101, 108, 47, 115, 97, 116, 99, 104, 101, 108, 108, 97, 119, 49, 49, 46, 70, 114, 97, 109, 101, 84, 117, 114, 110, 101, 100, 32, 115, 97, 116, 99, 104, 101, 108, 47, 115, 97, 116, 99, 104, 101, 108, 108, 97, 119, 49, 49, 46, 70, 114, 97, 109, 101, 84, 121, 112, 101, 115, 32, 115, 97, 116, 99, 104, 101, 108, 47, 115, 97, 116, 99, 104, 101, 108, 108, 97, 119, 49, 49, 46, 70, 114, 97, 109, 101, 75, 110, 111, 119, 110, 32, 115, 97, 116, 99, 104, 101, 108, 47, 115, 97, 116, 99, 104, 101, 108, 108, 97, 119, 49, 51, 46, 87, 105, 110, 100, 111, 119, 87, 97, 105, 116, 115, 32, 115, 97, 116, 99, 104, 101, 108, 47, 115, 97, 116, 99, 104, 101, 108, 108, 97, 119, 49, 51, 46, 87, 105, 110, 100, 111, 119, 66, 111, 117, 110, 100, 32, 115, 97, 116, 99, 104, 101, 108, 47, 115, 97, 116, 99, 104, 101, 108, 108, 97, 119, 49, 51, 46, 87, 105, 110, 100, 111, 119, 87, 104, 101, 110, 32, 115, 97, 116, 99, 104, 101, 108, 47, 115, 97, 116, 99, 104, 101, 108, 108, 97, 119, 49, 51, 46, 87, 105, 110, 100, 111, 119, 75, 110, 111, 119, 110, 32, 115, 97, 116, 99, 104, 101, 108, 47, 115, 97, 116, 99, 104, 101, 108, 108, 97, 119, 49, 51, 46, 87, 105, 110, 100, 111, 119, 78, 111, 110, 101, 32, 115, 97, 116, 99, 104, 101, 108, 47, 115, 97, 116, 99, 104, 101, 108, 108, 97, 119, 49, 53, 46, 76, 105, 110, 107, 78, 111, 110, 101, 32, 115, 97, 116, 99, 104, 101, 108, 47, 115, 97, 116, 99, 104, 101, 108, 108, 97, 119, 49, 53, 46, 76, 105, 110, 107, 83, 101, 115, 115, 105, 111, 110, 115].map Char.ofNat
def sp : Char := Char.ofNat 32
def signs : List Char := w1 ++ sp :: (w2 ++ sp :: (w3 ++ sp :: w4))
theorem head_is : Try.prog.initOrder = String.ofList signs := by kernel_rfl
theorem head_list : Try.prog.initOrder.toList = signs := by rw [head_is, String.toList_ofList]
theorem words_sp (r : List Char) : wordsSigns (sp :: r) = [] :: wordsSigns r := rfl
theorem words_cons (c : Char) (h : c ≠ sp) (r w : List Char) (ws : List (List Char)) (hr : wordsSigns r = w :: ws) : wordsSigns (c :: r) = (c :: w) :: ws := by
  unfold wordsSigns
  split
  · rename_i e; cases e
  · rename_i e; injection e with e1 e2; exact absurd e1 h
  · rename_i e; injection e with e1 e2; subst e1; subst e2; rw [hr]
theorem words_word (w : List Char) (h : ∀ c ∈ w, c ≠ sp) (r : List Char) : wordsSigns (w ++ sp :: r) = w :: wordsSigns r := by
  induction w with
  | nil => rfl
  | cons c w ih => exact words_cons c (h c (List.mem_cons_self ..)) _ _ _ (ih (fun d hd => h d (List.mem_cons_of_mem _ hd)))
theorem words_is : wordsSigns Try.prog.initOrder.toList = w1 :: w2 :: w3 :: wordsSigns w4 := by
  rw [head_list, signs, words_word w1 (by decide +kernel), words_word w2 (by decide +kernel), words_word w3 (by decide +kernel)]
theorem behind_is (ws : List (List Char)) : behindMainWord (w1 :: w2 :: w3 :: ws) = w3 :: ws := by kernel_rfl
theorem strip_is (ws : List (List Char)) : stripLifts liftWords (w3 :: ws) = ([], w3 :: ws) := by kernel_rfl
theorem w3_is : w3 = "cut".toList := by kernel_rfl
theorem mayEnter_of {P : Program} {ws : List (List Char)} (h : wordsSigns P.initOrder.toList = w1 :: w2 :: w3 :: ws) (h1 : P.laysLater = false) (h2 : P.bearsReflect = false) (h3 : P.doorFits [] = true) : P.mayEnter = true := by
  unfold Program.mayEnter
  rw [h, behind_is]
  simp only [strip_is]
  simp [h1, h2, h3, w3_is]
theorem lifts_of {P : Program} {ws : List (List Char)} (h : wordsSigns P.initOrder.toList = w1 :: w2 :: w3 :: ws) : P.liftsFinal = false := by
  unfold Program.liftsFinal Program.headLifts
  rw [h, behind_is]
  simp only [strip_is]
  simp [w3_is]
theorem make_of {P : Program} {ws : List (List Char)} (h : wordsSigns P.initOrder.toList = w1 :: w2 :: w3 :: ws) : P.make = some .cut := by
  unfold Program.make
  rw [h, behind_is]
  simp [w3_is]
theorem later_is : Try.prog.laysLater = false := by kernel_rfl
theorem reflect_is : Try.prog.bearsReflect = false := by kernel_rfl
theorem door_is : Try.prog.doorFits [] = true := by kernel_rfl
theorem mayEnter_is : Try.prog.mayEnter = true := mayEnter_of words_is later_is reflect_is door_is
theorem lifts_is : Try.prog.liftsFinal = false := lifts_of words_is
theorem make_is : Try.prog.make = some .cut := make_of words_is
theorem plainKeys_is : Try.prog.plainKeys = true := by kernel_rfl
theorem laid_is : laidOutB Try.prog = true := by kernel_rfl
theorem rowed_is : mapsRowed Try.prog = true := by kernel_rfl
theorem heard_is : Try.prog.stopsHeard = true := by kernel_rfl
theorem stops_is : Try.prog.stops = [] := by kernel_rfl
theorem knobs_is : Try.prog.stopKnobs = [] := by kernel_rfl

/-- The closed facts of a law's row: what hangs on the law alone is asked of it. -/
theorem facts_of {f : FuncId} {fn : Func} {s : ChangeSpec} {c : OpenClaim} (hv : s.vars = []) (hr : fn.resultTypes = #[4])
    (hc : c.stops = [] ∧ c.knobs = [] ∧ c.plainKeys = true ∧ c.shortTexts = none ∧ c.lifted = false ∧ c.make = .cut ∧ c.domain = [] ∧ c.kinds = [] ∧ c.named = [] ∧ c.mapsOut = false ∧ c.ifacesOut = false ∧ c.loopsOut = false)
    (h1 : c.wf (OpenSpec.ofChange s) = true) (h2 : fn.params.all (Try.prog.readableRec ·) = true) (h3 : namedTie Try.prog c.named [] = true)
    (h4 : (c.inPlace == Try.prog.inPlace f) = true) (h5 : (c.unfollowed == Try.prog.unfollowed f) = true) (h6 : (c.recurses == Try.prog.recurses f) = true) (h7 : (c.named == Try.prog.varsNamed f) = true)
    (h8 : (c.maps == fn.params.toList.any (Try.prog.mapsRec ·)) = true) (h9 : (c.ifaces == fn.params.toList.any (Try.prog.ifacesRec ·)) = true)
    (h10 : (c.loops == fn.params.toList.any (Try.prog.loopsFrom ·)) = true) (h11 : (c.wideKeys == (fn.params.toList ++ [4]).any (Try.prog.wideKeysFrom ·)) = true)
    (h12 : (c.pinned == c.pinnedBy) = true) (h13 : (c.veiled == (fn.params.toList ++ [4]).any (Try.prog.veiledRec ·)) = true)
    (h14 : c.veiledFits Try.prog fn.params.toList (fn.params.toList ++ [4]) = true) : joinedFacts Try.prog f fn s c = true := by
  obtain ⟨a1, a2, a3, a4, a5, a6, a7, a8, a9, a10, a11, a12⟩ := hc
  have hvt : s.plain.varTypes Try.prog = [] := by
    have : s.plain.vars = [] := hv
    unfold DataSpec.varTypes
    rw [this]; rfl
  have r0 : Try.prog.readableRec 4 = true := by kernel_rfl
  have r2 : (Try.prog.ifacesRec 4) = false := by kernel_rfl
  have r3 : (Try.prog.loopsFrom 4) = false := by kernel_rfl
  have r4 : Try.prog.mapsAmong [4] = false := by kernel_rfl
  simp only [joinedFacts, hvt, List.append_nil, hr, h1, h2, h3, h4, h5, h6, h7, h8, h9, h10, h11, h12, h13, h14, hv, a1, a2, a3, a4, a5, a6, a7, a8, a10, a11, a12, mayEnter_is, lifts_is, make_is, plainKeys_is, laid_is, rowed_is, heard_is, stops_is, knobs_is]
  simp [r0, r2, r3, r4]
end Go.Proofs.Ytkfcdfcoiglieaa.Facts
