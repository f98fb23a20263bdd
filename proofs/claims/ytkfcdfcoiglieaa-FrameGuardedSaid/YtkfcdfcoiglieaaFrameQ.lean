/- The plain law of layer 11: what a frame is put as is read as it; what bytes are read as is put as these. No condition. -/
import Derived.Test.YtkfcdfcoiglieaaFrameTu
import Derived.Test.YtkfcdfcoiglieaaAw4
namespace Go.Proofs.Ytkfcdfcoiglieaa
open Go.RowKit

theorem be4 (n : Int) : be n 4 = [byteOf (n / 16777216), byteOf (n / 65536), byteOf (n / 256), byteOf n] := by
  show [byteOf (n / 256 ^ 3), byteOf (n / 256 ^ 2), byteOf (n / 256 ^ 1), byteOf (n / 256 ^ 0)] = _
  simp
theorem be2 (n : Int) : be n 2 = [byteOf (n / 256), byteOf n] := by
  show [byteOf (n / 256 ^ 1), byteOf (n / 256 ^ 0)] = _
  simp
theorem byteOf_nat (x : Int) : (byteOf x).toNat = (x % 256).toNat := by
  unfold byteOf; rw [UInt8.toNat_ofNat_of_lt' (by show _ < 256; omega)]
theorem byteOf_eq {x : Int} {c : UInt8} (h : x % 256 = (c.toNat : Int)) : byteOf x = c := by
  apply UInt8.toNat_inj.1; rw [byteOf_nat]; omega
theorem num4 (a b c d : UInt8) : numF [a, b, c, d] = ((a.toNat * 256 + b.toNat) * 256 + c.toNat) * 256 + d.toNat := by simp [numF]
theorem num2 (a b : UInt8) : numF [a, b] = a.toNat * 256 + b.toNat := by simp [numF]
theorem num_be4 (n : Int) (h0 : 0 ≤ n) (h1 : n < 4294967296) : (numF (be n 4) : Int) = n := by
  rw [be4, num4, byteOf_nat, byteOf_nat, byteOf_nat, byteOf_nat]; omega
theorem num_be2 (n : Nat) (h1 : n < 65536) : numF (be n 2) = n := by
  rw [be2, num2, byteOf_nat, byteOf_nat]; omega
theorem be_num4 (a b c d : UInt8) : be (numF [a, b, c, d] : Nat) 4 = [a, b, c, d] := by
  have := a.toNat_lt; have := b.toNat_lt; have := c.toNat_lt; have := d.toNat_lt
  rw [be4, num4, byteOf_eq (c := a) (by omega), byteOf_eq (c := b) (by omega), byteOf_eq (c := c) (by omega), byteOf_eq (c := d) (by omega)]
theorem be_num2 (a b : UInt8) : be (numF [a, b] : Nat) 2 = [a, b] := by
  have := a.toNat_lt; have := b.toNat_lt
  rw [be2, num2, byteOf_eq (c := a) (by omega), byteOf_eq (c := b) (by omega)]

theorem headOf_list (f : Frm) : headOf f = 83 :: 75 :: 1 :: byteOf f.typ :: (be f.ses 4 ++ (be f.boot 4 ++ (be f.seq 4 ++ (be f.ack 4 ++ (be f.body.length 2 ++ f.body))))) := by
  show ((((([83, 75, 1, byteOf f.typ] ++ be f.ses 4) ++ be f.boot 4) ++ be f.seq 4) ++ be f.ack 4) ++ be f.body.length 2) ++ f.body = _
  simp
theorem errX_0 {x : List UInt8} (h0 : at_ x 0 = 83) (h1 : at_ x 1 = 75) (h2 : at_ x 2 = 1) (h3 : knownB (frmOf x).typ = true) (h4 : ¬ 2147483647 < mx4 (frmOf x).ses (frmOf x).boot (frmOf x).seq (frmOf x).ack)
    (h5 : num_ x 20 22 = x.length - 22) (h6 : asF (frmOf x) = true) : errX x = 0 :=
  (errX_ok h0 h1 h2).trans ((errY_ok h3).trans (errZ_0 h4 h5 h6))
theorem errX_inv {x : List UInt8} (h : errX x = 0) : at_ x 0 = 83 ∧ at_ x 1 = 75 ∧ at_ x 2 = 1 ∧ knownB (frmOf x).typ = true ∧ ¬ 2147483647 < mx4 (frmOf x).ses (frmOf x).boot (frmOf x).seq (frmOf x).ack ∧
    num_ x 20 22 = x.length - 22 ∧ asF (frmOf x) = true := by
  by_cases h0 : at_ x 0 = 83
  · by_cases h1 : at_ x 1 = 75
    · by_cases h2 : at_ x 2 = 1
      · rw [errX_ok h0 h1 h2] at h
        cases h3 : knownB (frmOf x).typ with
        | false => rw [errY_213 h3] at h; cases h
        | true =>
          rw [errY_ok h3] at h
          by_cases h4 : 2147483647 < mx4 (frmOf x).ses (frmOf x).boot (frmOf x).seq (frmOf x).ack
          · rw [errZ_5 h4] at h; cases h
          · by_cases h5 : num_ x 20 22 = x.length - 22
            · cases h6 : asF (frmOf x) with
              | false => rw [errZ_2 h4 h5 h6] at h; cases h
              | true => exact ⟨h0, h1, h2, rfl, h4, h5, rfl⟩
            · rw [errZ_214 h4 h5] at h; cases h
      · rw [errX_212 h0 h1 h2] at h; cases h
    · rw [errX_211 (.inr h1)] at h; cases h
  · rw [errX_211 (.inl h0)] at h; cases h
theorem checkF_inv {f : Frm} (h : checkF f = 0) : knownB f.typ = true ∧ inId f.ses = true ∧ inId f.boot = true ∧ inId f.seq = true ∧ inId f.ack = true ∧ f.body.length ≤ 1400 ∧ asF f = true := by
  unfold checkF at h
  by_cases ht : ¬ (1 ≤ f.typ ∧ f.typ ≤ 5)
  · rw [if_pos ht] at h; cases h
  rw [if_neg ht] at h
  cases h1 : inId f.ses with
  | false => rw [h1, if_pos rfl] at h; cases h
  | true =>
  cases h2 : inId f.boot with
  | false => rw [h1, h2, if_neg (by simp), if_pos rfl] at h; cases h
  | true =>
  cases h3 : inId f.seq with
  | false => rw [h1, h2, h3, if_neg (by simp), if_neg (by simp), if_pos rfl] at h; cases h
  | true =>
  cases h4 : inId f.ack with
  | false => rw [h1, h2, h3, h4, if_neg (by simp), if_neg (by simp), if_neg (by simp), if_pos rfl] at h; cases h
  | true =>
  rw [h1, h2, h3, h4, if_neg (by simp), if_neg (by simp), if_neg (by simp), if_neg (by simp)] at h
  by_cases hl : 1400 < f.body.length
  · rw [if_pos hl] at h; cases h
  rw [if_neg hl] at h
  cases has : asF f with
  | false => rw [has, if_pos rfl] at h; cases h
  | true => exact ⟨decide_eq_true (by omega), rfl, rfl, rfl, rfl, by omega, rfl⟩
theorem checkF_mk {f : Frm} (h1 : knownB f.typ = true) (h2 : ∀ i, i < 4 → inId (idx f i) = true) (h3 : f.body.length ≤ 1400) (h4 : asF f = true) : checkF f = 0 := by
  rw [checkF_rest h1 h2, if_neg (by omega), if_neg (by simp [h4])]

/-- A frame that may be lies in its bytes. -/
theorem frmOf_head {f : Frm} (h : checkF f = 0) : frmOf (headOf f) = f := by
  obtain ⟨h1, h2, h3, h4, h5, h6, h7⟩ := checkF_inv h
  have ht : 1 ≤ f.typ ∧ f.typ ≤ 5 := of_decide_eq_true h1
  simp only [inId, Bool.and_eq_true, decide_eq_true_eq] at h2 h3 h4 h5
  have e3 : ((at_ (headOf f) 3).toNat : Int) = f.typ := by rw [headOf_list]; show ((byteOf f.typ).toNat : Int) = _; rw [byteOf_nat]; omega
  have e4 : (num_ (headOf f) 4 8 : Int) = f.ses := by
    have : num_ (headOf f) 4 8 = numF (be f.ses 4) := by rw [headOf_list, be4, be4, be4, be4, be2]; rfl
    rw [this, num_be4 _ (by omega) (by omega)]
  have e5 : (num_ (headOf f) 8 12 : Int) = f.boot := by
    have : num_ (headOf f) 8 12 = numF (be f.boot 4) := by rw [headOf_list, be4, be4, be4, be4, be2]; rfl
    rw [this, num_be4 _ (by omega) (by omega)]
  have e6 : (num_ (headOf f) 12 16 : Int) = f.seq := by
    have : num_ (headOf f) 12 16 = numF (be f.seq 4) := by rw [headOf_list, be4, be4, be4, be4, be2]; rfl
    rw [this, num_be4 _ (by omega) (by omega)]
  have e7 : (num_ (headOf f) 16 20 : Int) = f.ack := by
    have : num_ (headOf f) 16 20 = numF (be f.ack 4) := by rw [headOf_list, be4, be4, be4, be4, be2]; rfl
    rw [this, num_be4 _ (by omega) (by omega)]
  have e8 : (headOf f).drop 22 = f.body := by
    rw [headOf_list, be4, be4, be4, be4, be2]; rfl
  obtain ⟨t, s, b, q, a, l⟩ := f
  unfold frmOf
  rw [e3, e4, e5, e6, e7, e8]
theorem errX_head {f : Frm} (h : checkF f = 0) : errX (headOf f) = 0 := by
  have hf := frmOf_head h
  obtain ⟨h1, h2, h3, h4, h5, h6, h7⟩ := checkF_inv h
  simp only [inId, Bool.and_eq_true, decide_eq_true_eq] at h2 h3 h4 h5
  have e9 : num_ (headOf f) 20 22 = f.body.length := by
    have h16 : f.body.length < 65536 := by omega
    have : num_ (headOf f) 20 22 = numF (be f.body.length 2) := by rw [headOf_list, be4, be4, be4, be4, be2]; rfl
    rw [this, num_be2 _ h16]
  refine errX_0 (by rw [headOf_list]; rfl) (by rw [headOf_list]; rfl) (by rw [headOf_list]; rfl) (by rw [hf]; exact h1) (by rw [hf]; unfold mx4; omega) (by rw [e9, length_headOf]; omega) (by rw [hf]; exact h7)
theorem errR_lay {f : Frm} (h : checkF f = 0) : errR (putL (headOf f)) = 0 := by
  have hl := length_putL (headOf f)
  rw [length_headOf] at hl
  have := checkF_ok h
  unfold errR
  rw [if_neg (by omega), if_neg (by omega), checkL_put]
  exact errX_head h
theorem readF_lay {f : Frm} (h : checkF f = 0) : readF (putL (headOf f)) = f := by
  have hl := length_putL (headOf f)
  unfold readF
  rw [errR_lay h, if_pos rfl, hl, show (putL (headOf f)).take ((headOf f).length + 4 - 4) = headOf f from List.take_left' (by omega)]
  exact frmOf_head h

theorem uncons {n : Nat} (x : List UInt8) (h : n + 1 ≤ x.length) : ∃ a r, x = a :: r ∧ n ≤ r.length := by
  cases x with
  | nil => simp at h
  | cons a r => exact ⟨a, r, rfl, by simpa using h⟩
theorem list22 (x : List UInt8) (h : 22 ≤ x.length) : ∃ a0 a1 a2 a3 a4 a5 a6 a7 a8 a9 a10 a11 a12 a13 a14 a15 a16 a17 a18 a19 a20 a21 r,
    x = a0 :: a1 :: a2 :: a3 :: a4 :: a5 :: a6 :: a7 :: a8 :: a9 :: a10 :: a11 :: a12 :: a13 :: a14 :: a15 :: a16 :: a17 :: a18 :: a19 :: a20 :: a21 :: r := by
  obtain ⟨a0, r0, rfl, h0⟩ := uncons (n := 21) x h
  obtain ⟨a1, r1, rfl, h1⟩ := uncons (n := 20) r0 h0
  obtain ⟨a2, r2, rfl, h2⟩ := uncons (n := 19) r1 h1
  obtain ⟨a3, r3, rfl, h3⟩ := uncons (n := 18) r2 h2
  obtain ⟨a4, r4, rfl, h4⟩ := uncons (n := 17) r3 h3
  obtain ⟨a5, r5, rfl, h5⟩ := uncons (n := 16) r4 h4
  obtain ⟨a6, r6, rfl, h6⟩ := uncons (n := 15) r5 h5
  obtain ⟨a7, r7, rfl, h7⟩ := uncons (n := 14) r6 h6
  obtain ⟨a8, r8, rfl, h8⟩ := uncons (n := 13) r7 h7
  obtain ⟨a9, r9, rfl, h9⟩ := uncons (n := 12) r8 h8
  obtain ⟨a10, r10, rfl, h10⟩ := uncons (n := 11) r9 h9
  obtain ⟨a11, r11, rfl, h11⟩ := uncons (n := 10) r10 h10
  obtain ⟨a12, r12, rfl, h12⟩ := uncons (n := 9) r11 h11
  obtain ⟨a13, r13, rfl, h13⟩ := uncons (n := 8) r12 h12
  obtain ⟨a14, r14, rfl, h14⟩ := uncons (n := 7) r13 h13
  obtain ⟨a15, r15, rfl, h15⟩ := uncons (n := 6) r14 h14
  obtain ⟨a16, r16, rfl, h16⟩ := uncons (n := 5) r15 h15
  obtain ⟨a17, r17, rfl, h17⟩ := uncons (n := 4) r16 h16
  obtain ⟨a18, r18, rfl, h18⟩ := uncons (n := 3) r17 h17
  obtain ⟨a19, r19, rfl, h19⟩ := uncons (n := 2) r18 h18
  obtain ⟨a20, r20, rfl, h20⟩ := uncons (n := 1) r19 h19
  obtain ⟨a21, r21, rfl, h21⟩ := uncons (n := 0) r20 h20
  exact ⟨a0, a1, a2, a3, a4, a5, a6, a7, a8, a9, a10, a11, a12, a13, a14, a15, a16, a17, a18, a19, a20, a21, r21, rfl⟩
/-- What bytes are read as may be, and is put as these. -/
theorem head_frmOf {x : List UInt8} (hx : 22 ≤ x.length) (h : errX x = 0) : headOf (frmOf x) = x := by
  obtain ⟨h0, h1, h2, h3, h4, h5, h6⟩ := errX_inv h
  obtain ⟨a0, a1, a2, a3, a4, a5, a6, a7, a8, a9, a10, a11, a12, a13, a14, a15, a16, a17, a18, a19, a20, a21, r, rfl⟩ := list22 x hx
  have g0 : a0 = 83 := h0
  have g1 : a1 = 75 := h1
  have g2 : a2 = 1 := h2
  have g5 : numF [a20, a21] = r.length := by
    have : numF [a20, a21] = (a0 :: a1 :: a2 :: a3 :: a4 :: a5 :: a6 :: a7 :: a8 :: a9 :: a10 :: a11 :: a12 :: a13 :: a14 :: a15 :: a16 :: a17 :: a18 :: a19 :: a20 :: a21 :: r).length - 22 := h5
    rw [this]; simp
  subst g0; subst g1; subst g2
  rw [headOf_list]
  show 83 :: 75 :: 1 :: byteOf (a3.toNat : Int) :: (be (numF [a4, a5, a6, a7] : Nat) 4 ++ (be (numF [a8, a9, a10, a11] : Nat) 4 ++ (be (numF [a12, a13, a14, a15] : Nat) 4 ++ (be (numF [a16, a17, a18, a19] : Nat) 4 ++ (be (r.length : Nat) 2 ++ r))))) = _
  have := a3.toNat_lt
  rw [← g5, be_num4, be_num4, be_num4, be_num4, be_num2, byteOf_eq (c := a3) (by omega)]
  rfl
theorem checkF_frmOf {x : List UInt8} (hx : x.length ≤ 1422) (h : errX x = 0) : checkF (frmOf x) = 0 := by
  obtain ⟨h0, h1, h2, h3, h4, h5, h6⟩ := errX_inv h
  unfold mx4 at h4
  have k : ∀ n : Int, 0 ≤ n → n ≤ 2147483647 → inId n = true := fun n h h' => by simp [inId, h, h']
  have p4 : 0 ≤ (frmOf x).ses := Int.natCast_nonneg _
  have p5 : 0 ≤ (frmOf x).boot := Int.natCast_nonneg _
  have p6 : 0 ≤ (frmOf x).seq := Int.natCast_nonneg _
  have p7 : 0 ≤ (frmOf x).ack := Int.natCast_nonneg _
  refine checkF_mk h3 (fun i hi => ?_) (by show (x.drop 22).length ≤ 1400; rw [List.length_drop]; omega) h6
  match i, hi with
  | 0, _ => exact k (frmOf x).ses p4 (by omega)
  | 1, _ => exact k (frmOf x).boot p5 (by omega)
  | 2, _ => exact k (frmOf x).seq p6 (by omega)
  | 3, _ => exact k (frmOf x).ack p7 (by omega)
theorem errR_inv {b : List UInt8} (h : errR b = 0) : ∃ x, checkL b = some x ∧ errX x = 0 ∧ 26 ≤ b.length ∧ b.length ≤ 1426 := by
  unfold errR at h
  by_cases h1 : 1426 < b.length
  · rw [if_pos h1] at h; cases h
  rw [if_neg h1] at h
  by_cases h2 : b.length < 26
  · rw [if_pos h2] at h; cases h
  rw [if_neg h2] at h
  cases hc : checkL b with
  | none => rw [hc] at h; cases h
  | some x => rw [hc] at h; exact ⟨x, rfl, h, by omega, by omega⟩
theorem back {b : List UInt8} (h : errR b = 0) : checkF (readF b) = 0 ∧ putL (headOf (readF b)) = b := by
  obtain ⟨x, hc, hx, h1, h2⟩ := errR_inv h
  obtain ⟨_, hp, hd⟩ := checkL_some hc
  have hl : x.length = b.length - 4 := (checkL_len hc).1
  have hr : readF b = frmOf x := by unfold readF; rw [h, if_pos rfl, ← hd]
  rw [hr]
  exact ⟨checkF_frmOf (by omega) hx, by rw [head_frmOf (by omega) hx]; exact hp⟩
end Go.Proofs.Ytkfcdfcoiglieaa
