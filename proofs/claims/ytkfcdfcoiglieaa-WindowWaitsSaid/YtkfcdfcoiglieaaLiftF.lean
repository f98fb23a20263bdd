/- An argument that is a frame. No condition. -/
import Derived.Test.YtkfcdfcoiglieaaLift
import Derived.Test.YtkfcdfcoiglieaaFrameW
import Derived.Lib.SmallJoins
namespace Go.Proofs.Ytkfcdfcoiglieaa
open Go.Joins Go.ChangeShapes Go.WideShapes Go.ChangeAt Go.RowKit Go.Deep

def I64 (n : Int) : Prop := -9223372036854775808 ≤ n ∧ n ≤ 9223372036854775807
section
variable {H : Type} {enc : TypeId × Value → H}
theorem field_int {W : World} {n : Nat} {c : Value} {y : DataW H × List MemPlace} (h : DataW.trod enc Try.prog W 0 (fun _ => true) true n 3 [c] = some y) : ∃ m : Int, c = .int .i64 m ∧ I64 m := by
  obtain ⟨m, hc, _, hw⟩ := DataW.trod_int Try.underlying3 h
  injection hc with hc _
  simp [Lit.wf, IntKind.min, IntKind.max, IntKind.signed, IntKind.bits] at hw
  exact ⟨m, hc, by unfold I64; omega⟩
theorem field_bytes {W : World} {n : Nat} {c : Value} {y : DataW H × List MemPlace} (h : DataW.trod enc Try.prog W 0 (fun _ => true) true n 22 [c] = some y) : ∃ l, RB W c l := by
  rcases open_ints Try.underlying22 Try.underlying5 (by kernel_rfl) h with ⟨hcs, _⟩ | ⟨a, len, cap, zs, hcs, _, hl, hm, hz, _, hc, hwf⟩
  · injection hcs with hcs _
    rw [hcs]
    exact ⟨[], RB.nil W⟩
  · injection hcs with hcs _
    rw [hcs]
    have hz' : zs.length = cap := by simpa using hz
    have hby : ∀ z ∈ zs, ((UInt8.ofNat z.toNat).toNat : Int) = z := by
      intro z hzz
      have := hwf z hzz
      simp [Lit.wf, IntKind.min, IntKind.max, IntKind.signed, IntKind.bits] at this
      rw [UInt8.toNat_ofNat_of_lt' (by show _ < 256; omega)]; omega
    have hrd : Rd W (.slice (some a) len cap) (List.map bv ((zs.take len).map (fun z : Int => UInt8.ofNat z.toNat))) := by
     refine ⟨some a, cap, ?_, ?_, hm, fun h0 => ?_⟩
     · rw [List.length_map, List.length_map, List.length_take, hz', Nat.min_eq_left hl]
     · rw [List.length_map, List.length_map, List.length_take]; omega
     · obtain ⟨b, o, rfl, hat⟩ := ints_at hc (by omega)
       refine ⟨b, o, rfl, fun i x hx => ?_⟩
       simp only [List.map_map, List.getElem?_map, Option.map_eq_some_iff] at hx
       obtain ⟨z, hzi, rfl⟩ := hx
       rw [List.getElem?_take] at hzi
       split at hzi
       · have hlt : i < zs.length := (List.getElem?_eq_some_iff.1 hzi).1
         rw [hat i hlt]
         have hg : zs.getD i 0 = z := by rw [List.getD_eq_getElem?_getD, hzi]; rfl
         rw [hg]
         show _ = some (Value.int .u8 _)
         rw [hby z (List.mem_of_getElem? hzi)]
       · cases hzi
    exact ⟨_, hrd⟩

set_option maxRecDepth 100000 in
theorem open_frame {W : World} {base : Nat} {v : Value} {d : DataW H} {p : List MemPlace} (hval : Value.okWide Try.prog W .any base 47 v)
    (h : DataW.Trod enc Try.prog W 0 (fun _ => true) true 47 v d p) :
    ∃ (f : Frm) (vb : Value), v = fv f vb ∧ RB W vb f.body ∧ I64 f.typ ∧ I64 f.ses ∧ I64 f.boot ∧ I64 f.seq ∧ I64 f.ack := by
  have hs := Try.underlying47
  obtain ⟨cs, rfl, hsz⟩ := okWide_struct hs hval
  have hC : Try.prog.cellsOf 47 = 6 := by kernel_rfl
  have c1 : Try.prog.cellsOf 3 = 1 := by kernel_rfl
  have c2 : Try.prog.cellsOf 22 = 1 := by kernel_rfl
  obtain ⟨l⟩ := cs
  match l, hsz.trans hC with
  | [a0, a1, a2, a3, a4, a5], _ =>
    obtain ⟨fuel, hf⟩ := h
    obtain ⟨xs, n, _, hx, _, hlen, hg⟩ := DataW.trod_struct hs hf
    match xs, hlen with
    | [y0, y1, y2, y3, y4, y5], _ =>
      obtain ⟨m0, rfl, b0⟩ := field_int (by simpa [Value.cells, c1] using hg 0 _ rfl)
      obtain ⟨m1, rfl, b1⟩ := field_int (by simpa [Value.cells, c1] using hg 1 _ rfl)
      obtain ⟨m2, rfl, b2⟩ := field_int (by simpa [Value.cells, c1] using hg 2 _ rfl)
      obtain ⟨m3, rfl, b3⟩ := field_int (by simpa [Value.cells, c1] using hg 3 _ rfl)
      obtain ⟨m4, rfl, b4⟩ := field_int (by simpa [Value.cells, c1] using hg 4 _ rfl)
      obtain ⟨lb, hb⟩ := field_bytes (by simpa [Value.cells, c2] using hg 5 _ rfl)
      exact ⟨⟨m0, m1, m2, m3, m4, lb⟩, a5, rfl, hb, b0, b1, b2, b3, b4⟩
end
end Go.Proofs.Ytkfcdfcoiglieaa
