/- What the laws of chapter 13 over a list of calls share: 'long', and a window that is none. Conditions: the sizes that a row lets in. -/
import Derived.Test.YtkfcdfcoiglieaaLiftA
import Derived.Test.YtkfcdfcoiglieaaWKnown
namespace Go.Proofs.Ytkfcdfcoiglieaa
open Go.RowKit

def sumA (acts : List AcT) : Nat := (acts.map (·.b.length)).sum
/-- Are there more than 150 calls, or more than 4,000 bytes? -/
def longA (acts : List AcT) : Bool := decide (150 < acts.length) || decide (4000 < sumA (acts.take 151))
theorem sumA_take {acts : List AcT} {i : Nat} (h : i < acts.length) : sumA (acts.take (i + 1)) = sumA (acts.take i) + acts[i].b.length := by
  unfold sumA
  rw [List.take_succ_eq_append_getElem h, List.map_append, List.sum_append]; simp
theorem sumA_le {acts : List AcT} (hb : ∀ a ∈ acts, a.b.length ≤ 140737488351232) : ∀ i, i ≤ acts.length → sumA (acts.take i) ≤ i * 140737488351232
  | 0, _ => by simp [sumA]
  | i + 1, h => by
    rw [sumA_take (by omega)]
    have := sumA_le hb i (by omega)
    have := hb acts[i] (List.getElem_mem (by omega))
    omega
theorem mem_le_sum {n : Nat} : ∀ {l : List Nat}, n ∈ l → n ≤ l.sum
  | x :: l, h => by
    rw [List.sum_cons]
    rcases List.mem_cons.1 h with rfl | h
    · omega
    · have := mem_le_sum h; omega
theorem longA_not {acts : List AcT} (h : longA acts = false) : acts.length ≤ 150 ∧ ∀ a ∈ acts, a.b.length ≤ 4000 := by
  unfold longA at h
  simp only [Bool.or_eq_false_iff, decide_eq_false_iff_not] at h
  have hl : acts.length ≤ 150 := by omega
  refine ⟨hl, fun a ha => ?_⟩
  rw [List.take_of_length_le (by omega)] at h
  have : a.b.length ≤ sumA acts := mem_le_sum (List.mem_map.2 ⟨a, ha, rfl⟩)
  omega
set_option maxRecDepth 100000 in
set_option maxHeartbeats 1600000 in
theorem long_any (v : Value) (acts : List AcT) (w : World) (h : RA w v acts) (hb : ∀ a ∈ acts, a.b.length ≤ 140737488351232) :
    Calls Try.prog 69 #[v] w fun e w' => e = .returned (.bool (longA acts)) ∧ w = w' := by
  obtain ⟨A, c, rfl, hc1, hc2, hx⟩ := h
  have hl : acts.length ≤ 9223372036854775807 := by omega
  have hpost : ∀ (i : Nat), i ≤ acts.length → i ≤ 151 → (i < acts.length → 151 ≤ i) → (decide (150 < acts.length) = true ∧ longA acts = true) ∨ (decide (150 < acts.length) = false ∧ longA acts = decide (4000 < sumA (acts.take i))) := by
    intro i h1 h2 h3
    by_cases h : 150 < acts.length
    · left; exact ⟨decide_eq_true h, by unfold longA; simp [h]⟩
    · right
      refine ⟨decide_eq_false h, ?_⟩
      have hi : i = acts.length := by omega
      unfold longA
      rw [hi, List.take_length, List.take_of_length_le (by omega)]
      simp [h]
  have HP := Lib.hid hpost; have Hx := Lib.hid hx; have Hb := Lib.hid hb
  clear hpost hx hb
  go_enter Try.func69, Try.ntmps69
  go_wp2
  go_loop [3, 4] (fun u3 u4 => ∃ (i : Nat), i ≤ acts.length ∧ i ≤ 151 ∧ u4 = .int .i64 i ∧ u3 = .int .i64 (sumA (acts.take i) : Nat)) (fun _ u4 => acts.length - (intOf u4).toNat)
  case atStart => exact ⟨0, Nat.zero_le _, by omega, rfl, rfl⟩
  case round =>
    obtain ⟨i, hi, hi2, rfl, rfl⟩ := hrel
    have hs := sumA_le Hb.out i hi
    by_cases hlt : i < acts.length
    · by_cases hlt2 : i < 151
      · obtain ⟨b, o, rfl, hcell⟩ := Hx.out (by omega)
        obtain ⟨u, _, _, _, c3, hr⟩ := hcell i acts[i] (List.getElem?_eq_getElem hlt)
        obtain ⟨A2, c2, rfl, hr1, hr2⟩ := hr.shape
        have hbl := Hb.out acts[i] (List.getElem_mem hlt)
        have Hst := Lib.hid (sumA_take hlt)
        have iI0 : (0 : Int) ≤ (i : Int) := by omega
        have iI1 : (i : Int) < (acts.length : Int) := by omega
        clear hcell hr
        go_wp2
        go_round
        case rel => exact ⟨i + 1, by omega, by omega, by go_num, by rw [Hst.out]; go_num⟩
        case measure => simp [intOf]; omega
      · rcases HP.out i hi hi2 (fun _ => by omega) with ⟨h1, h2⟩ | ⟨h1, h2⟩
        · have h1' : (150 : Int) < (acts.length : Int) := by have := of_decide_eq_true h1; omega
          have H2 := Lib.hid h2; clear h1 h2
          go_wp2
          go_ret
          exact ⟨by rw [H2.out]; rfl, rfl⟩
        · have := of_decide_eq_false h1; omega
    · rcases HP.out i hi hi2 (fun h => absurd h hlt) with ⟨h1, h2⟩ | ⟨h1, h2⟩
      · have h1' : (150 : Int) < (acts.length : Int) := by have := of_decide_eq_true h1; omega
        have H2 := Lib.hid h2; clear h1 h2
        go_wp2
        go_ret
        exact ⟨by rw [H2.out]; rfl, rfl⟩
      · have h1' : ¬ (150 : Int) < (acts.length : Int) := by have := of_decide_eq_false h1; omega
        have H2 := Lib.hid h2; clear h1 h2
        go_wp2
        go_ret
        refine ⟨?_, rfl⟩
        rw [H2.out]
        exact congrArg (fun x : Bool => Ending.returned (.bool x)) (by rw [Bool.eq_iff_iff]; simp; omega)
/-- A window that is nil, or that New did not make. -/
def NoWin (w : World) (pv : Value) : Prop := pv = .pointer none ∨ ∃ g, pv = ptr g ∧ w.cell? ⟨g, 0, none⟩ = some (.int .i64 0)
theorem none_no {pv : Value} {w : World} (h : NoWin w pv) : Calls Try.prog 96 #[pv] w fun e w' => e = .returned (.bool true) ∧ w = w' := by
  rcases h with rfl | ⟨g, rfl, h⟩
  · exact none_nil w
  · exact none_zero g w h
set_option maxRecDepth 100000 in
set_option maxHeartbeats 400000 in
theorem push_no (pv v : Value) (w : World) (h : NoWin w pv) : Calls Try.prog 65 #[pv, v] w fun e w' => e = .returned (.tuple #[.int .i64 0, .int .i64 1]) ∧ w = w' := by
  have H := Lib.hid h; clear h
  go_enter Try.func65, Try.ntmps65
  go_wp2_with fail
  refine (none_no H.out).mono ?_
  rintro e w1 ⟨rfl, rfl⟩
  go_wp2_with fail
  go_ret2
  exact ⟨rfl, rfl⟩
set_option maxRecDepth 100000 in
set_option maxHeartbeats 400000 in
theorem ack_no (pv : Value) (n now : Int) (w : World) (h : NoWin w pv) : Calls Try.prog 66 #[pv, .int .i64 n, .int .i64 now] w fun e w' => e = .returned (.tuple #[.int .i64 0, .int .i64 1]) ∧ w = w' := by
  have H := Lib.hid h; clear h
  go_enter Try.func66, Try.ntmps66
  go_wp2_with fail
  refine (none_no H.out).mono ?_
  rintro e w1 ⟨rfl, rfl⟩
  go_wp2_with fail
  go_ret2
  exact ⟨rfl, rfl⟩
set_option maxRecDepth 100000 in
set_option maxHeartbeats 400000 in
theorem when_no (pv : Value) (w : World) (h : NoWin w pv) : Calls Try.prog 71 #[pv] w fun e w' => e = .returned (.tuple #[.int .i64 0, .bool false]) ∧ w = w' := by
  have H := Lib.hid h; clear h
  go_enter Try.func71, Try.ntmps71
  go_wp2_with fail
  refine (none_no H.out).mono ?_
  rintro e w1 ⟨rfl, rfl⟩
  go_wp2_with fail
  go_ret2
  exact ⟨rfl, rfl⟩
set_option maxRecDepth 100000 in
set_option maxHeartbeats 400000 in
theorem times_no (pv : Value) (w : World) (h : NoWin w pv) : Calls Try.prog 74 #[pv] w fun e w' => e = .returned (.tuple #[.float .f64 0, .float .f64 0]) ∧ w = w' := by
  have H := Lib.hid h; clear h
  go_enter Try.func74, Try.ntmps74
  go_wp2_with fail
  refine (none_no H.out).mono ?_
  rintro e w1 ⟨rfl, rfl⟩
  go_wp2_with fail
  go_ret2
  exact ⟨rfl, rfl⟩
set_option maxRecDepth 100000 in
set_option maxHeartbeats 400000 in
theorem open_no (pv : Value) (w : World) (h : NoWin w pv) : Calls Try.prog 68 #[pv] w fun e w' => e = .returned (.int .i64 0) ∧ w = w' := by
  have H := Lib.hid h; clear h
  go_enter Try.func68, Try.ntmps68
  go_wp2_with fail
  refine (none_no H.out).mono ?_
  rintro e w1 ⟨rfl, rfl⟩
  go_wp2_with fail
  go_ret
  exact ⟨rfl, rfl⟩
set_option maxRecDepth 100000 in
set_option maxHeartbeats 400000 in
theorem last_no (pv : Value) (w : World) (h : NoWin w pv) : Calls Try.prog 70 #[pv] w fun e w' => e = .returned (.int .i64 0) ∧ w = w' := by
  have H := Lib.hid h; clear h
  go_enter Try.func70, Try.ntmps70
  go_wp2_with fail
  refine (none_no H.out).mono ?_
  rintro e w1 ⟨rfl, rfl⟩
  go_wp2_with fail
  go_ret
  exact ⟨rfl, rfl⟩
set_option maxRecDepth 100000 in
set_option maxHeartbeats 400000 in
theorem due_no (pv : Value) (now : Int) (w : World) (h : NoWin w pv) : Calls Try.prog 67 #[pv, .int .i64 now] w fun e w' => e = .returned (.slice none 0 0) ∧ w = w' := by
  have H := Lib.hid h; clear h
  refine callsIn_wide (n := 5).1 ?_
  refine callsIn_of_wp_marks Try.func67 rfl trivial ?_ rfl
  simp only [Try.ntmps67, List.size_toArray, List.length_cons, List.length_nil, Nat.reduceAdd, Nat.reduceSub, Array.replicate_succ, Array.replicate_zero, List.push_toArray, List.append_toArray, List.nil_append, List.cons_append]
  gi_wp2_with fail
  refine ⟨trivial, callsIn_wide.2 ((none_no H.out).mono ?_)⟩
  rintro e w1 ⟨rfl, rfl⟩
  gi_wp2
  refine ⟨trivial, ?_⟩
  gi_wp2
  exact ⟨_, results_tmp rfl _ _ _, rfl, rfl⟩
end Go.Proofs.Ytkfcdfcoiglieaa
