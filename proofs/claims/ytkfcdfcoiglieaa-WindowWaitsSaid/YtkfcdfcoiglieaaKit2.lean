import Derived.Test.YtkfcdfcoiglieaaKit
import Derived.Deep.RegionLaw
import Derived.Deep.DrawnRows
namespace Go.Proofs.Ytkfcdfcoiglieaa
open Go.RowKit
attribute [local go_sem ↓] Go.wp_at_zero Go.wp_at_succ
set_option maxRecDepth 100000 in
set_option maxHeartbeats 400000 in
theorem kept_any (A : Option Addr) (v : Value) (l : List UInt8) (w : World) (ha : RB w (.slice A (l.length + 3) (l.length + 3)) (lentL l)) (h : RB w v l) (hl : l.length ≤ 1000000000) :
    Calls Try.prog 34 #[.slice A l.length (l.length + 3), v] w fun e w' => e = .returned (.bool true) ∧ New w w' := by
  obtain ⟨A', c, rfl, hl1, hc1⟩ := h.shape
  have hw : IntKind.i64.wrap ((l.length : Int) + 3) = (l.length : Int) + 3 := IntWalk.i64_in _ (by omega)
  have h0 : (0 : Int) ≤ (l.length : Int) + 3 := by omega
  have hn : ((l.length : Int) + 3).toNat = l.length + 3 := by omega
  have hlen := length_lentL l
  have Hlen := Lib.hid hlen
  clear hlen
  go_enter Try.func34, Try.ntmps34
  go_wp2_with fail
  go_region_held3 (fun _ => True) (trivial) (first
    | (go_at_call 26; refine (lent_any _ l _ (by exact h.new_ (New.drew w)) hl).mono ?_; rintro e w1 ⟨rfl, hB1, hn1⟩)
    | (go_at_call 31; refine (same_any _ _ (lentL l) (lentL l) _ (by exact ha.new_ ((New.drew w).trans hn1)) (by exact rb_lent hB1 Hlen.out (by omega))).mono ?_; rintro e w2 ⟨rfl, rfl⟩))
  go_wp2
  go_ret
  exact ⟨rfl, (New.drew w).trans hn1⟩

theorem xor90 (c : UInt8) : bits .xor .u8 (c.toNat : Int) 90 = ((c ^^^ 90).toNat : Int) := by
  have := c.toNat_lt
  rw [show (90 : Int) = ((90 : Nat) : Int) from rfl, u8_xor_nat _ _ (by omega) (by omega), UInt8.toNat_xor]; rfl

set_option maxRecDepth 100000 in
set_option maxHeartbeats 400000 in
theorem over_any (v : Value) (base : Nat) (xs : List Value) (w : World) (h : OwnP isB w base 5 v xs) :
    Calls Try.prog 33 #[v] w fun e w' => e = .returned (.tuple #[]) ∧ Mod (fun k => v.ownBlock = some k) w w' := by
  rcases h with ⟨rfl, rfl⟩ | ⟨g, o, cap, cur, rfl, h2, h3, h4, h5, h6, h7, h8⟩
  · go_enter Try.func33, Try.ntmps33
    go_wp2_with fail
    go_loop [3] (fun u3 => u3 = .int .i64 0) (fun _ => 0)
    case atStart => rfl
    case round =>
      subst hrel
      go_wp2
      go_end0
      exact ⟨rfl, Mod.refl _ _⟩
  · have h5' : (cap : Int) ≤ 9223372036854775807 := by unfold maxLen at h5; omega
    have h5'' : cap ≤ 9223372036854775807 := by unfold maxLen at h5; omega
    clear h7 h2 h5
    go_enter Try.func33, Try.ntmps33
    go_wp2_with fail
    go_loopw [3] (fun u3 wr => ∃ (i : Nat) (cs : Array Value), i ≤ cap ∧ u3 = .int .i64 i ∧ Bk wr g 5 cs ∧ o + cap ≤ cs.size ∧ (∀ x ∈ cs.toList, isB x) ∧ Mod (fun k => some g = some k) w wr) (fun u3 _ => cap - (intOf u3).toNat)
    case atStart => exact ⟨0, cur, by omega, rfl, h3, h6, h8, Mod.refl _ _⟩
    case round =>
      clear h3 h6 h8
      obtain ⟨i, cs, hi, rfl, hB, hsz, hall, hm⟩ := hrel
      by_cases hlt : i < cap
      · have hin : o + i < cs.size := by omega
        obtain ⟨c, hc⟩ := hall (cs[o + i]) (by simp)
        have hcell : wr.cell? ⟨g, o + i, none⟩ = some (bv c) := hB.cellAt (by rw [← hc]; exact Array.getElem?_eq_getElem hin)
        have hfr := hB.frozen (o + i)
        have Hall := Lib.hid hall
        have Hc := Lib.hid hc
        clear hall hc
        go_wp2
        rw [xor90]
        refine ⟨⟨i + 1, cs.setIfInBounds (o + i) (bv (c ^^^ 90)), by omega, by go_num, hB.set_ _ _, by simpa using hsz, fun x hx => ?_, hm.trans (T := fun k => some g = some k) ⟨rfl, rfl, rfl, by simp, fun k _ hk => Below.heap_setCell _ _ _ _ (fun e => hk (by rw [e]))⟩ (fun _ h _ => h)⟩, by simp [intOf]; omega⟩
        rw [Array.toList_setIfInBounds] at hx
        rcases List.mem_or_eq_of_mem_set hx with hx | hx
        · exact Hall.out x hx
        · exact ⟨_, hx⟩
      · have hi' : i = cap := by omega
        subst hi'
        go_wp2
        go_end0
        exact ⟨rfl, hm⟩
end Go.Proofs.Ytkfcdfcoiglieaa
