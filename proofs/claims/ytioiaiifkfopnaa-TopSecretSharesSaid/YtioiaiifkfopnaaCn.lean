/- slices.Contains on ints, where it does not hold the element. -/
import Derived.Test.YtioiaiifkfopnaaSp
namespace Go.Proofs.Ytioiaiifkfopnaa
open Go.RowKit Go.Kin
set_option linter.unusedVariables false
theorem contains_not (a : Option Addr) (n c : Nat) (l : List Nat) (x : Nat) (w : World) (h : Rd vn w a n c l) (hn : n ≤ 1000) (hx : x ∉ l) :
    Calls Try.prog 22 #[.slice a n c, .int .i64 (x : Int)] w fun e w' => e = .returned (.bool false) ∧ w' = w := by
  by_cases h0 : n = 0
  · subst h0
    refine (Any.slices_Contains_int_empty Try.lCont a c (x : Int) w).mono fun e w' h => h
  · obtain ⟨b, o, rfl, _⟩ := h.cell 0 _ (List.getElem?_eq_getElem (show 0 < l.length by rw [h.len]; omega))
    refine (Any.slices_Contains_int Try.lCont b o n c (l.map Int.ofNat) (x : Int) w (by rw [List.length_map, h.len]; exact Nat.le_refl _) (by omega) ?_).mono ?_
    · intro j hj
      rw [List.length_map] at hj
      have hj2 := List.getElem?_eq_getElem hj
      obtain ⟨b', o', e, hc⟩ := h.cell j _ hj2
      cases e
      rw [hc, List.getD_eq_getElem?_getD, List.getElem?_map, hj2]
      rfl
    · rintro e w' ⟨rfl, rfl⟩
      refine ⟨?_, rfl⟩
      have hf : (List.take n (List.map Int.ofNat l)).contains (x : Int) = false := by
        rw [Bool.eq_false_iff]
        intro hc
        have hm := List.mem_of_mem_take (List.contains_iff_mem.1 hc)
        obtain ⟨y, hy, e⟩ := List.mem_map.1 hm
        obtain rfl : y = x := Int.ofNat.inj e
        exact hx hy
      rw [hf]
end Go.Proofs.Ytioiaiifkfopnaa
