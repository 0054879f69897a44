/- matrix.Kernel. -/
import Derived.Test.YtioiaiifkfopnaaMq
namespace Mat
/-- The free columns ahead of col. -/
def freeC (piv : List Nat) (col : Nat) : List Nat := (List.range col).filter fun c => decide (c ∉ piv)
theorem freeC_pivot {piv : List Nat} {col : Nat} (h : col ∈ piv) : freeC piv (col + 1) = freeC piv col := by
  unfold freeC; rw [List.range_succ, List.filter_append]; simp [h]
theorem freeC_free {piv : List Nat} {col : Nat} (h : col ∉ piv) : freeC piv (col + 1) = freeC piv col ++ [col] := by
  unfold freeC; rw [List.range_succ, List.filter_append]; simp [h]
theorem freeC_le (piv : List Nat) (col : Nat) : (freeC piv col).length ≤ col := by
  have := List.length_filter_le (fun c => decide (c ∉ piv)) (List.range col)
  rw [List.length_range] at this; exact this
theorem piv_inj {n k : Nat} {s : EState} (h : Ech n k s) {i j x : Nat} (hi : s.piv[i]? = some x) (hj : s.piv[j]? = some x) : i = j := by
  have h1 := (List.getElem?_eq_some_iff.1 hi).1
  have h2 := (List.getElem?_eq_some_iff.1 hj).1
  have e1 := (List.getElem?_eq_some_iff.1 hi).2
  have e2 := (List.getElem?_eq_some_iff.1 hj).2
  rcases Nat.lt_trichotomy i j with h3 | h3 | h3
  · have := List.pairwise_iff_getElem.1 h.sorted i j h1 h2 h3; omega
  · exact h3
  · have := List.pairwise_iff_getElem.1 h.sorted j i h2 h1 h3; omega
theorem piv_le {n k : Nat} {s : EState} (h : Ech n k s) {i j x y : Nat} (hi : s.piv[i]? = some x) (hj : s.piv[j]? = some y) (hij : i ≤ j) : x ≤ y := by
  rcases Nat.lt_or_ge i j with h3 | h3
  · have h1 := (List.getElem?_eq_some_iff.1 hi).1
    have h2 := (List.getElem?_eq_some_iff.1 hj).1
    have e1 := (List.getElem?_eq_some_iff.1 hi).2
    have e2 := (List.getElem?_eq_some_iff.1 hj).2
    have := List.pairwise_iff_getElem.1 h.sorted i j h1 h2 h3; omega
  · have : i = j := by omega
    subst this
    rw [hi] at hj; cases hj; exact Nat.le_refl _
/-- passed: how many pivots lie ahead of col. -/
def Passed (s : EState) (ps col : Nat) : Prop := ps ≤ s.piv.length ∧ ∀ i x, s.piv[i]? = some x → (i < ps ↔ x < col)
theorem passed_zero (s : EState) : Passed s 0 0 := ⟨by omega, fun i x _ => by omega⟩
theorem passed_pivot {n k : Nat} {s : EState} (h : Ech n k s) {ps col : Nat} (hp : Passed s ps col) (he : s.piv[ps]? = some col) : Passed s (ps + 1) (col + 1) := by
  refine ⟨(List.getElem?_eq_some_iff.1 he).1, fun i x hx => ?_⟩
  have h1 := hp.2 i x hx
  by_cases e : i = ps
  · subst e; rw [he] at hx; cases hx; omega
  · have : x ≠ col := fun e2 => by subst e2; exact e (piv_inj h hx he)
    omega
theorem passed_free {n k : Nat} {s : EState} (h : Ech n k s) {ps col : Nat} (hp : Passed s ps col) (he : s.piv[ps]? ≠ some col) : col ∉ s.piv ∧ Passed s ps (col + 1) := by
  have hnot : col ∉ s.piv := by
    intro hm
    obtain ⟨i, hi⟩ := List.mem_iff_getElem?.1 hm
    have h1 := hp.2 i col hi
    have hlt := (List.getElem?_eq_some_iff.1 hi).1
    have hq := List.getElem?_eq_getElem (show ps < s.piv.length by omega)
    have h2 := hp.2 ps _ hq
    have h3 := piv_le h hq hi (by omega)
    exact he (by rw [hq]; congr 1; omega)
  refine ⟨hnot, hp.1, fun i x hx => ?_⟩
  have h1 := hp.2 i x hx
  have : x ≠ col := fun e2 => by subst e2; exact hnot (List.mem_of_getElem? hx)
  omega
end Mat
namespace Go.Proofs.Ytioiaiifkfopnaa
open Go.RowKit Go.Kin Mat
open Fq (sum)
set_option maxRecDepth 100000
set_option linter.unusedVariables false

/-- The basis out of the free columns F. -/
def kerM (s : EState) (F : List Nat) : Mat := fun r => kerV s (F.getD r 0) s.piv.length

theorem kerv_start {w : World} {g k col : Nat} {s : EState} (h : Blk vb 5 w g (mrow k fun _ => 0)) : Blk vb 5 (w.setCell ⟨g, col, none⟩ (.int .u8 1)) g (mrow k (kerV s col 0)) := by
  have := h.set col 1
  rw [mrow_set _ _ (by omega)] at this
  exact this
theorem kerv_step {w : World} {g k col q p y : Nat} {s : EState} (h : Blk vb 5 w g (mrow k (kerV s col q))) (hp : s.piv[q]? = some p) (hy : y < 256) (hyq : Fq.of y = s.R q col) : Blk vb 5 (w.setCell ⟨g, p, none⟩ (.int .u8 (y : Int))) g (mrow k (kerV s col (q + 1))) := by
  have := h.set p y
  rw [mrow_set _ _ hy] at this
  rw [mrow_congr (g := fun c => if c = p then Fq.of y else kerV s col q c) fun c _ => ?_]
  · exact this
  · show (if s.piv[q]? = some c then s.R q col else kerV s col q c) = _
    rw [hp, hyq]
    by_cases e : c = p
    · rw [if_pos e, e, if_pos rfl]
    · rw [if_neg e, if_neg (fun h => e (by cases h; rfl))]

end Go.Proofs.Ytioiaiifkfopnaa
