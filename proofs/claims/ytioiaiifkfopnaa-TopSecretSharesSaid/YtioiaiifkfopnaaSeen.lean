/- var seen [256]bool. -/
import Derived.Test.YtioiaiifkfopnaaKitB
import Derived.Test.YtioiaiifkfopnaaChecked
import Derived.Laws.Rows
namespace Go.Proofs.Ytioiaiifkfopnaa
open Go.RowKit Go.Kin
set_option maxRecDepth 100000

def seenL (l : List Nat) : List Bool := (List.range 256).map fun y => decide (y ∈ l)
def seenA (l : List Nat) : Array Value := row Value.bool (seenL l)

theorem seenL_get (l : List Nat) {y : Nat} (h : y < 256) : (seenL l)[y]? = some (decide (y ∈ l)) := by
  simp [seenL, h]
theorem seenL_set (l : List Nat) (x : Nat) : (seenL l).set x true = seenL (l ++ [x]) := by
  apply List.ext_getElem?
  intro i
  rw [List.getElem?_set]
  have hlen : ∀ m, (seenL m).length = 256 := fun m => by simp [seenL]
  by_cases hi : i < 256
  · rw [seenL_get l hi, seenL_get _ hi]
    by_cases e : x = i
    · rw [if_pos e, hlen, if_pos (by omega), e]; simp
    · rw [if_neg e]; congr 2; simp; omega
  · have n1 : (seenL l)[i]? = none := List.getElem?_eq_none (by rw [hlen]; omega)
    have n2 : (seenL (l ++ [x]))[i]? = none := List.getElem?_eq_none (by rw [hlen]; omega)
    rw [n1, n2, hlen]
    split
    · split <;> first | rfl | omega
    · rfl
theorem seenA_get (l : List Nat) {y : Nat} (h : y < 256) : (seenA l)[y]? = some (.bool (decide (y ∈ l))) := by
  rw [seenA, row_get, seenL_get l h]; rfl
theorem seenA_set (l : List Nat) (x : Nat) : (seenA l).setIfInBounds x (.bool true) = seenA (l ++ [x]) := by
  rw [seenA, row_set, seenL_set]; rfl
theorem seen_zero (w : World) : (zeroValue 83).run Try.prog w = .ok (.agg (seenA [])) w := by kernel_rfl
attribute [irreducible] seenA

/-- The block g tells which elements were seen. -/
def Seen (w : World) (g : Nat) (l : List Nat) : Prop := w.heap[g]? = some (.cells (seenA l) 83 (0, 0))
theorem Seen.lt {w : World} {g : Nat} {l : List Nat} (h : Seen w g l) : g < w.heap.size := (Array.getElem?_eq_some_iff.1 h).1
theorem Seen.cell {w : World} {g : Nat} {l : List Nat} (h : Seen w g l) {y : Nat} (hy : y < 256) : w.cell? ⟨g, y, none⟩ = some (.bool (decide (y ∈ l))) := by
  rw [cell_of_row w g y _ _ _ h, seenA_get l hy]
theorem Seen.frozen {w : World} {g : Nat} {l : List Nat} (h : Seen w g l) (y : Nat) : w.frozen? ⟨g, y, none⟩ = false := frozen_of_row w g y _ _ h
theorem Seen.set {w : World} {g : Nat} {l : List Nat} (h : Seen w g l) (x : Nat) : Seen (w.setCell ⟨g, x, none⟩ (.bool true)) g (l ++ [x]) := by
  unfold Seen
  rw [← seenA_set]
  exact heap_setCell_same w g x _ _ _ h
theorem Seen.new (w : World) : Seen (w.alloc (.cells (seenA []) 83 (0, 0))) w.heap.size [] := heap_alloc_new w _

theorem take_succ_get {l : List Nat} {k x : Nat} (hx : l[k]? = some x) : l.take (k + 1) = l.take k ++ [x] := by
  rw [List.take_add_one, hx]; rfl
theorem nodup_snoc {l : List Nat} {x : Nat} (h : l.Nodup) (hx : x ∉ l) : (l ++ [x]).Nodup := by
  rw [List.nodup_append]
  exact ⟨h, by simp, fun a ha b hb => by simp at hb; intro e; subst e; subst hb; exact hx ha⟩
theorem not_nodup_take {l : List Nat} {k x : Nat} (hx : l[k]? = some x) (hm : x ∈ l.take k) : ¬ l.Nodup := by
  intro h
  have h2 := h.sublist (List.take_sublist (k + 1) l)
  rw [take_succ_get hx, List.nodup_append] at h2
  exact h2.2.2 x hm x (by simp) rfl
end Go.Proofs.Ytioiaiifkfopnaa
