/- Tables of numbers: what they are, and slices of slices of numbers that can be read. -/
import Derived.Test.YtpecepfnmkpmmaaKitR
import Derived.Test.YtpecepfnmkpmmaaChecked
namespace Quo
abbrev Tab := List (List Int)
def maxC : Int := 1099511627776
/-- All numbers are counts. -/
def Cnt (l : List Int) : Prop := ∀ x ∈ l, 0 ≤ x ∧ x ≤ maxC
instance (l : List Int) : Decidable (Cnt l) := by unfold Cnt; infer_instance
def rowOk (n i : Nat) (row : List Int) : Prop := row.length = n ∧ row[i]? = some 0 ∧ Cnt row
instance (n i : Nat) (row : List Int) : Decidable (rowOk n i row) := by unfold rowOk; infer_instance
/-- The table is valid. -/
def VT (T : Tab) : Prop := T.length ≤ 12 ∧ ∀ i, i < T.length → rowOk T.length i (T.getD i [])
instance (T : Tab) : Decidable (VT T) := by unfold VT; infer_instance
def at2 (T : Tab) (i j : Nat) : Int := (T.getD i []).getD j 0
theorem getD_of {α : Type} {l : List α} {i : Nat} {x d : α} (h : l[i]? = some x) : l.getD i d = x := by rw [List.getD_eq_getElem?_getD, h]; rfl
theorem get_some {α : Type} {l : List α} {i : Nat} (h : i < l.length) (d : α) : l[i]? = some (l.getD i d) := by
  rw [List.getD_eq_getElem?_getD, List.getElem?_eq_getElem h]; rfl
theorem VT.row {T : Tab} (h : VT T) {i : Nat} {r : List Int} (hr : T[i]? = some r) : r.length = T.length ∧ r[i]? = some 0 ∧ Cnt r := by
  have := h.2 i (List.getElem?_eq_some_iff.1 hr).1
  rwa [getD_of hr] at this
theorem VT.cnt {T : Tab} (h : VT T) {r : List Int} (hr : r ∈ T) : Cnt r := by
  obtain ⟨i, hi⟩ := List.mem_iff_getElem?.1 hr
  exact (h.row hi).2.2
theorem VT.len {T : Tab} (h : VT T) {r : List Int} (hr : r ∈ T) : r.length = T.length := by
  obtain ⟨i, hi⟩ := List.mem_iff_getElem?.1 hr
  exact (h.row hi).1
theorem VT.cell {T : Tab} (h : VT T) {i j : Nat} (hi : i < T.length) (hj : j < T.length) : ∃ r, T[i]? = some r ∧ r.length = T.length ∧ r[j]? = some (at2 T i j) ∧ 0 ≤ at2 T i j ∧ at2 T i j ≤ maxC := by
  have h1 := get_some hi []
  obtain ⟨h2, _, h4⟩ := h.row h1
  have h5 := get_some (show j < (T.getD i []).length by omega) 0
  exact ⟨_, h1, h2, h5, h4 _ (List.mem_of_getElem? h5)⟩
theorem at2_nonneg {T : Tab} (h : VT T) (i j : Nat) : 0 ≤ at2 T i j := by
  by_cases hi : i < T.length
  · by_cases hj : j < T.length
    · obtain ⟨_, _, _, _, h1, _⟩ := h.cell hi hj; exact h1
    · have h1 := get_some hi []
      have := (h.row h1).1
      unfold at2
      rw [List.getD_eq_getElem?_getD (i := j), List.getElem?_eq_none (by omega)]; simp
  · unfold at2
    rw [List.getD_eq_getElem?_getD (i := i), List.getElem?_eq_none (by omega)]; simp
theorem cnt_sum {l : List Int} (h : Cnt l) : 0 ≤ l.sum ∧ l.sum ≤ l.length * maxC := by
  induction l with
  | nil => simp
  | cons x l ih =>
    have h1 := h x (by simp)
    have h2 := ih fun y hy => h y (List.mem_cons_of_mem _ hy)
    rw [List.sum_cons, List.length_cons]
    refine ⟨by omega, ?_⟩
    rw [Int.natCast_succ, Int.add_mul]
    omega
theorem cnt_take {l : List Int} (h : Cnt l) (k : Nat) : Cnt (l.take k) := fun x hx => h x (List.mem_of_mem_take hx)
theorem sum_snoc {l : List Int} {j : Nat} {x : Int} (hx : l[j]? = some x) : (l.take (j + 1)).sum = (l.take j).sum + x := by
  rw [List.take_add_one, hx]; simp
/-- The sum of a column. -/
def col (T : Tab) (i : Nat) : List Int := T.map fun r => r.getD i 0
def heldF (T : Tab) : List Int := T.map List.sum
def balF (T : Tab) : List Int := (List.range T.length).map fun i => (col T i).sum - (T.getD i []).sum
theorem VT.col {T : Tab} (h : VT T) {i : Nat} (hi : i < T.length) : Cnt (col T i) := by
  intro x hx
  obtain ⟨r, hr, rfl⟩ := List.mem_map.1 hx
  have h1 := h.len hr
  exact h.cnt hr _ (List.mem_of_getElem? (get_some (show i < r.length by omega) 0))
end Quo

namespace Go.Kin
open Go.RowKit Quo
/-- A slice's header. -/
def vh (t : Option Addr × Nat × Nat) : Value := .slice t.1 t.2.1 t.2.2
theorem vh_one (t : Option Addr × Nat × Nat) : (vh t).oneCell' = true := rfl

/-- The slice at a reads as the list of rows M. -/
def RdT (w : World) (a : Option Addr) (n c : Nat) (M : Tab) : Prop :=
  ∃ L, Rd vh w a n c L ∧ M.length = n ∧ ∀ (i : Nat) (h : Option Addr × Nat × Nat) (m : List Int), L[i]? = some h → M[i]? = some m → Rd vi w h.1 h.2.1 h.2.2 m
theorem RdT.len {w : World} {a : Option Addr} {n c : Nat} {M : Tab} (h : RdT w a n c M) : M.length = n := by obtain ⟨_, _, h, _⟩ := h; exact h
theorem RdT.cap {w : World} {a : Option Addr} {n c : Nat} {M : Tab} (h : RdT w a n c M) : n ≤ c := by obtain ⟨_, h, _⟩ := h; exact h.cap
theorem RdT.max {w : World} {a : Option Addr} {n c : Nat} {M : Tab} (h : RdT w a n c M) : c ≤ maxLen := by obtain ⟨_, h, _⟩ := h; exact h.max
theorem RdT.lim {w : World} {a : Option Addr} {n c : Nat} {M : Tab} (h : RdT w a n c M) : n ≤ 9223372036854775807 := by have := h.cap; have := h.max; unfold maxLen at *; omega
theorem RdT.fw {w w' : World} {a : Option Addr} {n c : Nat} {M : Tab} (h : RdT w a n c M) (hb : Below w.heap.size w w') : RdT w' a n c M := by
  obtain ⟨L, h1, h2, h3⟩ := h
  exact ⟨L, h1.fw hb, h2, fun i h m hi hm => (h3 i h m hi hm).fw hb⟩
theorem RdT.fw2 {w w' : World} {a : Option Addr} {n c : Nat} {M : Tab} (hb : Below w.heap.size w w') (h : RdT w a n c M) : RdT w' a n c M := h.fw hb
theorem RdT.alloc {w : World} {a : Option Addr} {n c : Nat} {M : Tab} (o : Obj) (h : RdT w a n c M) : RdT (w.alloc o) a n c M := h.fw ((Below.refl _ _).alloc (Nat.le_refl _) o)
theorem RdT.row {w : World} {a : Option Addr} {n c : Nat} {M : Tab} (h : RdT w a n c M) {i : Nat} (hi : i < n) :
    ∃ (m : List Int) (ra : Option Addr) (rn rc b o : Nat), M[i]? = some m ∧ a = some ⟨b, o, none⟩ ∧ w.cell? ⟨b, o + i, none⟩ = some (.slice ra rn rc) ∧ Rd vi w ra rn rc m := by
  obtain ⟨L, h1, h2, h3⟩ := h
  have hx := List.getElem?_eq_getElem (show i < M.length by omega)
  have hy := List.getElem?_eq_getElem (show i < L.length by rw [h1.len]; exact hi)
  obtain ⟨b, o, ha, hc⟩ := h1.cell i _ hy
  exact ⟨_, _, _, _, b, o, hx, ha, hc, h3 i _ _ hy hx⟩
theorem RdT.nil (w : World) : RdT w none 0 0 [] := ⟨[], Rd.nil _ _, rfl, fun i h m hi _ => by simp at hi⟩
theorem RdT.at {w : World} {a : Option Addr} {n c : Nat} {M : Tab} (h : RdT w a n c M) {i : Nat} {m : List Int} (hm : M[i]? = some m) :
    ∃ (ra : Option Addr) (rc b o : Nat), a = some ⟨b, o, none⟩ ∧ w.cell? ⟨b, o + i, none⟩ = some (.slice ra m.length rc) ∧ Rd vi w ra m.length rc m := by
  have hi : i < n := by have := (List.getElem?_eq_some_iff.1 hm).1; rw [h.len] at this; exact this
  obtain ⟨m', ra, rn, rc, b, o, h1, h2, h3, h4⟩ := h.row hi
  rw [hm] at h1
  cases h1
  obtain rfl := h4.len
  exact ⟨ra, rc, b, o, h2, h3, h4⟩
end Go.Kin
