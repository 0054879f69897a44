/- kinkeepref04.Identity, Cauchy, Vandermonde, Transpose, Product, Apply. -/
import Derived.Test.YtioiaiifkfopnaaMr
import Derived.Test.YtioiaiifkfopnaaMj
import Derived.StillTailTactics
namespace Mat
open Fq (sum)
/-- The rows ahead of r, and row r ahead of column c. -/
def grid (F : Mat) (r c : Nat) : Mat := fun i j => if i < r ∨ (i = r ∧ j < c) then F i j else 0
theorem grid_zero (F : Mat) (i j : Nat) : grid F 0 0 i j = 0 := by unfold grid; rw [if_neg (by omega)]
theorem grid_step (F : Mat) (r c i j : Nat) : setEl (grid F r c) r c (F r c) i j = grid F r (c + 1) i j := by
  unfold setEl grid
  by_cases h : i = r ∧ j = c
  · obtain ⟨rfl, rfl⟩ := h
    rw [if_pos ⟨rfl, rfl⟩, if_pos (by omega)]
  · rw [if_neg h]
    by_cases h2 : i < r ∨ (i = r ∧ j < c)
    · rw [if_pos h2, if_pos (by omega)]
    · rw [if_neg h2, if_neg (by omega)]
theorem grid_row (F : Mat) (r k i j : Nat) (hj : j < k) : grid F r k i j = grid F (r + 1) 0 i j := by
  unfold grid
  by_cases h2 : i < r ∨ (i = r ∧ j < k)
  · rw [if_pos h2, if_pos (by omega)]
  · rw [if_neg h2, if_neg (by omega)]
theorem grid_done (F : Mat) (n i j : Nat) (hi : i < n) : grid F n 0 i j = F i j := by unfold grid; rw [if_pos (by omega)]
theorem grid_at (F : Mat) (r c : Nat) : grid F r c r c = 0 := by unfold grid; rw [if_neg (by omega)]
theorem setEl_twice (f : Mat) (r c : Nat) (x y : Fq) (i j : Nat) : setEl (setEl f r c x) r c y i j = setEl f r c y i j := by
  unfold setEl; split <;> rfl
theorem setEl_self (f : Mat) (r c i j : Nat) : setEl f r c (f r c) i j = f i j := by
  unfold setEl; split
  · next h => rw [h.1, h.2]
  · rfl
theorem setEl_at (f : Mat) (r c : Nat) (x : Fq) : setEl f r c x r c = x := if_pos ⟨rfl, rfl⟩
theorem setEl_congr {f g : Mat} {r c : Nat} {x y : Fq} {i j : Nat} (h : f i j = g i j) (hx : x = y) : setEl f r c x i j = setEl g r c y i j := by
  unfold setEl; rw [h, hx]
/-- The rows' elements column by column. -/
def tr (F : Mat) : Mat := fun i j => F j i
theorem setEl_tr (f : Mat) (r c : Nat) (x : Fq) (i j : Nat) : setEl (tr f) r c x i j = tr (setEl f c r x) i j := by
  unfold setEl tr
  show (if i = r ∧ j = c then x else f j i) = if j = c ∧ i = r then x else f j i
  by_cases h : i = r ∧ j = c
  · rw [if_pos h, if_pos ⟨h.2, h.1⟩]
  · rw [if_neg h, if_neg (fun h2 => h ⟨h2.2, h2.1⟩)]
def cauchyM (k : Nat) : Mat := fun j i => Fq.inv (Fq.of ((k + j) ^^^ i))
def vanderM : Mat := fun i j => Fq.pow (Fq.of i) j
theorem xor_ne {a b : Nat} (h : a ≠ b) : a ^^^ b ≠ 0 := fun e => h (by
  have : a ^^^ (a ^^^ b) = a ^^^ 0 := by rw [e]
  rw [← Nat.xor_assoc, Nat.xor_self, Nat.zero_xor, Nat.xor_zero] at this
  exact this.symm)
end Mat
namespace Go.Proofs.Ytioiaiifkfopnaa
open Go.RowKit Go.Kin Mat
open Fq (sum)
set_option maxRecDepth 100000

theorem xor_arg {x k j c : Nat} (hx : x = (k + j) ^^^ c) (h1 : k + j < 256) (h2 : c < 256) (h3 : x < 256) : IntKind.u8.wrap (bits .xor .i64 (IntKind.i64.wrap ((k : Int) + (j : Int))) (c : Int)) = ((x : Nat) : Int) := by
  have := i64_xor_nat (k + j) c (by omega) (by omega)
  rw [IntWalk.i64_in _ (by omega), show (k : Int) + (j : Int) = ((k + j : Nat) : Int) by simp, this, ← hx, IntKind.wrap_u8']
  omega
theorem MatB.drew {w : World} {B : Nat} {a : Option Addr} {n c k : Nat} {f : Mat} (h : MatB w B a n c k f) : MatB w.drew B a n c k f := h.fw (below_refl w).drew
end Go.Proofs.Ytioiaiifkfopnaa
