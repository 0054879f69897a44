/- gf256.Dot, multiplier, Scale, MulAdd on slices of bytes. -/
import Derived.Test.YtioiaiifkfopnaaGfA
import Derived.Laws.MakeOwn
namespace Gf
/-- The sum of the first k products. -/
def dotTo (p q : List Nat) : Nat → Nat
  | 0 => 0
  | k + 1 => dotTo p q k ^^^ mul (p.getD k 0) (q.getD k 0)
def dot (p q : List Nat) : Nat := dotTo p q p.length
def Byt (l : List Nat) : Prop := ∀ x ∈ l, x < 256
theorem Byt.at {l : List Nat} (h : Byt l) {i x : Nat} (hx : l[i]? = some x) : x < 256 := h x (List.mem_of_getElem? hx)
theorem Byt.getD {l : List Nat} (h : Byt l) (i : Nat) : l.getD i 0 < 256 := by
  rw [List.getD_eq_getElem?_getD]
  cases hx : l[i]? with
  | none => simp
  | some x => exact h.at hx
theorem dotTo_lt {p q : List Nat} (hp : Byt p) (k : Nat) : dotTo p q k < 256 := by
  induction k with
  | zero => show 0 < 256; omega
  | succ k ih => exact Nat.xor_lt_two_pow (n := 8) ih (mul_lt _ _ (hp.getD k))
end Gf
namespace Go.Proofs.Ytioiaiifkfopnaa
open Go.RowKit Go.Kin

end Go.Proofs.Ytioiaiifkfopnaa
