/- gf256.Dot, multiplier, Scale, MulAdd on slices of bytes. -/
import Derived.Test.YtgjfgmapdnohhaaGfA
import Derived.Laws.MakeOwn
namespace Gf
/-- The sum of the first k products. -/
def dotTo (p q : List Nat) : Nat → Nat
  | 0 => 0
  | k + 1 => dotTo p q k ^^^ mul (p.getD k 0) (q.getD k 0)
def dot (p q : List Nat) : Nat := dotTo p q p.length
def Byt (l : List Nat) : Prop := ∀ x ∈ l, x < 256
theorem Byt.at {l : List Nat} (h : Byt l) {i x : Nat} (hx : l[i]? = some x) : x < 256 := h x (List.mem_of_getElem? hx)
theorem Byt.getD {l : List Nat} (h : Byt l) (i : Nat) : l.getD i 0 < 256 := by
  rw [List.getD_eq_getElem?_getD]
  cases hx : l[i]? with
  | none => simp
  | some x => exact h.at hx
theorem dotTo_lt {p q : List Nat} (hp : Byt p) (k : Nat) : dotTo p q k < 256 := by
  induction k with
  | zero => show 0 < 256; omega
  | succ k ih => exact Nat.xor_lt_two_pow (n := 8) ih (mul_lt _ _ (hp.getD k))
end Gf
namespace Go.Proofs.Ytgjfgmapdnohhaa
open Go.RowKit Go.Kin

theorem dot_ne (a b : Option Addr) (n m c d : Nat) (w : World) (h : n ≠ m) :
    Calls Try.prog 28 #[.slice a n c, .slice b m d] w fun e w' => e = .returned (.tuple #[.int .u8 0, .int .i64 1]) ∧ w = w' := by
  have h0 : (((n : Nat) : Int) != ((m : Nat) : Int)) = true := by simp; omega
  go_enter Try.func28, Try.ntmps28
  go_wp2
  go_ret2
  exact ⟨rfl, rfl⟩

theorem dot_any (a b : Option Addr) (n c d : Nat) (p q : List Nat) (w : World) (h1 : Rd vb w a n c p) (h2 : Rd vb w b n d q) (hp : Gf.Byt p) (hq : Gf.Byt q) :
    Calls Try.prog 28 #[.slice a n c, .slice b n d] w fun e w' => e = .returned (.tuple #[.int .u8 (Gf.dot p q : Nat), .int .i64 0]) ∧ Below w.heap.size w w' := by
  have hm : n ≤ 9223372036854775807 := by have := h1.cap; have := h1.max; unfold maxLen at *; omega
  have H1 := Lib.hid h1; have H2 := Lib.hid h2; clear h1 h2
  go_enter Try.func28, Try.ntmps28
  go_wp2
  go_loopw [6, 7, 15] (fun s _ i wr => ∃ k : Nat, k ≤ n ∧ i = .int .i64 (k : Int) ∧ s = .int .u8 ((Gf.dotTo p q k : Nat) : Int) ∧ Below w.heap.size w wr) (fun _ _ i _ => n - (intOf i).toNat)
  case atStart => exact ⟨0, by omega, rfl, rfl, Below.refl _ _⟩
  case round =>
    obtain ⟨k, hk, rfl, rfl, hB⟩ := hrel
    have hs := Gf.dotTo_lt (q := q) hp k
    by_cases hlt : k < n
    · obtain ⟨x, hx⟩ : ∃ x, p[k]? = some x := ⟨_, List.getElem?_eq_getElem (by rw [H1.out.len]; exact hlt)⟩
      obtain ⟨y, hy⟩ : ∃ y, q[k]? = some y := ⟨_, List.getElem?_eq_getElem (by rw [H2.out.len]; exact hlt)⟩
      obtain ⟨b1, o1, rfl, c1⟩ := (H1.out.below hB (Nat.le_refl _)).cell k x hx
      obtain ⟨b2, o2, rfl, c2⟩ := (H2.out.below hB (Nat.le_refl _)).cell k y hy
      have bx := hp.at hx
      have bY := hq.at hy
      have hmul := Gf.mul_lt x y bx
      have e1 : bits .xor .u8 ((Gf.dotTo p q k : Nat) : Int) ((Gf.mul x y : Nat) : Int) = ((Gf.dotTo p q (k + 1) : Nat) : Int) := by
        rw [xor8 _ _ (by omega) (by omega) (by omega) (by omega), Gf.dotTo, List.getD_eq_getElem?_getD, List.getD_eq_getElem?_getD, hx, hy]
        simp
      have E1 := Lib.hid e1; clear e1 hx hy
      unfold vb at c1 c2
      have i1 : (k : Int) < (n : Int) := by omega
      go_wp2_with fail
      go_quiet ((go_at_call 12; exact qsame (mul_any _ _ _ (by omega) (by omega) (by omega) (by omega))))
      go_wp2
      go_roundw
      case rel => exact ⟨k + 1, by omega, by go_num, by rw [E1.out], below_drewN hB _⟩
      case measure => simp [intOf]; omega
    · have hkn : k = n := by omega
      have e1 : Gf.dotTo p q k = Gf.dot p q := by rw [Gf.dot, H1.out.len, hkn]
      have E1 := Lib.hid e1; clear e1 hkn
      go_wp2
      go_ret2
      exact ⟨ret_two (by rw [E1.out]) rfl, hB⟩
end Go.Proofs.Ytgjfgmapdnohhaa
