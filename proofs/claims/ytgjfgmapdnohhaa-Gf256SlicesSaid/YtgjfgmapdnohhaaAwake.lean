/- kinkeeplaw02.awake returns true. -/
import Derived.Test.YtgjfgmapdnohhaaGfB
namespace Go.Proofs.Ytgjfgmapdnohhaa
open Go.RowKit Go.Kin

theorem rd_two (w : World) (g : Nat) (x y : Nat) (h : w.heap[g]? = some (.cells #[.int .u8 (x : Int), .int .u8 (y : Int)] 5 (0, 0))) : Rd vb w (some ⟨g, 0, none⟩) 2 2 [x, y] := by
  refine ⟨rfl, by omega, by simp [maxLen], by simp, fun i z hz => ⟨g, 0, rfl, ?_⟩⟩
  rw [cell_of_row w g _ _ _ _ h]
  match i, hz with
  | 0, hz => simp at hz; subst hz; rfl
  | 1, hz => simp at hz; subst hz; rfl

theorem awake_any (w : World) :
    Calls Try.prog 11 #[] w fun e w' => e = .returned (.bool true) ∧ Below w.heap.size w w' := by
  have m1 : Gf.mul 2 128 = 29 := by decide +kernel
  have m2 : Gf.mul 3 3 = 5 := by decide +kernel
  have m3 : Gf.inv 2 = 142 := by decide +kernel
  have m4 : Gf.pw 254 = 142 := by decide +kernel
  have m5 : Gf.dot [2, 3] [128, 3] = 24 := by decide +kernel
  go_enter Try.func11, Try.ntmps11
  go_wp2_with (first
    | (go_at_call 17; refine (inv_any _ _ (by omega) (by omega)).mono ?_; rintro e w' ⟨rfl, rfl⟩)
    | (go_at_call 14; refine (pow_zero_neg _ _ (by omega)).mono ?_; rintro e w1 ⟨rfl, hb1⟩)
    | (go_at_call 28; refine (dot_any _ _ _ _ _ [2, 3] [128, 3] _ (rd_two _ _ 2 3 (heap_alloc2_old w1 _ _)) (rd_two _ _ 128 3 (heap_alloc2_new w1 _ _)) (by intro x hx; simp at hx; omega) (by intro x hx; simp at hx; omega)).mono ?_; rintro e w2 ⟨rfl, hb2⟩)
    | (go_at_call 12; refine (mul_any _ _ _ (by omega) (by omega) (by omega) (by omega)).mono ?_; rintro e w' ⟨rfl, rfl⟩)
    | (go_at_call 22; refine (exp_any _ _).mono ?_; rintro e w3 ⟨rfl, hb3⟩))
  go_ret
  exact ⟨rfl, ((((hb1.alloc hb1.size _).alloc (by have := hb1.size; simp; omega) _).trans (hb2.mono (by have := hb1.size; simp; omega))).trans (hb3.mono (by have := hb1.size; have := hb2.size; simp at this; omega)))⟩
end Go.Proofs.Ytgjfgmapdnohhaa
