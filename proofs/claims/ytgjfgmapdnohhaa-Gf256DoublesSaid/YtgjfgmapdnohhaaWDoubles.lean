/- kinkeeplaw02.Gf256Doubles returns true for every input. -/
import Derived.Test.YtgjfgmapdnohhaaAwake
import Derived.Test.YtgjfgmapdnohhaaGfM
namespace Gf
theorem mul_dbl (a b : Nat) (ha : a < 256) (hb : b < 256) : mul a (mul 2 b) = mul (dbl a) b := by
  rw [← mul_assoc a 2 b ha (by omega) hb, mul_comm a 2 ha (by omega), mul_two a ha]
end Gf
namespace Go.Proofs.Ytgjfgmapdnohhaa
open Go.RowKit Go.Kin

theorem walk_Gf256Doubles (a b : Int) (w : World) (ha : 0 ≤ a ∧ a < 256) (hb : 0 ≤ b ∧ b < 256) :
    Calls Try.prog 3 #[.int .u8 a, .int .u8 b] w fun e w' => e = .returned (.bool true) ∧ Below w.heap.size w w' := by
  obtain ⟨ha0, ha1⟩ := ha
  obtain ⟨hb0, hb1⟩ := hb
  have l1 := Gf.mul_lt 2 b.toNat (by omega)
  have l2 := Gf.dbl_lt a.toNat (by omega)
  have m1 : Gf.mul 2 a.toNat = Gf.dbl a.toNat := Gf.mul_two _ (by omega)
  have m2 : Gf.mul a.toNat (Gf.mul 2 b.toNat) = Gf.mul (Gf.dbl a.toNat) b.toNat := Gf.mul_dbl _ _ (by omega) (by omega)
  by_cases h : 128 ≤ a
  · have e3 : bits .xor .u8 (a * 2 % 256) 29 = (Gf.dbl a.toNat : Nat) := by
      rw [xor8 _ _ (by omega) (by omega) (by omega) (by omega), Gf.dbl, if_neg (by omega)]
      congr 1
      have : (a * 2 % 256).toNat = 2 * a.toNat % 256 := by omega
      rw [this]; rfl
    go_enter Try.func3, Try.ntmps3
    go_wp2_with (first
      | (go_at_call 11; refine (awake_any _).mono ?_; rintro e w1 ⟨rfl, hb1⟩)
      | (go_at_call 12; refine (mul_any _ _ _ (by omega) (by omega) (by omega) (by omega)).mono ?_; rintro e w' ⟨rfl, rfl⟩))
    go_ret
    exact ⟨rfl, by assumption⟩
  · have e3 : a * 2 = (Gf.dbl a.toNat : Nat) := by
      rw [Gf.dbl, if_pos (by omega)]; omega
    go_enter Try.func3, Try.ntmps3
    go_wp2_with (first
      | (go_at_call 11; refine (awake_any _).mono ?_; rintro e w1 ⟨rfl, hb1⟩)
      | (go_at_call 12; refine (mul_any _ _ _ (by omega) (by omega) (by omega) (by omega)).mono ?_; rintro e w' ⟨rfl, rfl⟩))
    go_ret
    exact ⟨rfl, by assumption⟩
end Go.Proofs.Ytgjfgmapdnohhaa
