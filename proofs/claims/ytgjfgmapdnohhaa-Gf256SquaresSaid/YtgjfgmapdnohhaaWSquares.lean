/- kinkeeplaw02.Gf256Squares returns true for every input. -/
import Derived.Test.YtgjfgmapdnohhaaGfC
namespace Go.Proofs.Ytgjfgmapdnohhaa
open Go.RowKit Go.Kin

theorem walk_Gf256Squares (a b : Int) (w : World) (ha : 0 ≤ a ∧ a < 256) (hb : 0 ≤ b ∧ b < 256) :
    Calls Try.prog 4 #[.int .u8 a, .int .u8 b] w fun e w' => e = .returned (.bool true) ∧ Below w.heap.size w w' := by
  obtain ⟨ha0, ha1⟩ := ha
  obtain ⟨hb0, hb1⟩ := hb
  obtain ⟨x, rfl⟩ := Int.eq_ofNat_of_zero_le ha0
  obtain ⟨y, rfl⟩ := Int.eq_ofNat_of_zero_le hb0
  have hx : x < 256 := by omega
  have hy : y < 256 := by omega
  have l1 := Gf.xor_lt hx hy
  have l2 := Gf.mul_lt x x hx
  have l3 := Gf.mul_lt y y hy
  have l4 := Gf.sqrt_lt x hx
  have m1 : (((Gf.mul (x ^^^ y) (x ^^^ y) : Nat) : Int) == ((Gf.mul x x ^^^ Gf.mul y y : Nat) : Int)) = true := by rw [Gf.sq_xor x y hx hy]; simp
  have m2 := Gf.sqrt_sq x hx
  have m3 := Gf.sq_sqrt x hx
  by_cases h0 : x = 0
  · have e0 : ((0 : Int) == ((x : Nat) : Int)) = true := by simp; omega
    have HX : Hid (((x : Nat) : Int) = 0) := by show _ = _; omega
    clear h0
    go_enter Try.func4, Try.ntmps4
    go_wp2_with (first
      | (go_at_call 11; refine (awake_any _).mono ?_; rintro e w1 ⟨rfl, hb1⟩)
      | (go_at_call 12; refine (mul_any _ _ _ (by omega) (by omega) (by omega) (by omega)).mono ?_; rintro e w' ⟨rfl, rfl⟩)
      | (go_at_call 13; refine (add_any _ _ _ (by omega) (by omega) (by omega) (by omega)).mono ?_; rintro e w' ⟨rfl, rfl⟩)
      | (go_at_call 15; refine (sqrt_any _ _ (by omega) (by omega)).mono ?_; rintro e w' ⟨rfl, rfl⟩)
      | (go_at_call 14; refine (pow_zero_pos' _ _ _ HX.out (by omega)).mono ?_; rintro e w2 ⟨rfl, hb2⟩))
    go_ret
    exact ⟨rfl, bt hb1 hb2⟩
  · have hp : 0 < x := by omega
    have m4 := Gf.powZ_256 x hx h0
    go_enter Try.func4, Try.ntmps4
    go_wp2_with (first
      | (go_at_call 11; refine (awake_any _).mono ?_; rintro e w1 ⟨rfl, hb1⟩)
      | (go_at_call 12; refine (mul_any _ _ _ (by omega) (by omega) (by omega) (by omega)).mono ?_; rintro e w' ⟨rfl, rfl⟩)
      | (go_at_call 13; refine (add_any _ _ _ (by omega) (by omega) (by omega) (by omega)).mono ?_; rintro e w' ⟨rfl, rfl⟩)
      | (go_at_call 15; refine (sqrt_any _ _ (by omega) (by omega)).mono ?_; rintro e w' ⟨rfl, rfl⟩)
      | (go_at_call 14; refine (pow_anyZ _ _ _ (by omega) (by omega)).mono ?_; rintro e w2 ⟨rfl, hb2⟩))
    go_ret
    exact ⟨rfl, bt hb1 hb2⟩
end Go.Proofs.Ytgjfgmapdnohhaa
