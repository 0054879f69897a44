/- kinkeeplaw02.Gf256Field returns true for every input. -/
import Derived.Test.YtgjfgmapdnohhaaGfC
namespace Go.Proofs.Ytgjfgmapdnohhaa
open Go.RowKit Go.Kin

theorem walk_Gf256Field (a b c : Int) (w : World) (ha : 0 ≤ a ∧ a < 256) (hb : 0 ≤ b ∧ b < 256) (hc : 0 ≤ c ∧ c < 256) :
    Calls Try.prog 6 #[.int .u8 a, .int .u8 b, .int .u8 c] w fun e w' => e = .returned (.bool true) ∧ Below w.heap.size w w' := by
  obtain ⟨ha0, ha1⟩ := ha
  obtain ⟨hb0, hb1⟩ := hb
  obtain ⟨hc0, hc1⟩ := hc
  obtain ⟨x, rfl⟩ := Int.eq_ofNat_of_zero_le ha0
  obtain ⟨y, rfl⟩ := Int.eq_ofNat_of_zero_le hb0
  obtain ⟨z, rfl⟩ := Int.eq_ofNat_of_zero_le hc0
  have hx : x < 256 := by omega
  have hy : y < 256 := by omega
  have hz : z < 256 := by omega
  have l1 := Gf.xor_lt hx hy
  have l2 := Gf.xor_lt hy hz
  have l3 := Gf.mul_lt x y hx
  have l4 := Gf.mul_lt y z hy
  have l5 := Gf.mul_lt x z hx
  have l6 := Gf.mul_lt y x hy
  have l7 := Gf.inv_lt x hx
  have m1 : Gf.mul x (Gf.mul y z) = Gf.mul (Gf.mul x y) z := (Gf.mul_assoc x y z hx hy hz).symm
  have m2 : x ^^^ (y ^^^ z) = (x ^^^ y) ^^^ z := (Nat.xor_assoc x y z).symm
  have m3 : Gf.mul x y = Gf.mul y x := Gf.mul_comm x y hx hy
  have m4 : x ^^^ y = y ^^^ x := Nat.xor_comm x y
  have m5 := Gf.mul_xor x y z
  have m6 := Gf.mul_one x
  have m7 : x ^^^ 0 = x := Nat.xor_zero x
  have m8 : x ^^^ x = 0 := Nat.xor_self x
  have b1 : (((Gf.mul x (Gf.mul y z) : Nat) : Int) != ((Gf.mul (Gf.mul x y) z : Nat) : Int)) = false := by rw [m1]; simp
  have b2 : (((x ^^^ (y ^^^ z) : Nat) : Int) != (((x ^^^ y) ^^^ z : Nat) : Int)) = false := by rw [m2]; simp
  have b3 : (((Gf.mul x y : Nat) : Int) != ((Gf.mul y x : Nat) : Int)) = false := by rw [m3]; simp
  have b4 : (((x ^^^ y : Nat) : Int) != ((y ^^^ x : Nat) : Int)) = false := by rw [m4]; simp
  have b5 : (((Gf.mul x (y ^^^ z) : Nat) : Int) != ((Gf.mul x y ^^^ Gf.mul x z : Nat) : Int)) = false := by rw [m5]; simp
  clear m1 m2 m3 m4 m5
  by_cases h0 : x = 0
  · subst h0
    go_enter Try.func6, Try.ntmps6
    go_wp2_with (first
      | (go_at_call 11; refine (awake_any _).mono ?_; rintro e w1 ⟨rfl, hb1⟩)
      | (go_at_call 12; refine (mul_any _ _ _ (by omega) (by omega) (by omega) (by omega)).mono ?_; rintro e w' ⟨rfl, rfl⟩)
      | (go_at_call 13; refine (add_any _ _ _ (by omega) (by omega) (by omega) (by omega)).mono ?_; rintro e w' ⟨rfl, rfl⟩)
      | (go_at_call 17; refine (inv_zero_any _).mono ?_; rintro e w' ⟨rfl, rfl⟩)
      | (go_at_call 16; refine (div_zero_any _ _).mono ?_; rintro e w' ⟨rfl, rfl⟩))
    go_ret
    exact ⟨rfl, by assumption⟩
  · have hp : 0 < x := by omega
    have m9 := Gf.mul_inv x hx h0
    have m10 := Gf.div_mul x y hx hy h0
    have e0 : (((x : Nat) : Int) != 0) = true := by simp; omega
    have e1 : (((x : Nat) : Int) == 0) = false := by simp; omega
    clear h0
    go_enter Try.func6, Try.ntmps6
    go_wp2_with (first
      | (go_at_call 11; refine (awake_any _).mono ?_; rintro e w1 ⟨rfl, hb1⟩)
      | (go_at_call 12; refine (mul_any _ _ _ (by omega) (by omega) (by omega) (by omega)).mono ?_; rintro e w' ⟨rfl, rfl⟩)
      | (go_at_call 13; refine (add_any _ _ _ (by omega) (by omega) (by omega) (by omega)).mono ?_; rintro e w' ⟨rfl, rfl⟩)
      | (go_at_call 17; refine (inv_any _ _ (by omega) (by omega)).mono ?_; rintro e w' ⟨rfl, rfl⟩)
      | (go_at_call 16; refine (div_any _ _ _ (by omega) (by omega) (by omega) (by omega)).mono ?_; rintro e w' ⟨rfl, rfl⟩))
    go_ret
    exact ⟨rfl, by assumption⟩
end Go.Proofs.Ytgjfgmapdnohhaa
