/- kinkeeplaw02.Gf256Products returns true for every input. -/
import Derived.Test.YtgjfgmapdnohhaaGfC
import Derived.Test.YtgjfgmapdnohhaaRefA
namespace Go.Proofs.Ytgjfgmapdnohhaa
open Go.RowKit Go.Kin
set_option maxRecDepth 100000

theorem walk_Gf256Products (a b : Int) (w : World) (ha : 0 ≤ a ∧ a < 256) (hb : 0 ≤ b ∧ b < 256) :
    Calls Try.prog 5 #[.int .u8 a, .int .u8 b] w fun e w' => e = .returned (.bool true) ∧ Below w.heap.size w w' := by
  obtain ⟨ha0, ha1⟩ := ha
  obtain ⟨hb0, hb1⟩ := hb
  have hx := xor8 a b ha0 ha1 hb0 hb1
  by_cases h0 : b = 0
  · subst h0
    clear hx
    obtain ⟨x, rfl⟩ := Int.eq_ofNat_of_zero_le ha0
    have hx2 : bits .xor .u8 ((x : Nat) : Int) 0 = ((x : Nat) : Int) := by rw [xor8 _ 0 ha0 ha1 (by omega) (by omega)]; simp
    have hm := Gf.mul_zero x
    go_enter Try.func5, Try.ntmps5
    go_wp2_with (first
      | (go_at_call 11; refine (awake_any _).mono ?_; rintro e w1 ⟨rfl, hb1⟩)
      | (go_at_call 12; refine (mul_any _ _ _ (by omega) (by omega) (by omega) (by omega)).mono ?_; rintro e w' ⟨rfl, rfl⟩)
      | (go_at_call 18; refine (rmul_any _ _ _ (by omega) (by omega) (by omega) (by omega)).mono ?_; rintro e w' ⟨rfl, rfl⟩)
      | (go_at_call 13; refine (add_any _ _ _ (by omega) (by omega) (by omega) (by omega)).mono ?_; rintro e w' ⟨rfl, rfl⟩)
      | (go_at_call 17; refine (inv_zero_any _).mono ?_; rintro e w' ⟨rfl, rfl⟩)
      | (go_at_call 16; refine (div_zero_any _ _).mono ?_; rintro e w' ⟨rfl, rfl⟩))
    go_ret
    exact ⟨rfl, by assumption⟩
  · have e0 : (b == 0) = false := by simpa using h0
    have hp : 0 < b := by omega
    have l1 := Gf.inv_lt b.toNat (by omega)
    clear h0
    go_enter Try.func5, Try.ntmps5
    go_wp2_with (first
      | (go_at_call 11; refine (awake_any _).mono ?_; rintro e w1 ⟨rfl, hb1⟩)
      | (go_at_call 12; refine (mul_any _ _ _ (by omega) (by omega) (by omega) (by omega)).mono ?_; rintro e w' ⟨rfl, rfl⟩)
      | (go_at_call 18; refine (rmul_any _ _ _ (by omega) (by omega) (by omega) (by omega)).mono ?_; rintro e w' ⟨rfl, rfl⟩)
      | (go_at_call 19; refine (rinv_any _ _ (by omega) (by omega)).mono ?_; rintro e w' ⟨rfl, rfl⟩)
      | (go_at_call 13; refine (add_any _ _ _ (by omega) (by omega) (by omega) (by omega)).mono ?_; rintro e w' ⟨rfl, rfl⟩)
      | (go_at_call 17; refine (inv_any _ _ (by omega) (by omega)).mono ?_; rintro e w' ⟨rfl, rfl⟩)
      | (go_at_call 16; refine (div_any _ _ _ (by omega) (by omega) (by omega) (by omega)).mono ?_; rintro e w' ⟨rfl, rfl⟩))
    go_ret
    exact ⟨rfl, by assumption⟩
end Go.Proofs.Ytgjfgmapdnohhaa
