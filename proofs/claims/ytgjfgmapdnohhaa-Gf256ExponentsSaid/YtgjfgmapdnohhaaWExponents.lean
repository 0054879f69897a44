/- kinkeeplaw02.Gf256Exponents returns true for every input. -/
import Derived.Test.YtgjfgmapdnohhaaGfC
namespace Go.Proofs.Ytgjfgmapdnohhaa
open Go.RowKit Go.Kin

set_option maxRecDepth 100000 in
set_option maxHeartbeats 400000 in
theorem walk_Gf256Exponents (a m n : Int) (w : World) (ha : 0 ≤ a ∧ a < 256) (_hm : -9223372036854775808 ≤ m ∧ m ≤ 9223372036854775807) (_hn : -9223372036854775808 ≤ n ∧ n ≤ 9223372036854775807) :
    Calls Try.prog 7 #[.int .u8 a, .int .i64 m, .int .i64 n] w fun e w' => e = .returned (.bool true) ∧ Below w.heap.size w w' := by
  obtain ⟨ha0, ha1⟩ := ha

  obtain ⟨x, rfl⟩ := Int.eq_ofNat_of_zero_le ha0
  have hx : x < 256 := by omega
  by_cases h0 : x = 0
  · subst h0
    go_enter Try.func7, Try.ntmps7
    go_wp2_with (go_at_call 11; refine (awake_any _).mono ?_; rintro e w1 ⟨rfl, hb1⟩)
    go_ret
    exact ⟨rfl, by assumption⟩
  have e1 : (((x : Nat) : Int) == 0) = false := by simp; omega
  have hp : 0 < x := by omega
  by_cases c1 : m < -1000000
  · go_enter Try.func7, Try.ntmps7
    go_wp2_with (go_at_call 11; refine (awake_any _).mono ?_; rintro e w1 ⟨rfl, hb1⟩)
    go_ret
    exact ⟨rfl, by assumption⟩
  by_cases c2 : 1000000 < m
  · go_enter Try.func7, Try.ntmps7
    go_wp2_with (go_at_call 11; refine (awake_any _).mono ?_; rintro e w1 ⟨rfl, hb1⟩)
    go_ret
    exact ⟨rfl, by assumption⟩
  by_cases c3 : n < -1000000
  · go_enter Try.func7, Try.ntmps7
    go_wp2_with (go_at_call 11; refine (awake_any _).mono ?_; rintro e w1 ⟨rfl, hb1⟩)
    go_ret
    exact ⟨rfl, by assumption⟩
  by_cases c4 : 1000000 < n
  · go_enter Try.func7, Try.ntmps7
    go_wp2_with (go_at_call 11; refine (awake_any _).mono ?_; rintro e w1 ⟨rfl, hb1⟩)
    go_ret
    exact ⟨rfl, by assumption⟩
  have l1 := Gf.powZ_lt x m
  have l2 := Gf.powZ_lt x n
  have l3 := Gf.lg_lt x hx h0
  have l4 := Gf.ord_pos x
  have l5 := Gf.ord_le x
  have l6 := Gf.pw_lt (m % 255).toNat
  have l7 := Gf.pw_lt (n % 255).toNat
  have m1 : (((Gf.mul (Gf.powZ x m) (Gf.powZ x n) : Nat) : Int) == ((Gf.powZ x (m + n) : Nat) : Int)) = true := by rw [Gf.powZ_mul]; simp
  have m2 : (((Gf.pw (Gf.lg x % 255) : Nat) : Int) == ((x : Nat) : Int)) = true := by rw [Gf.pw_mod, Gf.pw_lg' x hx h0]; simp
  have m3 : (((Gf.mul (Gf.pw (m % 255).toNat) (Gf.pw (n % 255).toNat) : Nat) : Int) == ((Gf.pw ((m + n) % 255).toNat : Nat) : Int)) = true := by
    rw [Gf.pw_add, ← Gf.pw_mod]
    have : ((m % 255).toNat + (n % 255).toNat) % 255 = ((m + n) % 255).toNat := by omega
    rw [this]; simp
  have m4 := Gf.ord_one x
  have m5 : (((255 : Int) % ((Gf.ord x : Nat) : Int)) == 0) = true := by show ((((255 : Nat) : Int) % ((Gf.ord x : Nat) : Int)) == 0) = true; rw [← Int.natCast_emod, Gf.ord_dvd]; rfl
  have d1 : decide (m < -1000000) = false := by simp; omega
  have d2 : decide (1000000 < m) = false := by simp; omega
  have d3 : decide (n < -1000000) = false := by simp; omega
  have d4 : decide (1000000 < n) = false := by simp; omega
  have d5 : decide (((Gf.ord x : Nat) : Int) < 1) = false := by simp; omega
  have d6 : decide (((Gf.lg x : Nat) : Int) < 0) = false := by simp
  have d7 : decide ((254 : Int) < ((Gf.lg x : Nat) : Int)) = false := by simp; omega
  clear h0
  go_enter Try.func7, Try.ntmps7
  go_wp2_with (first
    | (go_at_call 11; refine (awake_any _).mono ?_; rintro e w1 ⟨rfl, hb1⟩)
    | (go_at_call 12; refine (mul_any _ _ _ (by omega) (by omega) (by omega) (by omega)).mono ?_; rintro e w' ⟨rfl, rfl⟩)
    | (go_at_call 14; refine (pow_anyZ _ _ _ (by omega) (by omega)).mono ?_; rintro e w2 ⟨rfl, hb2⟩)
    | (go_at_call 20; refine (log_any _ _ (by omega) (by omega)).mono ?_; rintro e w3 ⟨rfl, hb3⟩)
    | (go_at_call 21; refine (order_anyO _ _ (by omega) (by omega)).mono ?_; rintro e w4 ⟨rfl, hb4⟩)
    | (go_at_call 22; refine (exp_any _ _).mono ?_; rintro e w5 ⟨rfl, hb5⟩))
  go_ret
  exact ⟨rfl, by repeat (first | assumption | (apply bt'; assumption))⟩
end Go.Proofs.Ytgjfgmapdnohhaa
