/- kinkeeplaw02.Gf256Powers returns true for every input. -/
import Derived.Test.YtgjfgmapdnohhaaGfC
import Derived.Test.YtgjfgmapdnohhaaRefA
import Derived.Deep.RegionWith
namespace Go.Proofs.Ytgjfgmapdnohhaa
open Go.RowKit Go.Kin
set_option maxRecDepth 100000

set_option maxHeartbeats 1000000 in
theorem walk_Gf256Powers (a n : Int) (w : World) (ha : 0 ≤ a ∧ a < 256) (_hn : -9223372036854775808 ≤ n ∧ n ≤ 9223372036854775807) :
    Calls Try.prog 8 #[.int .u8 a, .int .i64 n] w fun e w' => e = .returned (.bool true) ∧ Below w.heap.size w w' := by
  obtain ⟨ha0, ha1⟩ := ha
  have p2 : Gf.powZ 2 n = Gf.pw (n % 255).toNat := by
    unfold Gf.powZ
    have : Gf.lg 2 = 1 := by decide +kernel
    rw [this]; simp
  by_cases h0 : a = 0
  · subst h0
    have s0 : Gf.sqrt 0 = 0 := by decide +kernel
    by_cases hn : n < 0
    · go_enter Try.func8, Try.ntmps8
      go_wp2_with (first
        | (go_at_call 11; refine (awake_any _).mono ?_; rintro e w1 ⟨rfl, hb1⟩)
        | (go_at_call 14; refine (pow_zero_neg _ _ hn).mono ?_; rintro e w2 ⟨rfl, hb2⟩)
        | (go_at_call 20; refine (log_zero_any _).mono ?_; rintro e w3 ⟨rfl, hb3⟩)
        | (go_at_call 21; refine (order_zero_any _).mono ?_; rintro e w4 ⟨rfl, hb4⟩)
        | (go_at_call 22; refine (exp_any _ _).mono ?_; rintro e w5 ⟨rfl, hb5⟩)
        | (go_at_call 23; refine (rpow_any 2 _ _ (by omega) (by omega)).mono ?_; rintro e w' ⟨rfl, rfl⟩)
        | (go_at_call 15; refine (sqrt_any _ _ (by omega) (by omega)).mono ?_; rintro e w' ⟨rfl, rfl⟩)
        | (go_at_call 24; refine (rsqrt_any _ _ (by omega) (by omega)).mono ?_; rintro e w' ⟨rfl, rfl⟩))
      go_ret
      exact ⟨rfl, by repeat (first | assumption | (apply bt'; assumption))⟩
    · have hn0 : 0 ≤ n := by omega
      go_enter Try.func8, Try.ntmps8
      go_wp2_with (first
        | (go_at_call 11; refine (awake_any _).mono ?_; rintro e w1 ⟨rfl, hb1⟩)
        | (go_at_call 14; refine (pow_zero_pos _ _ hn0).mono ?_; rintro e w2 ⟨rfl, hb2⟩)
        | (go_at_call 20; refine (log_zero_any _).mono ?_; rintro e w3 ⟨rfl, hb3⟩)
        | (go_at_call 21; refine (order_zero_any _).mono ?_; rintro e w4 ⟨rfl, hb4⟩)
        | (go_at_call 22; refine (exp_any _ _).mono ?_; rintro e w5 ⟨rfl, hb5⟩)
        | (go_at_call_of 23 (Value.int IntKind.u8 2); refine (rpow_any 2 _ _ (by omega) (by omega)).mono ?_; rintro e w' ⟨rfl, rfl⟩)
        | (go_at_call 23; refine (rpow_zero _ _ _ rfl).mono ?_; rintro e w' ⟨rfl, rfl⟩)
        | (go_at_call 15; refine (sqrt_any _ _ (by omega) (by omega)).mono ?_; rintro e w' ⟨rfl, rfl⟩)
        | (go_at_call 24; refine (rsqrt_any _ _ (by omega) (by omega)).mono ?_; rintro e w' ⟨rfl, rfl⟩))
      all_goals
        go_ret
        exact ⟨rfl, by repeat (first | assumption | (apply bt'; assumption))⟩
  · have e0 : (a == 0) = false := by simpa using h0
    have hp : 0 < a := by omega
    clear h0
    go_enter Try.func8, Try.ntmps8
    go_wp2_with (first
      | (go_at_call 11; refine (awake_any _).mono ?_; rintro e w1 ⟨rfl, hb1⟩)
      | (go_at_call 14; refine (pow_anyZ _ _ _ (by omega) (by omega)).mono ?_; rintro e w2 ⟨rfl, hb2⟩)
      | (go_at_call 20; refine (log_any _ _ (by omega) (by omega)).mono ?_; rintro e w3 ⟨rfl, hb3⟩)
      | (go_at_call 21; refine (order_anyO _ _ (by omega) (by omega)).mono ?_; rintro e w4 ⟨rfl, hb4⟩)
      | (go_at_call 22; refine (exp_any _ _).mono ?_; rintro e w5 ⟨rfl, hb5⟩)
      | (go_at_call 23; refine (rpow_any _ _ _ (by omega) (by omega)).mono ?_; rintro e w' ⟨rfl, rfl⟩)
      | (go_at_call 15; refine (sqrt_any _ _ (by omega) (by omega)).mono ?_; rintro e w' ⟨rfl, rfl⟩)
      | (go_at_call 24; refine (rsqrt_any _ _ (by omega) (by omega)).mono ?_; rintro e w' ⟨rfl, rfl⟩)
      | (go_at_call 25; refine (rlog_any _ _ (by omega) (by omega)).mono ?_; rintro e w' ⟨rfl, rfl⟩)
      | (go_at_call 26; refine (rorder_any _ _ (by omega) (by omega)).mono ?_; rintro e w' ⟨rfl, rfl⟩))
    go_ret
    exact ⟨rfl, by repeat (first | assumption | (apply bt'; assumption))⟩
end Go.Proofs.Ytgjfgmapdnohhaa
