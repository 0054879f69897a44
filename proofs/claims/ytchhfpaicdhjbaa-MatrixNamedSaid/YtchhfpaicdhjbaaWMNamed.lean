/- MatrixNamed: the walk. -/
import Derived.Test.YtchhfpaicdhjbaaMw
namespace Go.Proofs.Ytchhfpaicdhjbaa
open Go.RowKit Go.Kin Mat
set_option maxRecDepth 100000
set_option linter.unusedVariables false

set_option maxHeartbeats 4000000 in
theorem walk_MatrixNamed (n r k : Int) (w : World) (_h0 : -9223372036854775808 ≤ n ∧ n ≤ 9223372036854775807) (_h1 : -9223372036854775808 ≤ r ∧ r ≤ 9223372036854775807) (_h2 : -9223372036854775808 ≤ k ∧ k ≤ 9223372036854775807) :
    Calls Try.prog 12 #[.int .i64 n, .int .i64 r, .int .i64 k] w fun e w' => e = .returned (.bool true) ∧ Below w.heap.size w w' := by
  clear _h0 _h1 _h2
  by_cases hn : 0 ≤ n ∧ n ≤ 64
  · obtain ⟨hn0, hn1⟩ := hn
    obtain ⟨n, rfl⟩ := Int.eq_ofNat_of_zero_le hn0
    have t1 : decide (((n : Nat) : Int) < 0) = false := by simp
    have t2 : decide ((64 : Int) < ((n : Nat) : Int)) = false := by simp; omega
    by_cases hrk : (0 ≤ r ∧ r ≤ 64) ∧ (0 ≤ k ∧ k ≤ 64)
    · obtain ⟨⟨hr0, hr1⟩, hk0, hk1⟩ := hrk
      obtain ⟨r, rfl⟩ := Int.eq_ofNat_of_zero_le hr0
      obtain ⟨k, rfl⟩ := Int.eq_ofNat_of_zero_le hk0
      have t3 : decide (((r : Nat) : Int) < 0) = false := by simp
      have t4 : decide ((64 : Int) < ((r : Nat) : Int)) = false := by simp; omega
      have t5 : decide (((k : Nat) : Int) < 0) = false := by simp
      have t6 : decide ((64 : Int) < ((k : Nat) : Int)) = false := by simp; omega
      go_enter Try.func12, Try.ntmps12
      go_wp2_with (first
        | (go_at_call 35; refine (ident_any n _ (by omega)).mono ?_; rintro e w1 ⟨o1, rfl, hM, b1⟩; have r1 := hM.rdm (by omega); clear hM)
        | (go_at_call 34; refine (cauchy_any r k _ (by omega) (by omega)).mono ?_; rintro e w2 ⟨o2, rfl, hM, b2⟩; have r2 := hM.rdm (by omega); clear hM)
        | (go_at_call 42; refine (vander_any r k _ (by omega) (by omega)).mono ?_; rintro e w3 ⟨o3, rfl, hM, b3⟩; have r3 := hM.rdm (by omega); clear hM)
        | (go_at_call 37; refine (rident_any n _ (by omega)).mono ?_; rintro e w4 ⟨a4, c4, rfl, hM, b4⟩; have r4 := hM.rdm (by omega); clear hM)
        | (go_at_call 43; refine (rcauchy_any r k _ (by omega) (by omega)).mono ?_; rintro e w5 ⟨a5, c5, rfl, hM, b5⟩; have r5 := hM.rdm (by omega); clear hM)
        | (go_at_call 44; refine (rvander_any r k _ (by omega) (by omega)).mono ?_; rintro e w6 ⟨a6, c6, rfl, hM, b6⟩; have r6 := hM.rdm (by omega); clear hM)
        | (go_at_call 14; refine (awake_any _).mono ?_; rintro e w7 ⟨rfl, b7⟩)
        | (go_at_call_of 21 o1; refine (msame_eq _ _ _ _ _ _ _ _ _ (by repeat (first | assumption | apply RdM.alloc | (apply RdM.fw2; assumption))) (by repeat (first | assumption | apply RdM.alloc | (apply RdM.fw2; assumption))) mlist_b rfl).mono ?_; rintro e w8 ⟨rfl, hd⟩; have b8 := hd.fw; clear hd)
        | (go_at_call_of 21 o2; refine (msame_eq _ _ _ _ _ _ _ _ _ (by repeat (first | assumption | apply RdM.alloc | (apply RdM.fw2; assumption))) (by repeat (first | assumption | apply RdM.alloc | (apply RdM.fw2; assumption))) mlist_b rfl).mono ?_; rintro e w9 ⟨rfl, hd⟩; have b9 := hd.fw; clear hd)
        | (go_at_call_of 21 o3; refine (msame_eq _ _ _ _ _ _ _ _ _ (by repeat (first | assumption | apply RdM.alloc | (apply RdM.fw2; assumption))) (by repeat (first | assumption | apply RdM.alloc | (apply RdM.fw2; assumption))) mlist_b rfl).mono ?_; rintro e w10 ⟨rfl, hd⟩; have b10 := hd.fw; clear hd))
      go_ret
      exact ⟨rfl, (by repeat (first | assumption | apply below_alloc | (apply bt'; assumption)))⟩
    · have hbad : ¬ (0 ≤ r ∧ r ≤ 64) ∨ ¬ (0 ≤ k ∧ k ≤ 64) := by omega
      have HBAD := Lib.hid hbad
      have hsel : (r < 0 ∨ 64 < r) ∨ (0 ≤ r ∧ r ≤ 64 ∧ (k < 0 ∨ 64 < k)) := by omega
      clear hbad hrk
      rcases hsel with (h | h) | ⟨h0, h1, (h | h)⟩
      all_goals
        go_enter Try.func12, Try.ntmps12
        go_wp2_with (first
          | (go_at_call 35; refine (ident_any n _ (by omega)).mono ?_; rintro e w1 ⟨o1, rfl, hM, b1⟩; have r1 := hM.rdm (by omega); clear hM)
          | (go_at_call 34; refine (cauchy_bad r k _ HBAD.out).mono ?_; rintro e w' ⟨rfl, rfl⟩)
          | (go_at_call 42; refine (vander_bad r k _ HBAD.out).mono ?_; rintro e w' ⟨rfl, rfl⟩)
          | (go_at_call 37; refine (rident_any n _ (by omega)).mono ?_; rintro e w4 ⟨a4, c4, rfl, hM, b4⟩; have r4 := hM.rdm (by omega); clear hM)
          | (go_at_call 14; refine (awake_any _).mono ?_; rintro e w7 ⟨rfl, b7⟩)
          | (go_at_call 21; refine (msame_eq _ _ _ _ _ _ _ _ _ (by repeat (first | assumption | apply RdM.alloc | (apply RdM.fw2; assumption))) (by repeat (first | assumption | apply RdM.alloc | (apply RdM.fw2; assumption))) mlist_b rfl).mono ?_; rintro e w8 ⟨rfl, hd⟩; have b8 := hd.fw; clear hd))
        go_ret
        exact ⟨rfl, (by repeat (first | assumption | apply below_alloc | (apply bt'; assumption)))⟩
  · have HN := Lib.hid hn
    have hsn : n < 0 ∨ 64 < n := by omega
    clear hn
    by_cases hrk : (0 ≤ r ∧ r ≤ 64) ∧ (0 ≤ k ∧ k ≤ 64)
    · obtain ⟨⟨hr0, hr1⟩, hk0, hk1⟩ := hrk
      obtain ⟨r, rfl⟩ := Int.eq_ofNat_of_zero_le hr0
      obtain ⟨k, rfl⟩ := Int.eq_ofNat_of_zero_le hk0
      have t3 : decide (((r : Nat) : Int) < 0) = false := by simp
      have t4 : decide ((64 : Int) < ((r : Nat) : Int)) = false := by simp; omega
      have t5 : decide (((k : Nat) : Int) < 0) = false := by simp
      have t6 : decide ((64 : Int) < ((k : Nat) : Int)) = false := by simp; omega
      rcases hsn with h | h
      all_goals
        go_enter Try.func12, Try.ntmps12
        go_wp2_with (first
          | (go_at_call 35; refine (ident_bad _ _ HN.out).mono ?_; rintro e w' ⟨rfl, rfl⟩)
          | (go_at_call 34; refine (cauchy_any r k _ (by omega) (by omega)).mono ?_; rintro e w2 ⟨o2, rfl, hM, b2⟩; have r2 := hM.rdm (by omega); clear hM)
          | (go_at_call 42; refine (vander_any r k _ (by omega) (by omega)).mono ?_; rintro e w3 ⟨o3, rfl, hM, b3⟩; have r3 := hM.rdm (by omega); clear hM)
          | (go_at_call 43; refine (rcauchy_any r k _ (by omega) (by omega)).mono ?_; rintro e w5 ⟨a5, c5, rfl, hM, b5⟩; have r5 := hM.rdm (by omega); clear hM)
          | (go_at_call 44; refine (rvander_any r k _ (by omega) (by omega)).mono ?_; rintro e w6 ⟨a6, c6, rfl, hM, b6⟩; have r6 := hM.rdm (by omega); clear hM)
          | (go_at_call 14; refine (awake_any _).mono ?_; rintro e w7 ⟨rfl, b7⟩)
          | (go_at_call_of 21 o2; refine (msame_eq _ _ _ _ _ _ _ _ _ (by repeat (first | assumption | apply RdM.alloc | (apply RdM.fw2; assumption))) (by repeat (first | assumption | apply RdM.alloc | (apply RdM.fw2; assumption))) mlist_b rfl).mono ?_; rintro e w9 ⟨rfl, hd⟩; have b9 := hd.fw; clear hd)
          | (go_at_call_of 21 o3; refine (msame_eq _ _ _ _ _ _ _ _ _ (by repeat (first | assumption | apply RdM.alloc | (apply RdM.fw2; assumption))) (by repeat (first | assumption | apply RdM.alloc | (apply RdM.fw2; assumption))) mlist_b rfl).mono ?_; rintro e w10 ⟨rfl, hd⟩; have b10 := hd.fw; clear hd))
        go_ret
        exact ⟨rfl, (by repeat (first | assumption | apply below_alloc | (apply bt'; assumption)))⟩
    · have hbad : ¬ (0 ≤ r ∧ r ≤ 64) ∨ ¬ (0 ≤ k ∧ k ≤ 64) := by omega
      have HBAD := Lib.hid hbad
      have hsel : (r < 0 ∨ 64 < r) ∨ (0 ≤ r ∧ r ≤ 64 ∧ (k < 0 ∨ 64 < k)) := by omega
      clear hbad hrk
      rcases hsn with hsn | hsn <;> rcases hsel with (h | h) | ⟨h0, h1, (h | h)⟩
      all_goals
        go_enter Try.func12, Try.ntmps12
        go_wp2_with (first
          | (go_at_call 35; refine (ident_bad _ _ HN.out).mono ?_; rintro e w' ⟨rfl, rfl⟩)
          | (go_at_call 34; refine (cauchy_bad r k _ HBAD.out).mono ?_; rintro e w' ⟨rfl, rfl⟩)
          | (go_at_call 42; refine (vander_bad r k _ HBAD.out).mono ?_; rintro e w' ⟨rfl, rfl⟩)
          | (go_at_call 14; refine (awake_any _).mono ?_; rintro e w7 ⟨rfl, b7⟩))
        go_ret
        exact ⟨rfl, (by repeat (first | assumption | apply below_alloc | (apply bt'; assumption)))⟩
end Go.Proofs.Ytchhfpaicdhjbaa
