/- gf256.Add, Inv, Div, Sqrt, residue, Exp, Log, Pow, Order return what Gf says. -/
import Derived.Test.YtioiaiifkfopnaaFill
import Derived.BigQuiet
import Derived.Deep.QuietTactic
namespace Go.Proofs.Ytioiaiifkfopnaa
open Go.RowKit Go.Kin

theorem inv_zero_any (w : World) :
    Calls Try.prog 56 #[.int .u8 0] w fun e w' => e = .returned (.tuple #[.int .u8 0, .int .i64 1]) ∧ w = w' := by
  go_enter Try.func56, Try.ntmps56
  go_wp2
  go_ret2
  exact ⟨rfl, rfl⟩

theorem inv_any (a : Int) (w : World) (ha0 : 0 < a) (ha1 : a < 256) :
    Calls Try.prog 56 #[.int .u8 a] w fun e w' => e = .returned (.tuple #[.int .u8 (Gf.inv a.toNat : Nat), .int .i64 0]) ∧ w = w' := by
  have h0 : (a == 0) = false := by simp; omega
  go_enter Try.func56, Try.ntmps56
  go_wp2
  go_loop [0, 4, 7] (fun x p i => ∃ k : Nat, k ≤ 7 ∧ i = .int .i64 (k : Int) ∧ x = .int .u8 ((Gf.sqs k a.toNat : Nat) : Int) ∧ p = .int .u8 ((Gf.invT k a.toNat : Nat) : Int)) (fun _ _ i => 7 - (intOf i).toNat)
  case atStart => exact ⟨0, by omega, rfl, by simp [Gf.sqs]; omega, rfl⟩
  case round =>
    obtain ⟨k, hk, rfl, rfl, rfl⟩ := hrel
    have hs := Gf.sqs_lt k a.toNat (by omega)
    have hi := Gf.invT_lt k a.toNat
    have hs2 := Gf.mul_lt (Gf.sqs k a.toNat) (Gf.sqs k a.toNat) hs
    by_cases hlt : k < 7
    · go_wp2_with (go_at_call 29; refine (mul_any _ _ _ (by omega) (by omega) (by omega) (by omega)).mono ?_; rintro e w' ⟨rfl, rfl⟩)
      go_round
      case rel => exact ⟨k + 1, by omega, by go_num, by simp [Gf.sqs], by simp [Gf.invT, Gf.sqs]⟩
      case measure => simp [intOf]; omega
    · have hk7 : k = 7 := by omega
      subst hk7
      have he := Lib.hid (Gf.invT_eq a.toNat (by omega))
      go_wp2
      go_ret2
      exact ⟨ret_two (by rw [he.out]) rfl, rfl⟩

theorem div_zero_any (a : Int) (w : World) :
    Calls Try.prog 48 #[.int .u8 a, .int .u8 0] w fun e w' => e = .returned (.tuple #[.int .u8 0, .int .i64 1]) ∧ w = w' := by
  go_enter Try.func48, Try.ntmps48
  go_wp2_with (go_at_call 56; refine (inv_zero_any _).mono ?_; rintro e w' ⟨rfl, rfl⟩)
  go_ret2
  exact ⟨rfl, rfl⟩

theorem div_any (a b : Int) (w : World) (ha0 : 0 ≤ a) (ha1 : a < 256) (hb0 : 0 < b) (hb1 : b < 256) :
    Calls Try.prog 48 #[.int .u8 a, .int .u8 b] w fun e w' => e = .returned (.tuple #[.int .u8 (Gf.mul a.toNat (Gf.inv b.toNat) : Nat), .int .i64 0]) ∧ w = w' := by
  have hi := Gf.inv_lt b.toNat (by omega)
  go_enter Try.func48, Try.ntmps48
  go_wp2_with (first | (go_at_call 56; refine (inv_any _ _ hb0 hb1).mono ?_; rintro e w' ⟨rfl, rfl⟩) | (go_at_call 29; refine (mul_any _ _ _ ha0 ha1 (by omega) (by omega)).mono ?_; rintro e w' ⟨rfl, rfl⟩))
  go_ret2
  exact ⟨ret_two (by simp) rfl, rfl⟩

theorem tmod_cases (n : Int) : (0 ≤ n ∧ n.tmod 255 = n % 255) ∨ (n < 0 ∧ n.tmod 255 = -((-n) % 255)) := by
  by_cases h : 0 ≤ n
  · exact .inl ⟨h, Int.tmod_eq_emod_of_nonneg h⟩
  · refine .inr ⟨by omega, ?_⟩
    rw [← Int.tmod_eq_emod_of_nonneg (show 0 ≤ -n by omega), Int.neg_tmod, Int.neg_neg]

theorem res_eq (n : Int) : (wrap64 (n.tmod 255 + 255)).tmod 255 = n % 255 := by
  have h1 : -255 < n.tmod 255 ∧ n.tmod 255 < 255 := by rcases tmod_cases n with ⟨_, h⟩ | ⟨_, h⟩ <;> rw [h] <;> omega
  rw [IntWalk.wrap64_in _ ⟨by omega, by omega⟩, Int.tmod_eq_emod_of_nonneg (by omega)]
  rcases tmod_cases n with ⟨_, h⟩ | ⟨_, h⟩ <;> rw [h] <;> omega

theorem mul_tmod (l n : Int) : (l * n.tmod 255) % 255 = (l * n) % 255 := by
  have h : n.tmod 255 % 255 = n % 255 := by rcases tmod_cases n with ⟨_, h⟩ | ⟨_, h⟩ <;> rw [h] <;> omega
  rw [Int.mul_emod, h, ← Int.mul_emod]

end Go.Proofs.Ytioiaiifkfopnaa
