/- gf256.Add, Inv, Div, Sqrt, residue, Exp, Log, Pow, Order return what Gf says. -/
import Derived.Test.YtchhfpaicdhjbaaFill
import Derived.BigQuiet
import Derived.Deep.QuietTactic
namespace Go.Proofs.Ytchhfpaicdhjbaa
open Go.RowKit Go.Kin

theorem inv_zero_any (w : World) :
    Calls Try.prog 51 #[.int .u8 0] w fun e w' => e = .returned (.tuple #[.int .u8 0, .int .i64 1]) ∧ w = w' := by
  go_enter Try.func51, Try.ntmps51
  go_wp2
  go_ret2
  exact ⟨rfl, rfl⟩

theorem inv_any (a : Int) (w : World) (ha0 : 0 < a) (ha1 : a < 256) :
    Calls Try.prog 51 #[.int .u8 a] w fun e w' => e = .returned (.tuple #[.int .u8 (Gf.inv a.toNat : Nat), .int .i64 0]) ∧ w = w' := by
  have h0 : (a == 0) = false := by simp; omega
  go_enter Try.func51, Try.ntmps51
  go_wp2
  go_loop [0, 4, 7] (fun x p i => ∃ k : Nat, k ≤ 7 ∧ i = .int .i64 (k : Int) ∧ x = .int .u8 ((Gf.sqs k a.toNat : Nat) : Int) ∧ p = .int .u8 ((Gf.invT k a.toNat : Nat) : Int)) (fun _ _ i => 7 - (intOf i).toNat)
  case atStart => exact ⟨0, by omega, rfl, by simp [Gf.sqs]; omega, rfl⟩
  case round =>
    obtain ⟨k, hk, rfl, rfl, rfl⟩ := hrel
    have hs := Gf.sqs_lt k a.toNat (by omega)
    have hi := Gf.invT_lt k a.toNat
    have hs2 := Gf.mul_lt (Gf.sqs k a.toNat) (Gf.sqs k a.toNat) hs
    by_cases hlt : k < 7
    · go_wp2_with (go_at_call 55; refine (mul_any _ _ _ (by omega) (by omega) (by omega) (by omega)).mono ?_; rintro e w' ⟨rfl, rfl⟩)
      go_round
      case rel => exact ⟨k + 1, by omega, by go_num, by simp [Gf.sqs], by simp [Gf.invT, Gf.sqs]⟩
      case measure => simp [intOf]; omega
    · have hk7 : k = 7 := by omega
      subst hk7
      have he := Lib.hid (Gf.invT_eq a.toNat (by omega))
      go_wp2
      go_ret2
      exact ⟨ret_two (by rw [he.out]) rfl, rfl⟩

theorem tmod_cases (n : Int) : (0 ≤ n ∧ n.tmod 255 = n % 255) ∨ (n < 0 ∧ n.tmod 255 = -((-n) % 255)) := by
  by_cases h : 0 ≤ n
  · exact .inl ⟨h, Int.tmod_eq_emod_of_nonneg h⟩
  · refine .inr ⟨by omega, ?_⟩
    rw [← Int.tmod_eq_emod_of_nonneg (show 0 ≤ -n by omega), Int.neg_tmod, Int.neg_neg]

theorem res_eq (n : Int) : (wrap64 (n.tmod 255 + 255)).tmod 255 = n % 255 := by
  have h1 : -255 < n.tmod 255 ∧ n.tmod 255 < 255 := by rcases tmod_cases n with ⟨_, h⟩ | ⟨_, h⟩ <;> rw [h] <;> omega
  rw [IntWalk.wrap64_in _ ⟨by omega, by omega⟩, Int.tmod_eq_emod_of_nonneg (by omega)]
  rcases tmod_cases n with ⟨_, h⟩ | ⟨_, h⟩ <;> rw [h] <;> omega

theorem residue_any (n : Int) (w : World) :
    Calls Try.prog 57 #[.int .i64 n] w fun e w' => e = .returned (.int .i64 (n % 255)) ∧ w = w' := by
  go_enter Try.func57, Try.ntmps57
  go_wp2
  go_ret
  exact ⟨ret_int (res_eq n), rfl⟩

theorem pow_zero_neg (n : Int) (w : World) (hn : n < 0) :
    Calls Try.prog 52 #[.int .u8 0, .int .i64 n] w fun e w' => e = .returned (.tuple #[.int .u8 0, .int .i64 1]) ∧ Below w.heap.size w w' := by
  go_enter Try.func52, Try.ntmps52
  go_wp2
  go_ret2
  exact ⟨rfl, Below.refl _ _⟩

theorem pow_zero_pos (n : Int) (w : World) (hn : 0 ≤ n) :
    Calls Try.prog 52 #[.int .u8 0, .int .i64 n] w fun e w' => e = .returned (.tuple #[.int .u8 (if n = 0 then 1 else 0), .int .i64 0]) ∧ Below w.heap.size w w' := by
  by_cases h : n = 0
  · subst h
    go_enter Try.func52, Try.ntmps52
    go_wp2
    go_ret2
    exact ⟨rfl, Below.refl _ _⟩
  · have h2 : (n == 0) = false := by simpa using h
    go_enter Try.func52, Try.ntmps52
    go_wp2
    go_ret2
    exact ⟨ret_two (by simp) rfl, Below.refl _ _⟩

theorem mul_tmod (l n : Int) : (l * n.tmod 255) % 255 = (l * n) % 255 := by
  have h : n.tmod 255 % 255 = n % 255 := by rcases tmod_cases n with ⟨_, h⟩ | ⟨_, h⟩ <;> rw [h] <;> omega
  rw [Int.mul_emod, h, ← Int.mul_emod]

theorem pow_any (a n : Int) (w : World) (ha0 : 0 < a) (ha1 : a < 256) :
    Calls Try.prog 52 #[.int .u8 a, .int .i64 n] w fun e w' => e = .returned (.tuple #[.int .u8 (Gf.pw (((Gf.lg a.toNat : Nat) : Int) * n % 255).toNat : Nat), .int .i64 0]) ∧ Below w.heap.size w w' := by
  have h0 : (a == 0) = false := by simp; omega
  have z0 := zero50
  have z1 := zero51
  obtain ⟨r, hr⟩ : ∃ r : Int, r = ((Gf.lg a.toNat : Nat) : Int) * n % 255 := ⟨_, rfl⟩
  have hlg := (Gf.pw_lg a.toNat (by omega) (by omega)).2
  have hmt := mul_tmod ((Gf.lg a.toNat : Nat) : Int) n
  have hn0 : 0 ≤ r := by omega
  have hn1 : r < 255 := by omega
  have ht1 : -255 < n.tmod 255 := by rcases tmod_cases n with ⟨_, h⟩ | ⟨_, h⟩ <;> rw [h] <;> omega
  have ht2 : n.tmod 255 < 255 := by rcases tmod_cases n with ⟨_, h⟩ | ⟨_, h⟩ <;> rw [h] <;> omega
  have hw : wrap64 (((Gf.lg a.toNat : Nat) : Int) * n.tmod 255) = ((Gf.lg a.toNat : Nat) : Int) * n.tmod 255 := by
    have b1 : ((Gf.lg a.toNat : Nat) : Int) * n.tmod 255 ≤ 255 * 255 := by
      refine Int.le_trans (Int.mul_le_mul_of_nonneg_left (show n.tmod 255 ≤ 255 by omega) (by omega)) ?_
      omega
    have b2 : -(255 * 255) ≤ ((Gf.lg a.toNat : Nat) : Int) * n.tmod 255 := by
      refine Int.le_trans ?_ (Int.mul_le_mul_of_nonneg_left (show -255 ≤ n.tmod 255 by omega) (by omega))
      omega
    exact IntWalk.wrap64_in _ ⟨by omega, by omega⟩
  rw [← hr] at hmt
  rw [← hr]
  have HM : Hid (wrap64 (((Gf.lg a.toNat : Nat) : Int) * n.tmod 255) % 255 = r) := by rw [hw]; exact hmt
  clear hmt hw hr ht1 ht2
  go_enter Try.func52, Try.ntmps52
  go_wp2_with (first
    | (go_at_call 56; refine (fill_any _).mono ?_; rintro e w1 ⟨rfl, hb⟩)
    | (go_at_call 57; refine (residue_any _ _).mono ?_; rintro e w' ⟨rfl, rfl⟩; rw [HM.out])
    | (refine wpList_store_row_any rfl 70 (.tmp 6) (.tmp 16) rfl w1.heap.size (pwA 255) rfl rfl 70 (pwA 0) (heap_alloc2_old w1 _ _) (by rw [pwA_size]; exact under50) (by rw [pwA_size, pwA_size]) (pwA_one 255) ?_; intro w2 hw2)
    | (refine wpList_store_row_any rfl 71 (.tmp 7) (.tmp 17) rfl (w1.heap.size + 1) (lgA 255) rfl rfl 71 (lgA 0) ((hw2.other _ (by omega)).trans (heap_alloc2_new w1 _ _)) (by rw [lgA_size]; exact under51) (by rw [lgA_size, lgA_size]) (lgA_one 255) ?_; intro w3 hw3
       have hc : w3.cell? ⟨w1.heap.size, r.toNat, none⟩ = some (.int .u8 ((Gf.pw r.toNat : Nat) : Int)) := (cell_of_row w3 _ _ _ _ _ ((hw3.other _ (by omega)).trans hw2.row)).trans (pwA_get _ (by omega))
       have hc2 : w3.cell? ⟨w1.heap.size + 1, a.toNat, none⟩ = some (.int .i64 ((Gf.lg a.toNat : Nat) : Int)) := (cell_of_row w3 _ _ _ _ _ hw3.row).trans (lgA_get _ (by omega))
       have HW2 := Lib.hid hw2; have HW3 := Lib.hid hw3; clear hw2 hw3))
  go_ret2
  exact ⟨rfl, HW3.out.below (HW2.out.below (((hb.alloc hb.size _).alloc (by have := hb.size; simp; omega) _)) hb.size) (by have := hb.size; omega)⟩

end Go.Proofs.Ytchhfpaicdhjbaa
