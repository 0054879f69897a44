/- kinkeepref04.Mul, Inv. -/
import Derived.Test.YtchhfpaicdhjbaaMs
import Derived.Test.YtchhfpaicdhjbaaGfC
namespace Go.Proofs.Ytchhfpaicdhjbaa
open Go.RowKit Go.Kin Mat
open Fq (sum)
set_option maxRecDepth 100000

theorem i64_xor_nat (a b : Nat) (ha : a < 65536) (hb : b < 65536) : bits .xor .i64 (a : Int) (b : Int) = ((a ^^^ b : Nat) : Int) := by
  have hx : a ^^^ b < 2 ^ 16 := Nat.xor_lt_two_pow (by omega) (by omega)
  show IntKind.i64.wrap ((BitVec.ofInt 64 (a : Int) ^^^ BitVec.ofInt 64 (b : Int)).toNat : Int) = _
  rw [BitVec.toNat_xor, ofInt_u64 a (by omega), ofInt_u64 b (by omega), IntKind.wrap_i64]
  omega
theorem bit_at (b k : Nat) (hb : b < 256) : bits .and .u8 ((b : Int) / 2 ^ k) 1 = ((b / 2 ^ k % 2 : Nat) : Int) := by
  have e : (b : Int) / 2 ^ k = ((b / 2 ^ k : Nat) : Int) := by simp
  have hle : b / 2 ^ k ≤ b := Nat.div_le_self _ _
  rw [e]
  have h0 : b / 2 ^ k < 256 := by omega
  generalize b / 2 ^ k = c at h0
  rw [and1 _ (by omega) (by omega)]; simp
theorem dbl_big (x : Nat) (hx : x < 256) (h : 128 ≤ x) : bits .xor .i64 ((x : Int) * 2) 285 = ((Gf.dbl x : Nat) : Int) := by
  have e : ∀ x : Nat, x < 256 → 128 ≤ x → (x * 2) ^^^ 285 = Gf.dbl x := by decide +kernel
  rw [show (x : Int) * 2 = ((x * 2 : Nat) : Int) by simp, show (285 : Int) = ((285 : Nat) : Int) from rfl, i64_xor_nat _ _ (by omega) (by omega), e x hx h]
theorem dbl_small (x : Nat) (h : ¬ 128 ≤ x) : (x : Int) * 2 = ((Gf.dbl x : Nat) : Int) := by
  unfold Gf.dbl; rw [if_pos (by omega)]; omega

theorem rmul4_any (a b : Nat) (w : World) (ha : a < 256) (hb : b < 256) :
    Calls Try.prog 33 #[.int .u8 (a : Int), .int .u8 (b : Int)] w fun e w' => e = .returned (.int .u8 ((Gf.mul a b : Nat) : Int)) ∧ w = w' := by
  go_enter Try.func33, Try.ntmps33
  go_wp2
  go_loop [5, 6, 7] (fun x s i => ∃ k x' s' : Nat, k ≤ 8 ∧ x' < 256 ∧ s' < 256 ∧ x = .int .i64 (x' : Int) ∧ s = .int .i64 (s' : Int) ∧ i = .int .i64 (k : Int) ∧ Hid (s' ^^^ Gf.mulF (8 - k) x' (b / 2 ^ k) = Gf.mul a b)) (fun _ _ i => 8 - (intOf i).toNat)
  case atStart => exact ⟨0, a, 0, by omega, by omega, by omega, rfl, rfl, rfl, by show _ = _; simp [Gf.mul]⟩
  case round =>
    obtain ⟨k, x, s, hk, hx, hs, rfl, rfl, rfl, hm⟩ := hrel
    by_cases hlt : k < 8
    · have B := bit_at b k hb
      have X := Lib.hid (i64_xor_nat s x (by omega) (by omega))
      have D := Lib.hid (fun h => dbl_big x hx h)
      have D' := Lib.hid (fun h => dbl_small x h)
      have dl := Gf.dbl_lt x hx
      have hsx : s ^^^ x < 256 := Gf.xor_lt hs hx
      have step : Gf.mulF (8 - k) x (b / 2 ^ k) = (if b / 2 ^ k % 2 = 1 then x else 0) ^^^ Gf.mulF (8 - (k + 1)) (Gf.dbl x) (b / 2 ^ (k + 1)) := by
        rw [show 8 - k = (8 - (k + 1)) + 1 from by omega, Gf.mulF, Nat.pow_succ, Nat.div_div_eq_div_mul]
      have ST := Lib.hid step
      clear step
      by_cases hodd : b / 2 ^ k % 2 = 1
      · have e2 : (bits .and .u8 ((b : Int) / 2 ^ k) 1 == 1) = true := by rw [B, hodd]; rfl
        have hm2 : Hid ((s ^^^ x) ^^^ Gf.mulF (8 - (k + 1)) (Gf.dbl x) (b / 2 ^ (k + 1)) = Gf.mul a b) := by
          show _ = _
          rw [← hm.out, ST.out, if_pos hodd, Nat.xor_assoc]
        clear B hodd
        by_cases h128 : 128 ≤ x
        · have e3 : decide ((255 : Int) < (x : Int) * 2) = true := by simp; omega
          go_wp2_with fail
          go_round
          case rel => exact ⟨k + 1, Gf.dbl x, s ^^^ x, by omega, dl, hsx, by rw [D.out h128], by rw [X.out], by go_num, hm2⟩
          case measure => simp [intOf]; omega
        · have e3 : decide ((255 : Int) < (x : Int) * 2) = false := by simp; omega
          go_wp2_with fail
          go_round
          case rel => exact ⟨k + 1, Gf.dbl x, s ^^^ x, by omega, dl, hsx, by rw [D'.out h128], by rw [X.out], by go_num, hm2⟩
          case measure => simp [intOf]; omega
      · have e2 : (bits .and .u8 ((b : Int) / 2 ^ k) 1 == 1) = false := by
          rw [B]
          have : b / 2 ^ k % 2 = 0 := by omega
          rw [this]; rfl
        have hm2 : Hid (s ^^^ Gf.mulF (8 - (k + 1)) (Gf.dbl x) (b / 2 ^ (k + 1)) = Gf.mul a b) := by
          show _ = _
          rw [← hm.out, ST.out, if_neg hodd, Nat.zero_xor]
        clear B hodd
        by_cases h128 : 128 ≤ x
        · have e3 : decide ((255 : Int) < (x : Int) * 2) = true := by simp; omega
          go_wp2_with fail
          go_round
          case rel => exact ⟨k + 1, Gf.dbl x, s, by omega, dl, hs, by rw [D.out h128], rfl, by go_num, hm2⟩
          case measure => simp [intOf]; omega
        · have e3 : decide ((255 : Int) < (x : Int) * 2) = false := by simp; omega
          go_wp2_with fail
          go_round
          case rel => exact ⟨k + 1, Gf.dbl x, s, by omega, dl, hs, by rw [D'.out h128], rfl, by go_num, hm2⟩
          case measure => simp [intOf]; omega
    · have hk8 : k = 8 := by omega
      subst hk8
      have e : s = Gf.mul a b := by have := hm.out; simpa [Gf.mulF] using this
      have E := Lib.hid e
      clear e
      go_wp2_with fail
      go_ret
      exact ⟨ret_int (by rw [E.out]), rfl⟩

theorem rinv4_any (a : Nat) (w : World) (ha : a < 256) :
    Calls Try.prog 47 #[.int .u8 (a : Int)] w fun e w' => e = .returned (.int .u8 ((Gf.inv a : Nat) : Int)) ∧ w = w' := by
  have hi := Gf.inv_lt a ha
  have HU : Hid (∀ k, 1 ≤ k → k < 256 → Gf.mul a k = 1 → k = Gf.inv a) := fun k h1 h2 h3 => by
    by_cases h0 : a = 0
    · rw [h0, Gf.zero_mul] at h3; omega
    · exact Gf.inv_unique a k ha h2 h3
  go_enter Try.func47, Try.ntmps47
  go_wp2
  go_loop [3] (fun i => ∃ k : Nat, 1 ≤ k ∧ k ≤ 256 ∧ i = .int .i64 (k : Int) ∧ Hid (∀ j, 1 ≤ j → j < k → Gf.mul a j ≠ 1)) (fun i => 256 - (intOf i).toNat)
  case atStart => exact ⟨1, by omega, by omega, rfl, fun j h1 h2 => by omega⟩
  case round =>
    obtain ⟨k, hk1, hk2, rfl, hno⟩ := hrel
    by_cases hlt : k < 256
    · have hml := Gf.mul_lt a k ha
      have i1 : (k : Int) < 256 := by omega
      by_cases hk : Gf.mul a k = 1
      · have e1 : (((Gf.mul a k : Nat) : Int) == 1) = true := by rw [hk]; rfl
        have HK := Lib.hid (HU.out k hk1 hlt hk)
        clear hk
        go_wp2_with (go_at_call 33; refine (rmul4_any a k _ ha hlt).mono ?_; rintro e w' ⟨rfl, rfl⟩)
        go_ret
        exact ⟨ret_int (by rw [HK.out]), rfl⟩
      · have e1 : (((Gf.mul a k : Nat) : Int) == 1) = false := by simp; omega
        have hno2 : Hid (∀ j, 1 ≤ j → j < k + 1 → Gf.mul a j ≠ 1) := fun j h1 h2 => by
          by_cases e : j = k
          · rw [e]; exact hk
          · exact hno.out j h1 (by omega)
        clear hk
        go_wp2_with (go_at_call 33; refine (rmul4_any a k _ ha hlt).mono ?_; rintro e w' ⟨rfl, rfl⟩)
        go_round
        case rel => exact ⟨k + 1, by omega, by omega, by go_num, hno2⟩
        case measure => simp [intOf]; omega
    · have hz : Gf.inv a = 0 := by
        by_cases h0 : a = 0
        · rw [h0, Gf.inv_zero]
        · exact absurd (Gf.mul_inv a ha h0) (hno.out _ (by have := Gf.inv_pos a ha h0; omega) (by omega))
      have HZ := Lib.hid hz
      clear hz
      go_wp2_with fail
      go_ret
      exact ⟨ret_int (by rw [HZ.out]; rfl), rfl⟩
end Go.Proofs.Ytchhfpaicdhjbaa
