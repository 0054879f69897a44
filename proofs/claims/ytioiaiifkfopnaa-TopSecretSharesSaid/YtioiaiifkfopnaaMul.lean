/- gf256.double and gf256.Mul return twice an element and the product of Gf. -/
import Derived.Test.YtioiaiifkfopnaaChecked
import Derived.Test.YtioiaiifkfopnaaGf
import Derived.Test.YtioiaiifkfopnaaKit
namespace Go.Proofs.Ytioiaiifkfopnaa
open Go.RowKit Go.Kin


theorem and128 (a : Int) (h0 : 0 ≤ a) (h1 : a < 256) : bits .and .u8 a 128 = if 128 ≤ a then 128 else 0 := by
  obtain ⟨n, rfl⟩ := Int.eq_ofNat_of_zero_le h0
  have hn : n < 256 := by omega
  have e : ∀ n : Nat, n < 256 → n &&& 128 = if 128 ≤ n then 128 else 0 := by decide +kernel
  rw [show (128 : Int) = ((128 : Nat) : Int) from rfl, u8_and_nat n 128 hn (by omega), e n hn]
  split <;> split <;> simp_all <;> omega

theorem and1 (a : Int) (h0 : 0 ≤ a) (h1 : a < 256) : bits .and .u8 a 1 = a % 2 := by
  obtain ⟨n, rfl⟩ := Int.eq_ofNat_of_zero_le h0
  have hn : n < 256 := by omega
  rw [show (1 : Int) = ((1 : Nat) : Int) from rfl, u8_and_nat n 1 hn (by omega), nat_mask1]
  omega

theorem xor8 (a b : Int) (h1 : 0 ≤ a) (h2 : a < 256) (h3 : 0 ≤ b) (h4 : b < 256) : bits .xor .u8 a b = ((a.toNat ^^^ b.toNat : Nat) : Int) := u8_xor a b h1 h2 h3 h4

theorem double_any (a : Int) (w : World) (h0 : 0 ≤ a) (h1 : a < 256) :
    Calls Try.prog 55 #[.int .u8 a] w fun e w' => e = .returned (.int .u8 (Gf.dbl a.toNat : Nat)) ∧ w = w' := by
  have e1 := and128 a h0 h1
  by_cases h : 128 ≤ a
  · have e2 : (bits .and .u8 a 128 != 0) = true := by rw [e1, if_pos h]; rfl
    have e3 : bits .xor .u8 (a * 2 % 256) 29 = (Gf.dbl a.toNat : Nat) := by
      rw [xor8 _ _ (by omega) (by omega) (by omega) (by omega), Gf.dbl, if_neg (by omega)]
      congr 1
      have : (a * 2 % 256).toNat = 2 * a.toNat % 256 := by omega
      rw [this]; rfl
    have H := Lib.hid e3; clear e3 e1
    go_enter Try.func55, Try.ntmps55
    go_wp2
    go_ret
    exact ⟨ret_int H.out, rfl⟩
  · have e2 : (bits .and .u8 a 128 != 0) = false := by rw [e1, if_neg h]; rfl
    have e3 : a * 2 = (Gf.dbl a.toNat : Nat) := by
      rw [Gf.dbl, if_pos (by omega)]; omega
    have H := Lib.hid e3; clear e3 e1
    go_enter Try.func55, Try.ntmps55
    go_wp2
    go_ret
    exact ⟨ret_int H.out, rfl⟩

theorem natl (n : Nat) : ((n : Int)).toNat = n := Int.toNat_natCast n

theorem mul_any (a b : Int) (w : World) (ha0 : 0 ≤ a) (ha1 : a < 256) (hb0 : 0 ≤ b) (hb1 : b < 256) :
    Calls Try.prog 29 #[.int .u8 a, .int .u8 b] w fun e w' => e = .returned (.int .u8 (Gf.mul a.toNat b.toNat : Nat)) ∧ w = w' := by
  go_enter Try.func29, Try.ntmps29
  go_wp2
  go_loop [0, 1, 5] (fun x y p => ∃ a' b' q : Nat, a' < 256 ∧ b' < 256 ∧ q < 256 ∧ x = .int .u8 (a' : Int) ∧ y = .int .u8 (b' : Int) ∧ p = .int .u8 (q : Int) ∧ q ^^^ Gf.mul a' b' = Gf.mul a.toNat b.toNat) (fun _ y _ => (intOf y).toNat)
  case atStart => exact ⟨a.toNat, b.toNat, 0, by omega, by omega, by omega, by rw [Int.toNat_of_nonneg ha0], by rw [Int.toNat_of_nonneg hb0], rfl, by simp⟩
  case round =>
    obtain ⟨a', b', q, ha', hb', hq, rfl, rfl, rfl, hm⟩ := hrel
    have Hm := Lib.hid hm; clear hm
    have hd := Gf.dbl_lt a' ha'
    by_cases hz : b' = 0
    · subst hz
      have hr : ((q : Nat) : Int) = (Gf.mul a.toNat b.toNat : Nat) := by rw [← Hm.out, Gf.mul_zero]; simp
      have Hr := Lib.hid hr; clear hr
      go_wp2
      go_ret
      exact ⟨ret_int Hr.out, rfl⟩
    · have hpos : 0 < b' := by omega
      have e0 : (((b' : Nat) : Int) != 0) = true := by simp; omega
      have hs := Gf.mul_step a' b' hb'
      have hb2 := and1 (b' : Int) (by omega) (by omega)
      by_cases hodd : b' % 2 = 1
      · have e2 : (bits .and .u8 ((b' : Nat) : Int) 1 == 1) = true := by rw [hb2]; simp; omega
        have hx : bits .xor .u8 (q : Int) (a' : Int) = ((q ^^^ a' : Nat) : Int) := by rw [xor8 _ _ (by omega) (by omega) (by omega) (by omega)]; simp
        have hm' : (q ^^^ a') ^^^ Gf.mul (Gf.dbl a') (b' / 2) = Gf.mul a.toNat b.toNat := by
          rw [Nat.xor_assoc, ← Hm.out, hs, if_pos hodd]
        have hq' : q ^^^ a' < 256 := Nat.xor_lt_two_pow (n := 8) hq ha'
        have H1 := Lib.hid hx; have H2 := Lib.hid hm'; clear hx hm' hs hb2 hodd hz
        go_wp2_with (go_at_call 55; refine (double_any _ _ (by omega) (by omega)).mono ?_; rintro e w' ⟨rfl, rfl⟩)
        go_round
        case rel => exact ⟨Gf.dbl a', b' / 2, q ^^^ a', by simpa using hd, by omega, hq', by simp, by simp, by rw [H1.out], H2.out⟩
        case measure => simp [intOf]; omega
      · have e2 : (bits .and .u8 ((b' : Nat) : Int) 1 == 1) = false := by rw [hb2]; simp; omega
        have hm' : q ^^^ Gf.mul (Gf.dbl a') (b' / 2) = Gf.mul a.toNat b.toNat := by
          rw [← Hm.out, hs, if_neg hodd]; simp
        have H2 := Lib.hid hm'; clear hm' hs hb2 hodd hz
        go_wp2_with (go_at_call 55; refine (double_any _ _ (by omega) (by omega)).mono ?_; rintro e w' ⟨rfl, rfl⟩)
        go_round
        case rel => exact ⟨Gf.dbl a', b' / 2, q, by simpa using hd, by omega, hq, by simp, by simp, rfl, H2.out⟩
        case measure => simp [intOf]; omega
end Go.Proofs.Ytioiaiifkfopnaa
