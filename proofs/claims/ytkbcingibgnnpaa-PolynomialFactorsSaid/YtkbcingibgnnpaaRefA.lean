/- kinkeepref02.Mul, Inv, Pow, Log, Order, Sqrt return what Gf says. -/
import Derived.Test.YtkbcingibgnnpaaMul
import Derived.Test.YtkbcingibgnnpaaGfM
namespace Go.Proofs.Ytkbcingibgnnpaa
open Go.RowKit Go.Kin
set_option maxRecDepth 100000

theorem rmul_any (a b : Int) (w : World) (ha0 : 0 ≤ a) (ha1 : a < 256) (hb0 : 0 ≤ b) (hb1 : b < 256) :
    Calls Try.prog 51 #[.int .u8 a, .int .u8 b] w fun e w' => e = .returned (.int .u8 (Gf.mul a.toNat b.toNat : Nat)) ∧ w = w' := by
  go_enter Try.func51, Try.ntmps51
  go_wp2
  go_loop [0, 1, 5, 6] (fun x y p _ => ∃ a' b' q : Nat, a' < 256 ∧ b' < 256 ∧ q < 256 ∧ x = .int .u8 (a' : Int) ∧ y = .int .u8 (b' : Int) ∧ p = .int .u8 (q : Int) ∧ q ^^^ Gf.mul a' b' = Gf.mul a.toNat b.toNat) (fun _ y _ _ => (intOf y).toNat)
  case atStart => exact ⟨a.toNat, b.toNat, 0, by omega, by omega, by omega, by rw [Int.toNat_of_nonneg ha0], by rw [Int.toNat_of_nonneg hb0], rfl, by simp⟩
  case round =>
    obtain ⟨a', b', q, ha', hb', hq, rfl, rfl, rfl, hm⟩ := hrel
    have Hm := Lib.hid hm; clear hm
    have hd := Gf.dbl_lt a' ha'
    by_cases hz : b' = 0
    · subst hz
      have hr : ((q : Nat) : Int) = (Gf.mul a.toNat b.toNat : Nat) := by rw [← Hm.out, Gf.mul_zero]; simp
      have Hr := Lib.hid hr; clear hr
      go_wp2
      go_ret
      exact ⟨ret_int Hr.out, rfl⟩
    · have hpos : 0 < b' := by omega
      have e0 : (((b' : Nat) : Int) != 0) = true := by simp; omega
      have hs := Gf.mul_step a' b' hb'
      have hx : bits .xor .u8 (q : Int) (a' : Int) = ((q ^^^ a' : Nat) : Int) := by rw [xor8 _ _ (by omega) (by omega) (by omega) (by omega)]; simp
      have H1 := Lib.hid hx; clear hx
      have hbig : 128 ≤ a' → bits .xor .u8 ((a' : Int) * 2 % 256) 29 = ((Gf.dbl a' : Nat) : Int) := by
        intro h
        rw [xor8 _ _ (by omega) (by omega) (by omega) (by omega), Gf.dbl, if_neg (by omega)]
        congr 1
        have : ((a' : Int) * 2 % 256).toNat = 2 * a' % 256 := by omega
        rw [this]; rfl
      have hsmall : ¬ 128 ≤ a' → (a' : Int) * 2 = ((Gf.dbl a' : Nat) : Int) := by
        intro h
        rw [Gf.dbl, if_pos (by omega)]; omega
      have H3 := Lib.hid hbig; have H4 := Lib.hid hsmall; clear hbig hsmall
      by_cases hodd : b' % 2 = 1
      · have e2 : (((b' : Nat) : Int) % 2 == 1) = true := by simp; omega
        have hm' : (q ^^^ a') ^^^ Gf.mul (Gf.dbl a') (b' / 2) = Gf.mul a.toNat b.toNat := by
          rw [Nat.xor_assoc, ← Hm.out, hs, if_pos hodd]
        have hq' : q ^^^ a' < 256 := Gf.xor_lt hq ha'
        have H2 := Lib.hid hm'; clear hm' hs hodd hz
        by_cases h128 : 128 ≤ a'
        · have e3 : decide ((128 : Int) ≤ ((a' : Nat) : Int)) = true := by simp; omega
          go_wp2
          go_round
          case rel => exact ⟨Gf.dbl a', b' / 2, q ^^^ a', hd, by omega, hq', by rw [H3.out h128], by simp, by rw [H1.out], H2.out⟩
          case measure => simp [intOf]; omega
        · have e3 : decide ((128 : Int) ≤ ((a' : Nat) : Int)) = false := by simp; omega
          go_wp2
          go_round
          case rel => exact ⟨Gf.dbl a', b' / 2, q ^^^ a', hd, by omega, hq', by rw [H4.out h128], by simp, by rw [H1.out], H2.out⟩
          case measure => simp [intOf]; omega
      · have e2 : (((b' : Nat) : Int) % 2 == 1) = false := by simp; omega
        have hm' : q ^^^ Gf.mul (Gf.dbl a') (b' / 2) = Gf.mul a.toNat b.toNat := by
          rw [← Hm.out, hs, if_neg hodd]; simp
        have H2 := Lib.hid hm'; clear hm' hs hodd hz
        by_cases h128 : 128 ≤ a'
        · have e3 : decide ((128 : Int) ≤ ((a' : Nat) : Int)) = true := by simp; omega
          go_wp2
          go_round
          case rel => exact ⟨Gf.dbl a', b' / 2, q, hd, by omega, hq, by rw [H3.out h128], by simp, rfl, H2.out⟩
          case measure => simp [intOf]; omega
        · have e3 : decide ((128 : Int) ≤ ((a' : Nat) : Int)) = false := by simp; omega
          go_wp2
          go_round
          case rel => exact ⟨Gf.dbl a', b' / 2, q, hd, by omega, hq, by rw [H4.out h128], by simp, rfl, H2.out⟩
          case measure => simp [intOf]; omega

theorem rinv_any (a : Int) (w : World) (ha0 : 0 < a) (ha1 : a < 256) :
    Calls Try.prog 50 #[.int .u8 a] w fun e w' => e = .returned (.int .u8 (Gf.inv a.toNat : Nat)) ∧ w = w' := by
  have hi := Gf.inv_lt a.toNat (by omega)
  have hip := Gf.inv_pos a.toNat (by omega) (by omega)
  have hmi := Gf.mul_inv a.toNat (by omega) (by omega)
  have hu := Gf.inv_unique a.toNat
  have HU := Lib.hid hu; have HM := Lib.hid hmi; clear hu hmi
  go_enter Try.func50, Try.ntmps50
  go_wp2
  go_loop [3] (fun i => ∃ k : Nat, 1 ≤ k ∧ k ≤ Gf.inv a.toNat ∧ i = .int .i64 (k : Int)) (fun i => 256 - (intOf i).toNat)
  case atStart => exact ⟨1, by omega, by omega, rfl⟩
  case round =>
    obtain ⟨k, hk1, hk2, rfl⟩ := hrel
    have hml := Gf.mul_lt a.toNat k (by omega)
    by_cases hk : k = Gf.inv a.toNat
    · have e1 : (((Gf.mul a.toNat k : Nat) : Int) == 1) = true := by rw [hk, HM.out]; rfl
      have HK := Lib.hid hk; clear hk
      go_wp2_with (go_at_call 51; refine (rmul_any _ _ _ (by omega) (by omega) (by omega) (by omega)).mono ?_; rintro e w' ⟨rfl, rfl⟩)
      go_ret
      exact ⟨ret_int (by rw [HK.out]), rfl⟩
    · have e1 : (((Gf.mul a.toNat k : Nat) : Int) == 1) = false := by
        simp
        intro h
        exact hk (HU.out k (by omega) (by omega) (by omega))
      have hlt : k < Gf.inv a.toNat := by omega
      clear hk
      go_wp2_with (go_at_call 51; refine (rmul_any _ _ _ (by omega) (by omega) (by omega) (by omega)).mono ?_; rintro e w' ⟨rfl, rfl⟩)
      go_round
      case rel => exact ⟨k + 1, by omega, by omega, by go_num⟩
      case measure => simp [intOf]; omega

theorem rpow_zero (a n : Int) (w : World) (h : a = 0) :
    Calls Try.prog 58 #[.int .u8 a, .int .i64 n] w fun e w' => e = .returned (.int .u8 (if n = 0 then 1 else 0)) ∧ w = w' := by
  subst h
  by_cases hn : n = 0
  · subst hn
    go_enter Try.func58, Try.ntmps58
    go_wp2
    go_ret
    exact ⟨rfl, rfl⟩
  · have e1 : (n == 0) = false := by simpa using hn
    go_enter Try.func58, Try.ntmps58
    go_wp2
    go_ret
    exact ⟨ret_int (by simp), rfl⟩

theorem tmod_cases' (n : Int) : (0 ≤ n ∧ n.tmod 255 = n % 255) ∨ (n < 0 ∧ n.tmod 255 = -((-n) % 255)) := by
  by_cases h : 0 ≤ n
  · exact .inl ⟨h, Int.tmod_eq_emod_of_nonneg h⟩
  · refine .inr ⟨by omega, ?_⟩
    rw [← Int.tmod_eq_emod_of_nonneg (show 0 ≤ -n by omega), Int.neg_tmod, Int.neg_neg]

theorem rpow_any (a n : Int) (w : World) (ha0 : 0 < a) (ha1 : a < 256) :
    Calls Try.prog 58 #[.int .u8 a, .int .i64 n] w fun e w' => e = .returned (.int .u8 (Gf.powZ a.toNat n : Nat)) ∧ w = w' := by
  have e1 : (a == 0) = false := by simp; omega
  have t1 : -255 < n.tmod 255 ∧ n.tmod 255 < 255 := by rcases tmod_cases' n with ⟨_, h⟩ | ⟨_, h⟩ <;> rw [h] <;> omega
  have t2 : (n.tmod 255 + 255) % 255 = n % 255 := by rcases tmod_cases' n with ⟨_, h⟩ | ⟨_, h⟩ <;> rw [h] <;> omega
  obtain ⟨t3, t4⟩ := t1
  have t5 : wrap64 (n.tmod 255 + 255) = n.tmod 255 + 255 := IntWalk.wrap64_in _ ⟨by omega, by omega⟩
  have t6 : (wrap64 (n.tmod 255 + 255)).tmod 255 = n % 255 := by rw [t5, Int.tmod_eq_emod_of_nonneg (by omega), t2]
  have t7 : (n.tmod 255 + 255).tmod 255 = n % 255 := by rw [Int.tmod_eq_emod_of_nonneg (by omega), t2]
  have hfin : Gf.powZ a.toNat n = Gf.powN a.toNat (n % 255).toNat := Gf.powZ_emod _ (by omega) (by omega) n
  have HF := Lib.hid hfin
  have n0 : 0 ≤ n % 255 := by omega
  have n1 : n % 255 < 255 := by omega
  clear t3 t4 t5 hfin
  go_enter Try.func58, Try.ntmps58
  go_wp2
  go_loop [1, 5] (fun y p => ∃ k j : Nat, k + j = (n % 255).toNat ∧ j < 255 ∧ y = .int .i64 (j : Int) ∧ p = .int .u8 ((Gf.powN a.toNat k : Nat) : Int)) (fun y _ => (intOf y).toNat)
  case atStart => exact ⟨0, (n % 255).toNat, by omega, by omega, by rw [Int.toNat_of_nonneg n0], rfl⟩
  case round =>
    obtain ⟨k, j, hkj, hj255, rfl, rfl⟩ := hrel
    have HK := Lib.hid hkj; clear hkj
    have hl := Gf.powN_lt a.toNat k
    by_cases hj : j = 0
    · subst hj
      have hr : ((Gf.powN a.toNat k : Nat) : Int) = ((Gf.powZ a.toNat n : Nat) : Int) := by rw [HF.out, ← HK.out]; rfl
      have HR := Lib.hid hr; clear hr
      go_wp2
      go_ret
      exact ⟨ret_int HR.out, rfl⟩
    · have hp : (0 : Int) < (j : Int) := by omega
      clear hj
      go_wp2_with (go_at_call 51; refine (rmul_any _ _ _ (by omega) (by omega) (by omega) (by omega)).mono ?_; rintro e w' ⟨rfl, rfl⟩)
      go_round
      case rel => exact ⟨k + 1, j - 1, by have := HK.out; omega, by omega, by go_num, by simp [Gf.powN]⟩
      case measure => simp [intOf]; omega

end Go.Proofs.Ytkbcingibgnnpaa
