/- More on the field of 256 elements: powers, logarithms, orders, square roots. -/
import Derived.Test.YtioiaiifkfopnaaGf
namespace Gf

theorem xor_lt {a b : Nat} (ha : a < 256) (hb : b < 256) : a ^^^ b < 256 := Nat.xor_lt_two_pow (n := 8) ha hb

theorem mul_two (a : Nat) (ha : a < 256) : mul 2 a = dbl a := by
  rw [mul_comm 2 a (by omega) ha, mul_step a 2 (by omega)]
  simp [mul_one]

theorem inv_mul (a : Nat) (ha : a < 256) (h0 : a ≠ 0) : mul (inv a) a = 1 := by rw [mul_comm _ _ (inv_lt a ha) ha, mul_inv a ha h0]

theorem mul_cancel (a b c : Nat) (ha : a < 256) (h0 : a ≠ 0) (hb : b < 256) (hc : c < 256) (h : mul a b = mul a c) : b = c := by
  have e := congrArg (mul (inv a)) h
  rw [← mul_assoc _ _ _ (inv_lt a ha) ha hb, ← mul_assoc _ _ _ (inv_lt a ha) ha hc, inv_mul a ha h0, one_mul b hb, one_mul c hc] at e
  exact e

theorem mul_eq_zero (a b : Nat) (ha : a < 256) (hb : b < 256) (h : mul a b = 0) : a = 0 ∨ b = 0 := by
  by_cases h0 : a = 0
  · exact .inl h0
  · exact .inr (mul_cancel a b 0 ha h0 hb (by omega) (by rw [h, mul_zero]))

theorem inv_unique (a b : Nat) (ha : a < 256) (hb : b < 256) (h : mul a b = 1) : b = inv a := by
  have h0 : a ≠ 0 := by
    intro e
    rw [e, zero_mul] at h
    omega
  exact mul_cancel a b _ ha h0 hb (inv_lt a ha) (by rw [h, mul_inv a ha h0])

theorem inv_pos (a : Nat) (ha : a < 256) (h0 : a ≠ 0) : inv a ≠ 0 := by
  intro e
  have := mul_inv a ha h0
  rw [e, mul_zero] at this
  omega

theorem div_mul (a b : Nat) (ha : a < 256) (hb : b < 256) (h0 : a ≠ 0) : mul (mul b a) (inv a) = b := by
  rw [mul_assoc b a _ hb ha (inv_lt a ha), mul_inv a ha h0, mul_one]

theorem xor_self_eq (a b : Nat) (h : a ^^^ b = 0) : a = b := by
  have := congrArg (· ^^^ b) h
  simpa [Nat.xor_assoc] using this

theorem sq_xor (a b : Nat) (ha : a < 256) (hb : b < 256) : mul (a ^^^ b) (a ^^^ b) = mul a a ^^^ mul b b := by
  rw [xor_mul a b _ ha hb, mul_xor, mul_xor, mul_comm b a hb ha, Nat.xor_assoc, ← Nat.xor_assoc (mul a b), Nat.xor_self, Nat.zero_xor]

theorem sqrt_lt (a : Nat) (ha : a < 256) : sqrt a < 256 := sqs_lt 7 a ha

theorem sq_sqrt (a : Nat) (ha : a < 256) : mul (sqrt a) (sqrt a) = a := by
  have : ∀ a, a < 256 → mul (sqrt a) (sqrt a) = a := by decide +kernel
  exact this a ha

theorem sq_inj (a b : Nat) (ha : a < 256) (hb : b < 256) (h : mul a a = mul b b) : a = b := by
  have e := sq_xor a b ha hb
  rw [h, Nat.xor_self] at e
  rcases mul_eq_zero _ _ (xor_lt ha hb) (xor_lt ha hb) e with e | e <;> exact xor_self_eq _ _ e

theorem sqrt_sq (a : Nat) (ha : a < 256) : sqrt (mul a a) = a :=
  sq_inj _ _ (sqrt_lt _ (mul_lt a a ha)) ha (sq_sqrt _ (mul_lt a a ha))

theorem pw_pos (k : Nat) : pw k ≠ 0 := by
  induction k with
  | zero => show 1 ≠ 0; omega
  | succ k ih =>
    intro e
    have e2 : mul 2 (pw k) = 0 := by rw [mul_two _ (pw_lt k)]; exact e
    rcases mul_eq_zero _ _ (by omega) (pw_lt k) e2 with h | h
    · omega
    · exact ih h

theorem pw_add (i j : Nat) : mul (pw i) (pw j) = pw (i + j) := by
  induction i with
  | zero => rw [Nat.zero_add]; exact one_mul _ (pw_lt j)
  | succ i ih =>
    rw [show i + 1 + j = (i + j) + 1 from by omega, pw, pw, ← ih, ← mul_two _ (pw_lt i), ← mul_two _ (mul_lt _ _ (pw_lt i)), mul_assoc _ _ _ (by omega) (pw_lt i) (pw_lt j)]

theorem pw_255 : pw 255 = 1 := by decide +kernel

theorem pw_mod (k : Nat) : pw (k % 255) = pw k := by
  have h : ∀ q r, pw (255 * q + r) = pw r := by
    intro q
    induction q with
    | zero => intro r; simp
    | succ q ih => intro r; rw [show 255 * (q + 1) + r = 255 + (255 * q + r) from by omega, ← pw_add, pw_255, one_mul _ (pw_lt _), ih]
  have := h (k / 255) (k % 255)
  rw [Nat.div_add_mod] at this
  exact this.symm

theorem pw_inj (i j : Nat) (hi : i < 255) (hj : j < 255) (h : pw i = pw j) : i = j := by
  have c : ∀ i, i < 255 → lgT.getD (pw i) 0 = i := by decide +kernel
  rw [← c i hi, ← c j hj, h]

theorem lg_lt (a : Nat) (ha : a < 256) (h0 : a ≠ 0) : lg a < 255 := (pw_lg a ha h0).2
theorem pw_lg' (a : Nat) (ha : a < 256) (h0 : a ≠ 0) : pw (lg a) = a := (pw_lg a ha h0).1

/-- The power with a natural exponent. -/
def powN (a : Nat) : Nat → Nat
  | 0 => 1
  | k + 1 => mul (powN a k) a

theorem powN_lt (a k : Nat) : powN a k < 256 := by
  induction k with
  | zero => show 1 < 256; omega
  | succ k ih => exact mul_lt _ _ ih

theorem powN_pw (a : Nat) (ha : a < 256) (h0 : a ≠ 0) (k : Nat) : powN a k = pw (lg a * k) := by
  induction k with
  | zero => rfl
  | succ k ih =>
    rw [powN, ih]
    conv => lhs; rw [← pw_lg' a ha h0]
    rw [pw_add, pw_lg' a ha h0, Nat.mul_succ]

/-- The power with an integer exponent, of an element other than 0. -/
def powZ (a : Nat) (n : Int) : Nat := pw ((((lg a : Nat) : Int) * n) % 255).toNat

theorem powZ_lt (a : Nat) (n : Int) : powZ a n < 256 := pw_lt _

theorem powZ_mul (a : Nat) (m n : Int) : mul (powZ a m) (powZ a n) = powZ a (m + n) := by
  unfold powZ
  rw [pw_add, ← pw_mod]
  congr 1
  have h : (((lg a : Nat) : Int) * (m + n)) = ((lg a : Nat) : Int) * m + ((lg a : Nat) : Int) * n := Int.mul_add _ _ _
  rw [h]
  omega

theorem powZ_nat (a : Nat) (ha : a < 256) (h0 : a ≠ 0) (k : Nat) : powZ a k = powN a k := by
  unfold powZ
  rw [powN_pw a ha h0, ← pw_mod (lg a * k)]
  congr 1

theorem powZ_emod (a : Nat) (ha : a < 256) (h0 : a ≠ 0) (n : Int) : powZ a n = powN a (n % 255).toNat := by
  rw [← powZ_nat a ha h0, Int.toNat_of_nonneg (by omega)]
  unfold powZ
  congr 2
  rw [Int.mul_emod ((lg a : Nat) : Int) (n % 255), Int.emod_emod, ← Int.mul_emod]

theorem powZ_256 (a : Nat) (ha : a < 256) (h0 : a ≠ 0) : powZ a 256 = a := by
  unfold powZ
  have := lg_lt a ha h0
  rw [show ((((lg a : Nat) : Int) * 256) % 255).toNat = lg a from by omega]
  exact pw_lg' a ha h0

/-- The order of an element other than 0. -/
def ord (a : Nat) : Nat := 255 / Nat.gcd 255 (lg a)

theorem gcd_pos' (l : Nat) : 0 < Nat.gcd 255 l := Nat.gcd_pos_of_pos_left l (by omega)

theorem ord_dvd (a : Nat) : 255 % ord a = 0 := by
  unfold ord
  have h : Nat.gcd 255 (lg a) ∣ 255 := Nat.gcd_dvd_left _ _
  exact Nat.mod_eq_zero_of_dvd (Nat.div_dvd_of_dvd h)

theorem ord_pos (a : Nat) : 0 < ord a := by
  unfold ord
  exact Nat.div_pos (Nat.le_of_dvd (by omega) (Nat.gcd_dvd_left _ _)) (gcd_pos' _)

theorem ord_le (a : Nat) : ord a ≤ 255 := Nat.div_le_self _ _

theorem ord_one (a : Nat) : powZ a (ord a : Nat) = 1 := by
  unfold powZ
  have h : lg a * ord a % 255 = 0 := by
    unfold ord
    obtain ⟨k, hk⟩ := Nat.gcd_dvd_right 255 (lg a)
    obtain ⟨m, hm⟩ := Nat.gcd_dvd_left 255 (lg a)
    have hg := gcd_pos' (lg a)
    have hm' : 255 / Nat.gcd 255 (lg a) = m := by
      conv => lhs; arg 1; rw [hm]
      exact Nat.mul_div_cancel_left m hg
    rw [hm']
    have : lg a * m = 255 * k := by
      calc lg a * m = (Nat.gcd 255 (lg a) * k) * m := by rw [← hk]
        _ = (Nat.gcd 255 (lg a) * m) * k := by rw [Nat.mul_assoc, Nat.mul_comm k m, ← Nat.mul_assoc]
        _ = 255 * k := by rw [← hm]
    rw [this]
    exact Nat.mul_mod_right 255 k
  rw [← Int.natCast_mul, show (((lg a * ord a : Nat) : Int) % 255).toNat = lg a * ord a % 255 from by omega, h]
  rfl

/-- The order is the least exponent from 1 on with power 1. -/
theorem ord_least (a : Nat) (ha : a < 256) (h0 : a ≠ 0) (k : Nat) (hk : 0 < k) (h : powN a k = 1) : ord a ≤ k := by
  rw [powN_pw a ha h0, ← pw_mod] at h
  have h1 : lg a * k % 255 = 0 := pw_inj _ 0 (Nat.mod_lt _ (by omega)) (by omega) h
  have h2 : 255 ∣ lg a * k := Nat.dvd_of_mod_eq_zero h1
  obtain ⟨m, hm⟩ := Nat.gcd_dvd_left 255 (lg a)
  have hg := gcd_pos' (lg a)
  have hm' : ord a = m := by
    unfold ord
    conv => lhs; arg 1; rw [hm]
    exact Nat.mul_div_cancel_left m hg
  have h3 : m ∣ k := by
    have hc : Nat.Coprime (255 / Nat.gcd 255 (lg a)) (lg a / Nat.gcd 255 (lg a)) := Nat.coprime_div_gcd_div_gcd hg
    have hmm : 255 / Nat.gcd 255 (lg a) = m := hm'
    rw [hmm] at hc
    refine hc.dvd_of_dvd_mul_left ?_
    obtain ⟨q, hq⟩ := Nat.gcd_dvd_right 255 (lg a)
    obtain ⟨t, ht⟩ := h2
    have hq' : lg a / Nat.gcd 255 (lg a) = q := by
      conv => lhs; arg 1; rw [hq]
      exact Nat.mul_div_cancel_left q hg
    rw [hq']
    refine ⟨t, Nat.eq_of_mul_eq_mul_left hg ?_⟩
    calc Nat.gcd 255 (lg a) * (q * k) = (Nat.gcd 255 (lg a) * q) * k := by rw [Nat.mul_assoc]
      _ = lg a * k := by rw [← hq]
      _ = 255 * t := ht
      _ = (Nat.gcd 255 (lg a) * m) * t := by rw [← hm]
      _ = Nat.gcd 255 (lg a) * (m * t) := by rw [Nat.mul_assoc]
  rw [hm']
  exact Nat.le_of_dvd hk h3

end Gf
