/- The field of 256 elements as a type with sums and products; finite sums. -/
import Derived.Test.YtioiaiifkfopnaaGfM

/-- An element of the field of 256 elements. -/
structure Fq where
  n : Nat
  h : n < 256

namespace Fq

theorem ext {a b : Fq} (h : a.n = b.n) : a = b := by
  cases a; cases b; simp only at h; subst h; rfl

instance : DecidableEq Fq := fun a b => if h : a.n = b.n then isTrue (ext h) else isFalse fun e => h (by rw [e])

/-- An element out of a number. -/
def of (n : Nat) : Fq := ⟨n % 256, Nat.mod_lt _ (by omega)⟩
theorem of_n {n : Nat} (h : n < 256) : (of n).n = n := Nat.mod_eq_of_lt h
theorem of_val (a : Fq) : of a.n = a := ext (Nat.mod_eq_of_lt a.h)

instance : Add Fq := ⟨fun a b => ⟨a.n ^^^ b.n, Gf.xor_lt a.h b.h⟩⟩
instance : Mul Fq := ⟨fun a b => ⟨Gf.mul a.n b.n, Gf.mul_lt _ _ a.h⟩⟩
instance : Zero Fq := ⟨⟨0, by omega⟩⟩
instance : One Fq := ⟨⟨1, by omega⟩⟩
def inv (a : Fq) : Fq := ⟨Gf.inv a.n, Gf.inv_lt _ a.h⟩

theorem add_n (a b : Fq) : (a + b).n = a.n ^^^ b.n := rfl
theorem mul_n (a b : Fq) : (a * b).n = Gf.mul a.n b.n := rfl
theorem zero_n : (0 : Fq).n = 0 := rfl
theorem one_n : (1 : Fq).n = 1 := rfl
theorem of_zero : of 0 = 0 := rfl
theorem of_one : of 1 = 1 := rfl
theorem n_eq_zero {a : Fq} : a.n = 0 ↔ a = 0 := ⟨fun h => ext h, fun h => by rw [h]; rfl⟩
theorem of_eq_zero {n : Nat} (h : n < 256) : of n = 0 ↔ n = 0 := by rw [← n_eq_zero, of_n h]
theorem of_inj {a b : Nat} (ha : a < 256) (hb : b < 256) (h : of a = of b) : a = b := by
  have := congrArg Fq.n h
  rwa [of_n ha, of_n hb] at this
theorem of_add {a b : Nat} (ha : a < 256) (hb : b < 256) : of (a ^^^ b) = of a + of b := ext (by rw [of_n (Gf.xor_lt ha hb), add_n, of_n ha, of_n hb])
theorem of_mul {a b : Nat} (ha : a < 256) (hb : b < 256) : of (Gf.mul a b) = of a * of b := ext (by rw [of_n (Gf.mul_lt a b ha), mul_n, of_n ha, of_n hb])
theorem of_inv {a : Nat} (ha : a < 256) : of (Gf.inv a) = inv (of a) := ext (by rw [of_n (Gf.inv_lt a ha)]; show _ = Gf.inv (of a).n; rw [of_n ha])

theorem add_assoc (a b c : Fq) : a + b + c = a + (b + c) := ext (Nat.xor_assoc _ _ _)
theorem add_comm (a b : Fq) : a + b = b + a := ext (Nat.xor_comm _ _)
theorem add_zero (a : Fq) : a + 0 = a := ext (Nat.xor_zero _)
theorem zero_add (a : Fq) : 0 + a = a := ext (Nat.zero_xor _)
theorem add_self (a : Fq) : a + a = 0 := ext (Nat.xor_self _)
theorem add_left_comm (a b c : Fq) : a + (b + c) = b + (a + c) := by rw [← add_assoc, add_comm a b, add_assoc]
theorem mul_assoc (a b c : Fq) : a * b * c = a * (b * c) := ext (Gf.mul_assoc _ _ _ a.h b.h c.h)
theorem mul_comm (a b : Fq) : a * b = b * a := ext (Gf.mul_comm _ _ a.h b.h)
theorem mul_left_comm (a b c : Fq) : a * (b * c) = b * (a * c) := by rw [← mul_assoc, mul_comm a b, mul_assoc]
theorem mul_one (a : Fq) : a * 1 = a := ext (Gf.mul_one _)
theorem one_mul (a : Fq) : 1 * a = a := by rw [mul_comm, mul_one]
theorem mul_zero (a : Fq) : a * 0 = 0 := ext (Gf.mul_zero _)
theorem zero_mul (a : Fq) : 0 * a = 0 := by rw [mul_comm, mul_zero]
theorem mul_add (a b c : Fq) : a * (b + c) = a * b + a * c := ext (Gf.mul_xor _ _ _)
theorem add_mul (a b c : Fq) : (a + b) * c = a * c + b * c := by rw [mul_comm, mul_add, mul_comm c, mul_comm c]
theorem mul_inv {a : Fq} (h : a ≠ 0) : a * inv a = 1 := ext (Gf.mul_inv _ a.h fun e => h (ext e))
theorem inv_mul {a : Fq} (h : a ≠ 0) : inv a * a = 1 := by rw [mul_comm, mul_inv h]
theorem inv_zero : inv 0 = 0 := ext Gf.inv_zero
theorem zero_ne_one : (0 : Fq) ≠ 1 := fun h => by have := congrArg Fq.n h; rw [zero_n, one_n] at this; omega
theorem one_ne_zero : (1 : Fq) ≠ 0 := fun h => zero_ne_one h.symm
theorem mul_eq_zero {a b : Fq} (h : a * b = 0) : a = 0 ∨ b = 0 := by
  by_cases ha : a = 0
  · exact .inl ha
  · right
    have := congrArg (inv a * ·) h
    simp only [← mul_assoc, inv_mul ha, one_mul, mul_zero] at this
    exact this
theorem mul_ne_zero {a b : Fq} (ha : a ≠ 0) (hb : b ≠ 0) : a * b ≠ 0 := fun h => (mul_eq_zero h).elim ha hb
theorem inv_ne_zero {a : Fq} (h : a ≠ 0) : inv a ≠ 0 := fun e => by
  have := mul_inv h
  rw [e, mul_zero] at this
  exact zero_ne_one this
theorem add_eq_zero {a b : Fq} : a + b = 0 ↔ a = b := by
  constructor
  · intro h
    have := congrArg (· + b) h
    simp only [add_assoc, add_self, add_zero, zero_add] at this
    exact this
  · intro h; rw [h, add_self]
theorem add_add_cancel (a b : Fq) : a + b + b = a := by rw [add_assoc, add_self, add_zero]
theorem eq_add_of {a b c : Fq} (h : a + b = c) : a = c + b := by rw [← h, add_add_cancel]
theorem mul_cancel {a b c : Fq} (ha : a ≠ 0) (h : a * b = a * c) : b = c := by
  have := congrArg (inv a * ·) h
  simp only [← mul_assoc, inv_mul ha, one_mul] at this
  exact this
theorem inv_unique {a b : Fq} (h : a * b = 1) : b = inv a := by
  have ha : a ≠ 0 := fun e => by rw [e, zero_mul] at h; exact zero_ne_one h
  exact mul_cancel ha (by rw [h, mul_inv ha])

/-- The sum of the first n values of a function. -/
def sum (f : Nat → Fq) : Nat → Fq
  | 0 => 0
  | n + 1 => sum f n + f n

theorem sum_zero (f : Nat → Fq) : sum f 0 = 0 := rfl
theorem sum_succ (f : Nat → Fq) (n : Nat) : sum f (n + 1) = sum f n + f n := rfl

theorem sum_congr {f g : Nat → Fq} {n : Nat} (h : ∀ i, i < n → f i = g i) : sum f n = sum g n := by
  induction n with
  | zero => rfl
  | succ n ih => rw [sum_succ, sum_succ, ih fun i hi => h i (by omega), h n (by omega)]

theorem sum_zeros {f : Nat → Fq} {n : Nat} (h : ∀ i, i < n → f i = 0) : sum f n = 0 := by
  induction n with
  | zero => rfl
  | succ n ih => rw [sum_succ, ih fun i hi => h i (by omega), h n (by omega), add_zero]

theorem sum_add (f g : Nat → Fq) (n : Nat) : sum (fun i => f i + g i) n = sum f n + sum g n := by
  induction n with
  | zero => rw [sum_zero, sum_zero, sum_zero, add_zero]
  | succ n ih => rw [sum_succ, sum_succ, sum_succ, ih, add_assoc, add_left_comm (sum g n), ← add_assoc]

theorem mul_sum (a : Fq) (f : Nat → Fq) (n : Nat) : a * sum f n = sum (fun i => a * f i) n := by
  induction n with
  | zero => rw [sum_zero, sum_zero, mul_zero]
  | succ n ih => rw [sum_succ, sum_succ, mul_add, ih]

theorem sum_mul (a : Fq) (f : Nat → Fq) (n : Nat) : sum f n * a = sum (fun i => f i * a) n := by
  rw [mul_comm, mul_sum]; exact sum_congr fun i _ => mul_comm _ _

/-- The first term apart. -/
theorem sum_succ' (f : Nat → Fq) (n : Nat) : sum f (n + 1) = f 0 + sum (fun i => f (i + 1)) n := by
  induction n with
  | zero => rw [sum_succ, sum_zero, sum_zero, add_comm]
  | succ n ih => rw [sum_succ, ih, sum_succ, add_assoc]

/-- More terms that are 0 change nothing. -/
theorem sum_extend (f : Nat → Fq) {n m : Nat} (h : n ≤ m) (h0 : ∀ i, n ≤ i → i < m → f i = 0) : sum f m = sum f n := by
  obtain ⟨k, rfl⟩ := Nat.exists_eq_add_of_le h
  induction k with
  | zero => rfl
  | succ k ih =>
    rw [← Nat.add_assoc, sum_succ, ih (by omega) fun i h1 h2 => h0 i h1 (by omega), h0 (n + k) (by omega) (by omega), add_zero]

theorem sum_rev (f : Nat → Fq) (n : Nat) : sum (fun i => f (n - 1 - i)) n = sum f n := by
  induction n generalizing f with
  | zero => rfl
  | succ n ih =>
    rw [sum_succ', sum_succ]
    have : sum (fun i => f (n + 1 - 1 - (i + 1))) n = sum f n := by
      rw [← ih f]
      exact sum_congr fun i _ => by congr 1; omega
    rw [this, add_comm]
    rfl

theorem sum_comm (f : Nat → Nat → Fq) (n m : Nat) : sum (fun i => sum (f i) m) n = sum (fun j => sum (fun i => f i j) n) m := by
  induction n with
  | zero => rw [sum_zero]; exact (sum_zeros fun i _ => rfl).symm
  | succ n ih => rw [sum_succ, ih, ← sum_add]; rfl

/-- A triangle, by rows and by diagonals. -/
theorem sum_tri (f : Nat → Nat → Fq) (n : Nat) : sum (fun i => sum (f i) (i + 1)) n = sum (fun j => sum (fun m => f (j + m) j) (n - j)) n := by
  induction n with
  | zero => rfl
  | succ n ih =>
    rw [sum_succ, ih]
    have h1 : sum (fun j => sum (fun m => f (j + m) j) (n + 1 - j)) (n + 1) = sum (fun j => sum (fun m => f (j + m) j) (n + 1 - j)) n + f n n := by
      rw [sum_succ, show n + 1 - n = 1 from by omega, sum_succ, sum_zero, zero_add]
      rfl
    have h2 : sum (fun j => sum (fun m => f (j + m) j) (n + 1 - j)) n = sum (fun j => sum (fun m => f (j + m) j) (n - j)) n + sum (f n) n := by
      rw [← sum_add]
      refine sum_congr fun j hj => ?_
      rw [show n + 1 - j = (n - j) + 1 from by omega, sum_succ, show j + (n - j) = n from by omega]
    rw [h1, h2, sum_succ, add_assoc]

/-- Just one term. -/
theorem sum_one (f : Nat → Fq) {n k : Nat} (hk : k < n) (h : ∀ i, i < n → i ≠ k → f i = 0) : sum f n = f k := by
  induction n with
  | zero => omega
  | succ n ih =>
    rw [sum_succ]
    by_cases e : k = n
    · subst e
      rw [sum_zeros fun i hi => h i (by omega) (by omega), zero_add]
    · rw [ih (by omega) fun i hi => h i (by omega), h n (by omega) (fun e2 => e e2.symm), add_zero]

def pow (a : Fq) : Nat → Fq
  | 0 => 1
  | n + 1 => pow a n * a

theorem pow_add (a : Fq) (m n : Nat) : pow a (m + n) = pow a m * pow a n := by
  induction n with
  | zero => rw [Nat.add_zero, pow, mul_one]
  | succ n ih => rw [← Nat.add_assoc, pow, ih, pow, mul_assoc]

instance : Std.Associative (α := Fq) (· + ·) := ⟨add_assoc⟩
instance : Std.Commutative (α := Fq) (· + ·) := ⟨add_comm⟩
instance : Std.Associative (α := Fq) (· * ·) := ⟨mul_assoc⟩
instance : Std.Commutative (α := Fq) (· * ·) := ⟨mul_comm⟩

end Fq
