/- The field of 256 elements on natural numbers: products by shifts, and the field laws, proved from bilinearity and finite checks. No program in sight. -/
namespace Gf

/-- Twice an element. -/
def dbl (a : Nat) : Nat := if a < 128 then 2 * a else (2 * a) % 256 ^^^ 29

/-- The product, bit by bit. -/
def mulF : Nat → Nat → Nat → Nat
  | 0, _, _ => 0
  | k + 1, a, b => (if b % 2 = 1 then a else 0) ^^^ mulF k (dbl a) (b / 2)

def mul (a b : Nat) : Nat := mulF 8 a b

theorem dbl_lt (a : Nat) (h : a < 256) : dbl a < 256 := by
  unfold dbl
  split
  · omega
  · exact Nat.xor_lt_two_pow (n := 8) (by omega) (by omega)

theorem mulF_lt (k : Nat) : ∀ a b : Nat, a < 256 → mulF k a b < 256 := by
  induction k with
  | zero => intro a b _; simp [mulF]
  | succ k ih =>
    intro a b ha
    unfold mulF
    exact Nat.xor_lt_two_pow (n := 8) (by split <;> omega) (ih _ _ (dbl_lt a ha))

theorem mul_lt (a b : Nat) (ha : a < 256) : mul a b < 256 := mulF_lt 8 a b ha

theorem xor_swap (a b c d : Nat) : (a ^^^ b) ^^^ (c ^^^ d) = (a ^^^ c) ^^^ (b ^^^ d) := by
  rw [Nat.xor_assoc, Nat.xor_assoc, ← Nat.xor_assoc b c d, ← Nat.xor_assoc c b d, Nat.xor_comm b c]

theorem xor_mod2 (a b : Nat) : (a ^^^ b) % 2 = (a % 2) ^^^ (b % 2) := by
  have := Nat.xor_mod_two_pow (a := a) (b := b) (n := 1)
  simpa using this

theorem xor_div2 (a b : Nat) : (a ^^^ b) / 2 = (a / 2) ^^^ (b / 2) := by
  have := Nat.xor_div_two_pow (a := a) (b := b) (n := 1)
  simpa using this

theorem mulF_xor_right (k : Nat) : ∀ a b c : Nat, mulF k a (b ^^^ c) = mulF k a b ^^^ mulF k a c := by
  induction k with
  | zero => intro a b c; simp [mulF]
  | succ k ih =>
    intro a b c
    unfold mulF
    rw [xor_div2, ih, xor_swap]
    congr 1
    rw [xor_mod2]
    rcases Nat.mod_two_eq_zero_or_one b with h | h <;> rcases Nat.mod_two_eq_zero_or_one c with g | g <;> simp [h, g]

theorem mul_xor (a b c : Nat) : mul a (b ^^^ c) = mul a b ^^^ mul a c := mulF_xor_right 8 a b c

theorem dbl_xor (a b : Nat) (ha : a < 256) (hb : b < 256) : dbl (a ^^^ b) = dbl a ^^^ dbl b := by
  have h := xor_swap
  have e : ∀ x : Nat, x < 256 → dbl x = (x % 128 * 2) ^^^ (if x / 128 = 1 then 29 else 0) := by
    intro x hx
    unfold dbl
    by_cases g : x < 128
    · rw [if_pos g, if_neg (by omega)]; simp; omega
    · rw [if_neg g, if_pos (by omega), show 2 * x % 256 = x % 128 * 2 from by omega]
  rw [e a ha, e b hb, e _ (Nat.xor_lt_two_pow (n := 8) ha hb), xor_swap]
  have e1 : (a ^^^ b) % 128 = (a % 128) ^^^ (b % 128) := Nat.xor_mod_two_pow (n := 7)
  have e2 : (a ^^^ b) / 128 = (a / 128) ^^^ (b / 128) := Nat.xor_div_two_pow (n := 7)
  have e3 : ∀ x y : Nat, (x ^^^ y) * 2 = x * 2 ^^^ y * 2 := by
    intro x y
    have := Nat.shiftLeft_xor_distrib (a := x) (b := y) (i := 1)
    simpa [Nat.shiftLeft_eq] using this
  rw [e1, e2, e3]
  congr 1
  have ha' : a / 128 = 0 ∨ a / 128 = 1 := by omega
  have hb' : b / 128 = 0 ∨ b / 128 = 1 := by omega
  rcases ha' with h1 | h1 <;> rcases hb' with h2 | h2 <;> simp [h1, h2]

theorem mulF_xor_left (k : Nat) : ∀ a b c : Nat, a < 256 → b < 256 → mulF k (a ^^^ b) c = mulF k a c ^^^ mulF k b c := by
  induction k with
  | zero => intro a b c _ _; simp [mulF]
  | succ k ih =>
    intro a b c ha hb
    unfold mulF
    rw [dbl_xor a b ha hb, ih _ _ _ (dbl_lt a ha) (dbl_lt b hb), xor_swap]
    congr 1
    split <;> simp

theorem xor_mul (a b c : Nat) (ha : a < 256) (hb : b < 256) : mul (a ^^^ b) c = mul a c ^^^ mul b c := mulF_xor_left 8 a b c ha hb

/-- Two additive functions that agree at the powers of 2 agree. -/
theorem lin_ext (f g : Nat → Nat) (hf : ∀ x y, x < 256 → y < 256 → f (x ^^^ y) = f x ^^^ f y) (hg : ∀ x y, x < 256 → y < 256 → g (x ^^^ y) = g x ^^^ g y)
    (h : ∀ i, i < 8 → f (2 ^ i) = g (2 ^ i)) (a : Nat) (ha : a < 256) : f a = g a := by
  have f0 : f 0 = g 0 := by
    have a1 := hf 0 0 (by omega) (by omega)
    have a2 := hg 0 0 (by omega) (by omega)
    simp at a1 a2
    rw [a1, a2]
  have key : ∀ k, k ≤ 8 → ∀ x, x < 2 ^ k → f x = g x := by
    intro k
    induction k with
    | zero => intro _ x hx; simp at hx; rw [hx]; exact f0
    | succ k ih =>
      intro hk x hx
      have h2 : 2 ^ k ≤ 2 ^ 7 := Nat.pow_le_pow_right (by omega) (by omega)
      by_cases hlt : x < 2 ^ k
      · exact ih (by omega) x hlt
      · have hy : x - 2 ^ k < 2 ^ k := by rw [Nat.pow_succ] at hx; omega
        have hx' : x = 2 ^ k ^^^ (x - 2 ^ k) := by
          have e := Nat.two_pow_add_eq_or_of_lt hy 1
          have hand : 2 ^ k &&& (x - 2 ^ k) = 0 := by
            apply Nat.eq_of_testBit_eq
            intro i
            simp only [Nat.testBit_and, Nat.zero_testBit, Nat.testBit_two_pow]
            by_cases hi : k = i
            · subst hi; rw [Nat.testBit_lt_two_pow hy]; simp
            · simp [hi]
          have e1 : 2 ^ k + (x - 2 ^ k) = 2 ^ k ||| (x - 2 ^ k) := by simpa using e
          have e2 : 2 ^ k ^^^ (x - 2 ^ k) = 2 ^ k ||| (x - 2 ^ k) := by
            apply Nat.eq_of_testBit_eq
            intro i
            have := congrArg (fun n => Nat.testBit n i) hand
            simp only [Nat.testBit_and, Nat.zero_testBit] at this
            simp only [Nat.testBit_xor, Nat.testBit_or]
            revert this
            cases Nat.testBit (2 ^ k) i <;> cases Nat.testBit (x - 2 ^ k) i <;> simp
          omega
        rw [hx', hf _ _ (by omega) (by omega), hg _ _ (by omega) (by omega), h k (by omega), ih (by omega) _ hy]
  exact key 8 (by omega) a ha

theorem mul_comm (a b : Nat) (ha : a < 256) (hb : b < 256) : mul a b = mul b a := by
  refine lin_ext (fun x => mul x b) (fun x => mul b x) (fun x y hx hy => xor_mul x y b hx hy) (fun x y _ _ => mul_xor b x y) ?_ a ha
  intro i hi
  refine lin_ext (fun x => mul (2 ^ i) x) (fun x => mul x (2 ^ i)) (fun x y _ _ => mul_xor _ x y) (fun x y hx hy => xor_mul x y _ hx hy) ?_ b hb
  intro j hj
  have : ∀ i, i < 8 → ∀ j, j < 8 → mul (2 ^ i) (2 ^ j) = mul (2 ^ j) (2 ^ i) := by decide +kernel
  exact this i hi j hj

theorem mul_assoc (a b c : Nat) (ha : a < 256) (hb : b < 256) (hc : c < 256) : mul (mul a b) c = mul a (mul b c) := by
  refine lin_ext (fun x => mul (mul x b) c) (fun x => mul x (mul b c)) ?_ (fun x y hx hy => xor_mul x y _ hx hy) ?_ a ha
  · intro x y hx hy
    show mul (mul (x ^^^ y) b) c = _
    rw [xor_mul x y b hx hy, xor_mul _ _ c (mul_lt x b hx) (mul_lt y b hy)]
  intro i hi
  have hi2 : 2 ^ i < 256 := Nat.lt_of_le_of_lt (Nat.pow_le_pow_right (by omega) (show i ≤ 7 by omega)) (by omega)
  refine lin_ext (fun x => mul (mul (2 ^ i) x) c) (fun x => mul (2 ^ i) (mul x c)) ?_ ?_ ?_ b hb
  · intro x y hx hy
    show mul (mul (2 ^ i) (x ^^^ y)) c = _
    rw [mul_xor, xor_mul _ _ c (mul_lt _ x hi2) (mul_lt _ y hi2)]
  · intro x y hx hy
    show mul (2 ^ i) (mul (x ^^^ y) c) = _
    rw [xor_mul x y c hx hy, mul_xor]
  intro j hj
  refine lin_ext (fun x => mul (mul (2 ^ i) (2 ^ j)) x) (fun x => mul (2 ^ i) (mul (2 ^ j) x)) (fun x y _ _ => mul_xor _ x y) ?_ ?_ c hc
  · intro x y hx hy
    show mul (2 ^ i) (mul (2 ^ j) (x ^^^ y)) = _
    rw [mul_xor, mul_xor]
  intro k hk
  have : ∀ i, i < 8 → ∀ j, j < 8 → ∀ k, k < 8 → mul (mul (2 ^ i) (2 ^ j)) (2 ^ k) = mul (2 ^ i) (mul (2 ^ j) (2 ^ k)) := by decide +kernel
  exact this i hi j hj k hk

theorem mul_one (a : Nat) : mul a 1 = a := by
  have h0 : ∀ k x, mulF k x 0 = 0 := by
    intro k; induction k with
    | zero => intro x; rfl
    | succ k ih => intro x; simp [mulF, ih]
  simp [mul, mulF]

theorem mul_zero (a : Nat) : mul a 0 = 0 := by simp [mul, mulF]

theorem zero_mul (b : Nat) : mul 0 b = 0 := by
  have h0 : ∀ k x, mulF k 0 x = 0 := by
    intro k; induction k with
    | zero => intro x; rfl
    | succ k ih => intro x; simp [mulF, dbl, ih]
  exact h0 8 b

/-- The step of the loop: a product with b, out of one with b / 2. -/
theorem mul_step (a b : Nat) (hb : b < 256) : mul a b = (if b % 2 = 1 then a else 0) ^^^ mul (dbl a) (b / 2) := by
  have h : ∀ k x c, c < 2 ^ k → mulF (k + 1) x c = mulF k x c := by
    intro k
    induction k with
    | zero => intro x c hc; have : c = 0 := by omega
              subst this; simp [mulF]
    | succ k ih =>
      intro x c hc
      have e := ih (dbl x) (c / 2) (by rw [Nat.pow_succ] at hc; omega)
      rw [mulF, e]
      conv => rhs; rw [mulF]
  have e : mul (dbl a) (b / 2) = mulF 7 (dbl a) (b / 2) := h 7 _ _ (by omega)
  rw [e]
  rfl

/-- The power 254, by squares, as the program computes it. -/
def inv (a : Nat) : Nat :=
  let a1 := mul a a
  let a2 := mul a1 a1
  let a3 := mul a2 a2
  let a4 := mul a3 a3
  let a5 := mul a4 a4
  let a6 := mul a5 a5
  let a7 := mul a6 a6
  mul (mul (mul (mul (mul (mul a1 a2) a3) a4) a5) a6) a7

theorem inv_lt (a : Nat) (ha : a < 256) : inv a < 256 := by
  unfold inv
  simp only
  repeat (first | exact ha | refine mul_lt _ _ ?_)

theorem mul_inv (a : Nat) (ha : a < 256) (h0 : a ≠ 0) : mul a (inv a) = 1 := by
  have : ∀ a, a < 256 → a ≠ 0 → mul a (inv a) = 1 := by decide +kernel
  exact this a ha h0

theorem inv_zero : inv 0 = 0 := by decide +kernel

theorem one_mul (a : Nat) (ha : a < 256) : mul 1 a = a := by rw [mul_comm 1 a (by omega) ha, mul_one]

/-- The squares that Inv and Sqrt compute one after the other, and the product so far. -/
def sqs : Nat → Nat → Nat
  | 0, a => a
  | k + 1, a => mul (sqs k a) (sqs k a)

def invT : Nat → Nat → Nat
  | 0, _ => 1
  | k + 1, a => mul (invT k a) (sqs (k + 1) a)

def sqrt (a : Nat) : Nat := sqs 7 a

theorem sqs_lt (k a : Nat) (ha : a < 256) : sqs k a < 256 := by
  induction k with
  | zero => exact ha
  | succ k ih => exact mul_lt _ _ ih

theorem invT_lt (k a : Nat) : invT k a < 256 := by
  induction k with
  | zero => show 1 < 256; omega
  | succ k ih => exact mul_lt _ _ ih

theorem invT_eq (a : Nat) (ha : a < 256) : invT 7 a = inv a := by
  have h1 : invT 1 a = mul a a := one_mul _ (mul_lt a a ha)
  show mul (mul (mul (mul (mul (mul (invT 1 a) (sqs 2 a)) (sqs 3 a)) (sqs 4 a)) (sqs 5 a)) (sqs 6 a)) (sqs 7 a) = inv a
  rw [h1]
  rfl

/-- The powers of 2, and the tables of powers and logarithms after k steps. -/
def pw : Nat → Nat
  | 0 => 1
  | k + 1 => dbl (pw k)

def pwL : Nat → List Nat
  | 0 => List.replicate 255 0
  | k + 1 => (pwL k).set k (pw k)

def lgL : Nat → List Nat
  | 0 => List.replicate 256 0
  | k + 1 => (lgL k).set (pw k) k

theorem pw_lt (k : Nat) : pw k < 256 := by
  induction k with
  | zero => decide
  | succ k ih => exact dbl_lt _ ih

theorem pwL_length (k : Nat) : (pwL k).length = 255 := by
  induction k with
  | zero => exact List.length_replicate
  | succ k ih => simp [pwL, ih]

theorem lgL_length (k : Nat) : (lgL k).length = 256 := by
  induction k with
  | zero => exact List.length_replicate
  | succ k ih => simp [lgL, ih]

/-- The logarithm, out of the finished table. -/
def lg (a : Nat) : Nat := (lgL 255).getD a 0

theorem pwL_get (i : Nat) (h : i < 255) : (pwL 255)[i]? = some (pw i) := by
  have key : ∀ k i, i < k → i < 255 → (pwL k)[i]? = some (pw i) := by
    intro k
    induction k with
    | zero => intro i hi _; omega
    | succ k ih =>
      intro i hi h2
      rw [pwL, List.getElem?_set]
      by_cases e : k = i
      · subst e; rw [if_pos rfl, if_pos (by rw [pwL_length]; exact h2)]
      · rw [if_neg e]; exact ih i (by omega) h2
  exact key 255 i h h

/-- The logarithms, as a literal table (for the check that every element but 0 is a power of 2). -/
def lgT : List Nat := [0, 0, 1, 25, 2, 50, 26, 198, 3, 223, 51, 238, 27, 104, 199, 75, 4, 100, 224, 14, 52, 141, 239, 129, 28, 193, 105, 248, 200, 8, 76, 113, 5, 138, 101, 47, 225, 36, 15, 33, 53, 147, 142, 218, 240, 18, 130, 69, 29, 181, 194, 125, 106, 39, 249, 185, 201, 154, 9, 120, 77, 228, 114, 166, 6, 191, 139, 98, 102, 221, 48, 253, 226, 152, 37, 179, 16, 145, 34, 136, 54, 208, 148, 206, 143, 150, 219, 189, 241, 210, 19, 92, 131, 56, 70, 64, 30, 66, 182, 163, 195, 72, 126, 110, 107, 58, 40, 84, 250, 133, 186, 61, 202, 94, 155, 159, 10, 21, 121, 43, 78, 212, 229, 172, 115, 243, 167, 87, 7, 112, 192, 247, 140, 128, 99, 13, 103, 74, 222, 237, 49, 197, 254, 24, 227, 165, 153, 119, 38, 184, 180, 124, 17, 68, 146, 217, 35, 32, 137, 46, 55, 63, 209, 91, 149, 188, 207, 205, 144, 135, 151, 178, 220, 252, 190, 97, 242, 86, 211, 171, 20, 42, 93, 158, 132, 60, 57, 83, 71, 109, 65, 162, 31, 45, 67, 216, 183, 123, 164, 118, 196, 23, 73, 236, 127, 12, 111, 246, 108, 161, 59, 82, 41, 157, 85, 170, 251, 96, 134, 177, 187, 204, 62, 90, 203, 89, 95, 176, 156, 169, 160, 81, 11, 245, 22, 235, 122, 117, 44, 215, 79, 174, 213, 233, 230, 231, 173, 232, 116, 214, 244, 234, 168, 80, 88, 175]

theorem pw_lg (a : Nat) (ha : a < 256) (h0 : a ≠ 0) : pw (lg a) = a ∧ lg a < 255 := by
  have h : ∀ k, k ≤ 255 → ∀ i, i < k → ((lgL k).getD (pw i) 0 < k ∧ pw ((lgL k).getD (pw i) 0) = pw i) := by
    intro k
    induction k with
    | zero => intro _ i hi; omega
    | succ k ih =>
      intro hk i hi
      rw [lgL, List.getD_eq_getElem?_getD, List.getElem?_set]
      by_cases e : pw k = pw i
      · rw [if_pos e, if_pos (by rw [lgL_length]; exact pw_lt k)]
        exact ⟨by simp, by simpa using e⟩
      · rw [if_neg e]
        have hik : i < k := by
          rcases Nat.lt_or_ge i k with h | h
          · exact h
          · exact absurd (congrArg pw (show k = i by omega)) e
        have := ih (by omega) i hik
        rw [List.getD_eq_getElem?_getD] at this
        exact ⟨by omega, this.2⟩
  have hs : ∀ a, a < 256 → a ≠ 0 → ∃ i, i < 255 ∧ pw i = a := by
    have c : ∀ a, a < 256 → a ≠ 0 → lgT.getD a 0 < 255 ∧ pw (lgT.getD a 0) = a := by decide +kernel
    intro a ha h0
    exact ⟨_, c a ha h0⟩
  obtain ⟨i, hi, rfl⟩ := hs a ha h0
  have := h 255 (by omega) i hi
  exact ⟨this.2, this.1⟩

end Gf
