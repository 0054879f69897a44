/- Polynomials over the field of 256 elements: lists of coefficients without zeros at their end; a commutative ring. -/
import Derived.Test.YtioiaiifkfopnaaF

namespace Fq

/-- A list without the zeros at its end. -/
def trimL : List Fq → List Fq
  | [] => []
  | a :: l => if trimL l = [] ∧ a = 0 then [] else a :: trimL l

theorem trimL_getD (l : List Fq) (i : Nat) : (trimL l).getD i 0 = l.getD i 0 := by
  induction l generalizing i with
  | nil => rfl
  | cons a l ih =>
    unfold trimL
    by_cases h : trimL l = [] ∧ a = 0
    · rw [if_pos h]
      cases i with
      | zero => simp [h.2]
      | succ i => have := ih i; rw [h.1] at this; simpa using this
    · rw [if_neg h]
      cases i with
      | zero => simp
      | succ i => simpa using ih i

theorem trimL_last (l : List Fq) : (trimL l).getLast? ≠ some 0 := by
  induction l with
  | nil => simp [trimL]
  | cons a l ih =>
    unfold trimL
    by_cases h : trimL l = [] ∧ a = 0
    · rw [if_pos h]; simp
    · rw [if_neg h]
      by_cases e : trimL l = []
      · rw [e]
        simp only [List.getLast?_singleton]
        intro e2
        exact h ⟨e, by simpa using e2⟩
      · rw [List.getLast?_cons_of_ne_nil e]
        exact ih

theorem trimL_length (l : List Fq) : (trimL l).length ≤ l.length := by
  induction l with
  | nil => simp [trimL]
  | cons a l ih =>
    unfold trimL
    split
    · simp
    · simp; exact ih

end Fq

/-- A polynomial. -/
structure Poly where
  l : List Fq
  last : l.getLast? ≠ some 0

namespace Poly
open Fq (sum)

/-- The coefficient with an index. -/
def cf (p : Poly) (i : Nat) : Fq := p.l.getD i 0
/-- The degree plus 1; 0 for the zero polynomial. -/
def sz (p : Poly) : Nat := p.l.length

theorem cf_of_ge {p : Poly} {i : Nat} (h : p.sz ≤ i) : p.cf i = 0 := by
  unfold cf sz at *
  rw [List.getD_eq_getElem?_getD, List.getElem?_eq_none_iff.2 h]; rfl

theorem cf_last {p : Poly} (h : 0 < p.sz) : p.cf (p.sz - 1) ≠ 0 := by
  unfold cf sz at *
  intro e
  have hlt : p.l.length - 1 < p.l.length := by omega
  rw [List.getD_eq_getElem?_getD, List.getElem?_eq_getElem hlt] at e
  apply p.last
  rw [List.getLast?_eq_getElem?, List.getElem?_eq_getElem hlt]
  exact congrArg some e

theorem sz_le {p : Poly} {n : Nat} (h : ∀ i, n ≤ i → p.cf i = 0) : p.sz ≤ n := by
  rcases Nat.lt_or_ge n p.sz with hlt | hge
  · exact absurd (h (p.sz - 1) (by omega)) (cf_last (by omega))
  · exact hge

theorem sz_gt {p : Poly} {n : Nat} (h : p.cf n ≠ 0) : n < p.sz := by
  rcases Nat.lt_or_ge n p.sz with hlt | hge
  · exact hlt
  · exact absurd (cf_of_ge hge) h

theorem ext {p q : Poly} (h : ∀ i, p.cf i = q.cf i) : p = q := by
  have hs : p.sz = q.sz := Nat.le_antisymm (sz_le fun i hi => by rw [h i, cf_of_ge hi]) (sz_le fun i hi => by rw [← h i, cf_of_ge hi])
  have hl : p.l = q.l := by
    apply List.ext_getElem hs
    intro i h1 h2
    have := h i
    unfold cf at this
    rw [List.getD_eq_getElem?_getD, List.getD_eq_getElem?_getD, List.getElem?_eq_getElem h1, List.getElem?_eq_getElem h2] at this
    simpa using this
  cases p; cases q; simp only at hl; subst hl; rfl

/-- A polynomial out of a list of coefficients, and out of a function. -/
def ofL (l : List Fq) : Poly := ⟨Fq.trimL l, Fq.trimL_last l⟩
theorem cf_ofL (l : List Fq) (i : Nat) : (ofL l).cf i = l.getD i 0 := Fq.trimL_getD l i
theorem sz_ofL (l : List Fq) : (ofL l).sz ≤ l.length := Fq.trimL_length l
def ofFn (n : Nat) (c : Nat → Fq) : Poly := ofL ((List.range n).map c)
theorem cf_ofFn (n : Nat) (c : Nat → Fq) (i : Nat) : (ofFn n c).cf i = if i < n then c i else 0 := by
  unfold ofFn
  rw [cf_ofL, List.getD_eq_getElem?_getD, List.getElem?_map]
  by_cases h : i < n
  · rw [if_pos h, List.getElem?_range h]; rfl
  · rw [if_neg h, List.getElem?_eq_none_iff.2 (by simp; omega)]; rfl
theorem ofL_l (p : Poly) : ofL p.l = p := ext fun i => cf_ofL p.l i
/-- A list whose last coefficient is not 0 is the list of its polynomial. -/
theorem l_ofL {l : List Fq} (h : l.getLast? ≠ some 0) : (ofL l).l = l := by
  have : ofL l = ⟨l, h⟩ := ext fun i => cf_ofL l i
  rw [this]

/-- The product of two sequences. -/
def conv (c d : Nat → Fq) (k : Nat) : Fq := sum (fun i => c i * d (k - i)) (k + 1)

theorem conv_comm (c d : Nat → Fq) (k : Nat) : conv c d k = conv d c k := by
  unfold conv
  rw [← Fq.sum_rev]
  refine Fq.sum_congr fun i hi => ?_
  rw [Fq.mul_comm, show k + 1 - 1 - i = k - i from by omega, show k - (k - i) = i from by omega]

theorem conv_assoc (a b c : Nat → Fq) (k : Nat) : conv (conv a b) c k = conv a (conv b c) k := by
  unfold conv
  have h1 : sum (fun i => sum (fun j => a j * b (i - j)) (i + 1) * c (k - i)) (k + 1) = sum (fun i => sum (fun j => a j * b (i - j) * c (k - i)) (i + 1)) (k + 1) :=
    Fq.sum_congr fun i _ => Fq.sum_mul _ _ _
  rw [h1, Fq.sum_tri (fun i j => a j * b (i - j) * c (k - i)) (k + 1)]
  refine Fq.sum_congr fun j hj => ?_
  rw [Fq.mul_sum, show k + 1 - j = k - j + 1 from by omega]
  refine Fq.sum_congr fun m hm => ?_
  rw [Fq.mul_assoc, show j + m - j = m from by omega, show k - (j + m) = k - j - m from by omega]

theorem conv_add (a b c : Nat → Fq) (k : Nat) : conv a (fun i => b i + c i) k = conv a b k + conv a c k := by
  unfold conv
  rw [← Fq.sum_add]
  exact Fq.sum_congr fun i _ => Fq.mul_add _ _ _

theorem conv_congr {a b c d : Nat → Fq} {k : Nat} (h1 : ∀ i, i ≤ k → a i = c i) (h2 : ∀ i, i ≤ k → b i = d i) : conv a b k = conv c d k :=
  Fq.sum_congr fun i hi => by rw [h1 i (by omega), h2 (k - i) (by omega)]

instance : Zero Poly := ⟨⟨[], by simp⟩⟩
instance : Add Poly := ⟨fun p q => ofFn (max p.sz q.sz) fun i => p.cf i + q.cf i⟩
instance : Mul Poly := ⟨fun p q => ofFn (p.sz + q.sz) (conv p.cf q.cf)⟩
/-- A constant. -/
def C (a : Fq) : Poly := ofL [a]
instance : One Poly := ⟨C 1⟩
/-- The monomial a x^n. -/
def mon (a : Fq) (n : Nat) : Poly := ofFn (n + 1) fun i => if i = n then a else 0

theorem cf_zero (i : Nat) : (0 : Poly).cf i = 0 := by
  show ([] : List Fq).getD i 0 = 0
  simp
theorem sz_zero : (0 : Poly).sz = 0 := rfl
theorem sz_eq_zero {p : Poly} : p.sz = 0 ↔ p = 0 := ⟨fun h => ext fun i => by rw [cf_of_ge (by omega), cf_zero], fun h => by rw [h]; rfl⟩
theorem cf_add (p q : Poly) (i : Nat) : (p + q).cf i = p.cf i + q.cf i := by
  show (ofFn _ _).cf i = _
  rw [cf_ofFn]
  split
  · rfl
  · rw [cf_of_ge (p := p) (by omega), cf_of_ge (p := q) (by omega), Fq.add_zero]
theorem conv_zero_of {c d : Nat → Fq} {m n k : Nat} (hc : ∀ i, m ≤ i → c i = 0) (hd : ∀ i, n ≤ i → d i = 0) (h : m + n ≤ k + 1) : conv c d k = 0 := by
  refine Fq.sum_zeros fun i hi => ?_
  by_cases hm : m ≤ i
  · rw [hc i hm, Fq.zero_mul]
  · rw [hd (k - i) (by omega), Fq.mul_zero]
theorem cf_mul (p q : Poly) (k : Nat) : (p * q).cf k = conv p.cf q.cf k := by
  show (ofFn _ _).cf k = _
  rw [cf_ofFn]
  split
  · rfl
  · exact (conv_zero_of (fun i hi => cf_of_ge hi) (fun i hi => cf_of_ge hi) (by omega)).symm
theorem cf_C (a : Fq) (i : Nat) : (C a).cf i = if i = 0 then a else 0 := by
  unfold C
  rw [cf_ofL]
  cases i <;> simp
theorem cf_mon (a : Fq) (n i : Nat) : (mon a n).cf i = if i = n then a else 0 := by
  unfold mon
  rw [cf_ofFn]
  by_cases h : i = n
  · subst h; simp
  · simp [h]
theorem C_zero : C 0 = 0 := ext fun i => by rw [cf_C, cf_zero]; split <;> rfl
theorem C_eq_mon (a : Fq) : C a = mon a 0 := ext fun i => by rw [cf_C, cf_mon]
theorem cf_mon_mul (a : Fq) (n : Nat) (p : Poly) (k : Nat) : (mon a n * p).cf k = if n ≤ k then a * p.cf (k - n) else 0 := by
  rw [cf_mul]
  unfold conv
  by_cases h : n ≤ k
  · rw [if_pos h, Fq.sum_one _ (k := n) (by omega) fun i _ hne => by rw [cf_mon, if_neg hne, Fq.zero_mul], cf_mon, if_pos rfl]
  · rw [if_neg h]
    exact Fq.sum_zeros fun i hi => by rw [cf_mon, if_neg (by omega), Fq.zero_mul]
theorem cf_C_mul (a : Fq) (p : Poly) (k : Nat) : (C a * p).cf k = a * p.cf k := by
  rw [C_eq_mon, cf_mon_mul, if_pos (by omega)]; rfl

theorem add_assoc (p q r : Poly) : p + q + r = p + (q + r) := ext fun i => by simp only [cf_add, Fq.add_assoc]
theorem add_comm (p q : Poly) : p + q = q + p := ext fun i => by rw [cf_add, cf_add, Fq.add_comm]
theorem add_zero (p : Poly) : p + 0 = p := ext fun i => by rw [cf_add, cf_zero, Fq.add_zero]
theorem zero_add (p : Poly) : 0 + p = p := by rw [add_comm, add_zero]
theorem add_self (p : Poly) : p + p = 0 := ext fun i => by rw [cf_add, cf_zero, Fq.add_self]
theorem add_left_comm (a b c : Poly) : a + (b + c) = b + (a + c) := by rw [← add_assoc, add_comm a b, add_assoc]
theorem add_add_cancel (a b : Poly) : a + b + b = a := by rw [add_assoc, add_self, add_zero]
theorem add_eq_zero {a b : Poly} : a + b = 0 ↔ a = b := by
  constructor
  · intro h
    have := congrArg (· + b) h
    simp only [add_add_cancel, zero_add] at this
    exact this
  · intro h; rw [h, add_self]
theorem mul_comm (p q : Poly) : p * q = q * p := ext fun i => by rw [cf_mul, cf_mul, conv_comm]
theorem mul_assoc (p q r : Poly) : p * q * r = p * (q * r) := ext fun i => by
  rw [cf_mul, cf_mul, show (p * q).cf = conv p.cf q.cf from funext (cf_mul p q), show (q * r).cf = conv q.cf r.cf from funext (cf_mul q r), conv_assoc]
theorem mul_left_comm (a b c : Poly) : a * (b * c) = b * (a * c) := by rw [← mul_assoc, mul_comm a b, mul_assoc]
theorem mul_add (p q r : Poly) : p * (q + r) = p * q + p * r := ext fun i => by
  rw [cf_mul, cf_add, cf_mul, cf_mul, show (q + r).cf = fun j => q.cf j + r.cf j from funext (cf_add q r), conv_add]
theorem add_mul (p q r : Poly) : (p + q) * r = p * r + q * r := by rw [mul_comm, mul_add, mul_comm r, mul_comm r]
theorem one_mul (p : Poly) : 1 * p = p := ext fun i => by rw [show (1 : Poly) = C 1 from rfl, cf_C_mul, Fq.one_mul]
theorem mul_one (p : Poly) : p * 1 = p := by rw [mul_comm, one_mul]
theorem zero_mul (p : Poly) : 0 * p = 0 := ext fun i => by rw [← C_zero, cf_C_mul, Fq.zero_mul, C_zero, cf_zero]
theorem mul_zero (p : Poly) : p * 0 = 0 := by rw [mul_comm, zero_mul]

instance : Std.Associative (α := Poly) (· + ·) := ⟨add_assoc⟩
instance : Std.Commutative (α := Poly) (· + ·) := ⟨add_comm⟩
instance : Std.Associative (α := Poly) (· * ·) := ⟨mul_assoc⟩
instance : Std.Commutative (α := Poly) (· * ·) := ⟨mul_comm⟩

theorem C_mul (a b : Fq) : C (a * b) = C a * C b := ext fun i => by
  rw [cf_C_mul, cf_C, cf_C]
  split
  · rfl
  · rw [Fq.mul_zero]
theorem C_add (a b : Fq) : C (a + b) = C a + C b := ext fun i => by
  rw [cf_add, cf_C, cf_C, cf_C]
  split
  · rfl
  · rw [Fq.add_zero]
theorem C_one : C 1 = 1 := rfl
theorem mon_mul_mon (a b : Fq) (m n : Nat) : mon a m * mon b n = mon (a * b) (m + n) := ext fun i => by
  rw [cf_mon_mul, cf_mon]
  by_cases h : m ≤ i
  · rw [if_pos h, cf_mon]
    by_cases e : i - m = n
    · rw [if_pos e, if_pos (by omega)]
    · rw [if_neg e, if_neg (by omega), Fq.mul_zero]
  · rw [if_neg h, cf_mon, if_neg (by omega)]
theorem mon_zero (n : Nat) : mon 0 n = 0 := ext fun i => by rw [cf_mon, cf_zero]; split <;> rfl

/-! Degrees. -/
theorem sz_add_le (p q : Poly) : (p + q).sz ≤ max p.sz q.sz := sz_le fun i hi => by rw [cf_add, cf_of_ge (p := p) (by omega), cf_of_ge (p := q) (by omega), Fq.add_zero]
theorem sz_add_lt {p q : Poly} (h : q.sz < p.sz) : (p + q).sz = p.sz := by
  apply Nat.le_antisymm
  · have := sz_add_le p q; omega
  · have : (p + q).cf (p.sz - 1) ≠ 0 := by rw [cf_add, cf_of_ge (p := q) (by omega), Fq.add_zero]; exact cf_last (by omega)
    have := sz_gt this
    omega
theorem top_mul {p q : Poly} (hp : 0 < p.sz) (hq : 0 < q.sz) : (p * q).cf (p.sz - 1 + (q.sz - 1)) = p.cf (p.sz - 1) * q.cf (q.sz - 1) := by
  rw [cf_mul]
  unfold conv
  rw [Fq.sum_one _ (k := p.sz - 1) (by omega) fun i hi hne => ?_]
  · congr 2; omega
  · by_cases h : p.sz ≤ i
    · rw [cf_of_ge h, Fq.zero_mul]
    · rw [cf_of_ge (p := q) (by omega), Fq.mul_zero]
theorem sz_mul_le (p q : Poly) : (p * q).sz ≤ p.sz + q.sz - 1 := sz_le fun i hi => by
  rw [cf_mul]; exact conv_zero_of (fun i hi => cf_of_ge hi) (fun i hi => cf_of_ge hi) (by omega)
theorem sz_mul {p q : Poly} (hp : 0 < p.sz) (hq : 0 < q.sz) : (p * q).sz = p.sz + q.sz - 1 := by
  apply Nat.le_antisymm (sz_mul_le p q)
  have : (p * q).cf (p.sz - 1 + (q.sz - 1)) ≠ 0 := by rw [top_mul hp hq]; exact Fq.mul_ne_zero (cf_last hp) (cf_last hq)
  have := sz_gt this
  omega
theorem sz_pos {p : Poly} : 0 < p.sz ↔ p ≠ 0 := by rw [Nat.pos_iff_ne_zero, Ne, sz_eq_zero]
theorem mul_eq_zero {p q : Poly} (h : p * q = 0) : p = 0 ∨ q = 0 := by
  by_cases hp : p = 0
  · exact .inl hp
  by_cases hq : q = 0
  · exact .inr hq
  have := sz_mul (sz_pos.2 hp) (sz_pos.2 hq)
  rw [h, sz_zero] at this
  have h1 := sz_pos.2 hp
  have h2 := sz_pos.2 hq
  omega
theorem mul_cancel {p q r : Poly} (hp : p ≠ 0) (h : p * q = p * r) : q = r := by
  have : p * (q + r) = 0 := by rw [mul_add, h, add_self]
  rcases mul_eq_zero this with e | e
  · exact absurd e hp
  · exact add_eq_zero.1 e
theorem sz_C {a : Fq} (h : a ≠ 0) : (C a).sz = 1 := Nat.le_antisymm (sz_le fun i hi => by rw [cf_C, if_neg (by omega)]) (sz_gt (by rw [cf_C, if_pos rfl]; exact h))
theorem sz_C_le (a : Fq) : (C a).sz ≤ 1 := sz_le fun i hi => by rw [cf_C, if_neg (by omega)]
theorem sz_mon {a : Fq} (h : a ≠ 0) (n : Nat) : (mon a n).sz = n + 1 := Nat.le_antisymm (sz_le fun i hi => by rw [cf_mon, if_neg (by omega)]) (sz_gt (by rw [cf_mon, if_pos rfl]; exact h))
theorem one_ne_zero : (1 : Poly) ≠ 0 := sz_pos.1 (by rw [show (1 : Poly) = C 1 from rfl, sz_C Fq.one_ne_zero]; omega)

/-- Quotient and remainder are determined. -/
theorem div_unique {q d r d' r' : Poly} (h : d * q + r = d' * q + r') (hr : r.sz < q.sz) (hr' : r'.sz < q.sz) : d = d' ∧ r = r' := by
  have e : (d + d') * q = r + r' := by
    apply add_eq_zero.1
    rw [add_mul]
    have : d * q + d' * q + (r + r') = (d * q + r) + (d' * q + r') := by ac_rfl
    rw [this, h, add_self]
  by_cases hd : d + d' = 0
  · have hd' := add_eq_zero.1 hd
    rw [hd, zero_mul] at e
    exact ⟨hd', add_eq_zero.1 e.symm⟩
  · have h1 := sz_mul (sz_pos.2 hd) (p := d + d') (q := q) (by omega)
    have h2 := sz_pos.2 hd
    have h3 := sz_add_le r r'
    rw [← e] at h3
    omega

/-! Values. -/
def eval (p : Poly) (x : Fq) : Fq := sum (fun i => p.cf i * Fq.pow x i) p.sz
theorem eval_ext (p : Poly) (x : Fq) {n : Nat} (h : p.sz ≤ n) : sum (fun i => p.cf i * Fq.pow x i) n = eval p x :=
  Fq.sum_extend _ h fun i hi _ => by rw [cf_of_ge hi, Fq.zero_mul]
theorem eval_add (p q : Poly) (x : Fq) : eval (p + q) x = eval p x + eval q x := by
  rw [← eval_ext (p + q) x (n := max p.sz q.sz) (sz_add_le p q), ← eval_ext p x (n := max p.sz q.sz) (by omega), ← eval_ext q x (n := max p.sz q.sz) (by omega), ← Fq.sum_add]
  exact Fq.sum_congr fun i _ => by rw [cf_add, Fq.add_mul]
theorem eval_zero (x : Fq) : eval 0 x = 0 := rfl
theorem eval_mon_mul (a : Fq) (n : Nat) (p : Poly) (x : Fq) : eval (mon a n * p) x = a * Fq.pow x n * eval p x := by
  have hs : (mon a n * p).sz ≤ p.sz + n := sz_le fun i hi => by
    rw [cf_mon_mul]
    split
    · rw [cf_of_ge (by omega), Fq.mul_zero]
    · rfl
  rw [← eval_ext _ x hs, ← eval_ext p x (Nat.le_refl _), Fq.mul_sum]
  clear hs
  generalize p.sz = m
  induction m with
  | zero =>
    rw [Nat.zero_add]
    exact Fq.sum_zeros fun i hi => by rw [cf_mon_mul, if_neg (by omega), Fq.zero_mul]
  | succ m ih =>
    rw [show m + 1 + n = m + n + 1 from by omega, Fq.sum_succ, Fq.sum_succ, ih, cf_mon_mul, if_pos (by omega), show m + n - n = m from by omega, Nat.add_comm m n, Fq.pow_add]
    congr 1
    ac_rfl
theorem eval_C (a x : Fq) : eval (C a) x = a := by
  rw [← eval_ext _ x (sz_C_le a), Fq.sum_succ, Fq.sum_zero, cf_C, if_pos rfl, Fq.zero_add, Fq.pow, Fq.mul_one]
theorem eval_one (x : Fq) : eval 1 x = 1 := eval_C 1 x

/-- The polynomial without its constant coefficient, divided by x. -/
def tail (p : Poly) : Poly := ofFn p.sz fun i => p.cf (i + 1)
theorem cf_tail (p : Poly) (i : Nat) : p.tail.cf i = p.cf (i + 1) := by
  unfold tail
  rw [cf_ofFn]
  split
  · rfl
  · rw [cf_of_ge (by omega)]
theorem horner (p : Poly) : p = C (p.cf 0) + mon 1 1 * p.tail := ext fun i => by
  rw [cf_add, cf_C, cf_mon_mul]
  cases i with
  | zero => simp [Fq.add_zero]
  | succ i => rw [if_neg (by omega), if_pos (by omega), cf_tail, Fq.one_mul, Fq.zero_add]; rfl
theorem sz_tail {p : Poly} (h : 0 < p.sz) : p.tail.sz < p.sz := by
  have : p.tail.sz ≤ p.sz - 1 := sz_le fun i hi => by rw [cf_tail, cf_of_ge (by omega)]
  omega
/-- Induction along Horner's scheme. -/
theorem induct {P : Poly → Prop} (h0 : P 0) (h : ∀ a p, P p → P (C a + mon 1 1 * p)) (p : Poly) : P p := by
  have key : ∀ n, ∀ p : Poly, p.sz ≤ n → P p := by
    intro n
    induction n with
    | zero => intro p hp; rw [sz_eq_zero.1 (show p.sz = 0 by omega)]; exact h0
    | succ n ih =>
      intro p hp
      by_cases hz : p.sz = 0
      · rw [sz_eq_zero.1 hz]; exact h0
      · rw [horner p]
        exact h _ _ (ih _ (by have := sz_tail (p := p) (by omega); omega))
  exact key p.sz p (Nat.le_refl _)

theorem eval_C_mul (a : Fq) (p : Poly) (x : Fq) : eval (C a * p) x = a * eval p x := by rw [C_eq_mon, eval_mon_mul, Fq.pow, Fq.mul_one]
theorem eval_x_mul (p : Poly) (x : Fq) : eval (mon 1 1 * p) x = x * eval p x := by rw [eval_mon_mul, Fq.one_mul, Fq.pow, Fq.pow, Fq.one_mul]
theorem eval_mul (p q : Poly) (x : Fq) : eval (p * q) x = eval p x * eval q x := by
  refine induct (P := fun p => eval (p * q) x = eval p x * eval q x) ?_ ?_ p
  · rw [zero_mul, eval_zero, Fq.zero_mul]
  · intro a p ih
    rw [add_mul, eval_add, eval_add, eval_C_mul, eval_C, mul_assoc, eval_x_mul, eval_x_mul, ih, Fq.add_mul, Fq.mul_assoc]

/-! Derivatives. -/
def deriv (p : Poly) : Poly := ofFn p.sz fun i => if i % 2 = 0 then p.cf (i + 1) else 0
theorem cf_deriv (p : Poly) (i : Nat) : p.deriv.cf i = if i % 2 = 0 then p.cf (i + 1) else 0 := by
  unfold deriv
  rw [cf_ofFn]
  split
  · rfl
  · rw [cf_of_ge (by omega)]; split <;> rfl
theorem deriv_add (p q : Poly) : (p + q).deriv = p.deriv + q.deriv := ext fun i => by
  simp only [cf_add, cf_deriv]
  split
  · rfl
  · rw [Fq.add_zero]
theorem deriv_C_mul (a : Fq) (p : Poly) : (C a * p).deriv = C a * p.deriv := ext fun i => by
  simp only [cf_C_mul, cf_deriv]
  split
  · rfl
  · rw [Fq.mul_zero]
theorem deriv_C (a : Fq) : (C a).deriv = 0 := ext fun i => by
  rw [cf_deriv, cf_zero]
  split
  · rw [cf_C, if_neg (by omega)]
  · rfl
theorem cf_x_mul (p : Poly) (i : Nat) : (mon 1 1 * p).cf (i + 1) = p.cf i := by rw [cf_mon_mul, if_pos (by omega), Fq.one_mul]; rfl
theorem cf_x_mul_zero (p : Poly) : (mon 1 1 * p).cf 0 = 0 := by rw [cf_mon_mul, if_neg (by omega)]
theorem deriv_x_mul (p : Poly) : (mon 1 1 * p).deriv = p + mon 1 1 * p.deriv := ext fun i => by
  rw [cf_deriv, cf_add, cf_x_mul]
  cases i with
  | zero => rw [cf_x_mul_zero, Fq.add_zero, if_pos (by omega)]
  | succ i =>
    rw [cf_x_mul, cf_deriv]
    by_cases h : i % 2 = 0
    · rw [if_pos h, if_neg (by omega), Fq.add_self]
    · rw [if_neg h, if_pos (by omega), Fq.add_zero]
theorem deriv_mul (p q : Poly) : (p * q).deriv = p.deriv * q + p * q.deriv := by
  refine induct (P := fun p => (p * q).deriv = p.deriv * q + p * q.deriv) ?_ ?_ p
  · rw [zero_mul, zero_mul, add_zero]
    have := deriv_C 0
    rw [C_zero] at this
    rw [this, zero_mul]
  · intro a p ih
    rw [add_mul, deriv_add, deriv_C_mul, mul_assoc, deriv_x_mul, ih, deriv_add, deriv_C, zero_add, deriv_x_mul, add_mul, add_mul, mul_add, mul_assoc, mul_assoc]
    ac_rfl

end Poly
