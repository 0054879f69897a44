/- Multiplicities of roots: how often x + r divides; their sum; roots of the derivative. -/
import Derived.Test.YtkbcingibgnnpaaPolyR
import Derived.Test.YtkbcingibgnnpaaPolyK
namespace Poly
/-- (x + r)^k. -/
def lpow (r : Fq) : Nat → Poly
  | 0 => 1
  | k + 1 => lin r * lpow r k
theorem lpow_ne (r : Fq) (k : Nat) : lpow r k ≠ 0 := by
  induction k with
  | zero => exact one_ne_zero
  | succ k ih => exact fun e => (mul_eq_zero e).elim (lin_ne r) ih
theorem sz_lpow (r : Fq) (k : Nat) : (lpow r k).sz = k + 1 := by
  induction k with
  | zero => exact sz_C Fq.one_ne_zero
  | succ k ih => rw [lpow, sz_mul (by rw [sz_lin]; omega) (by omega), sz_lin, ih]; omega
theorem lpow_add (r : Fq) (j k : Nat) : lpow r (j + k) = lpow r j * lpow r k := by
  induction j with
  | zero => rw [Nat.zero_add, lpow, one_mul]
  | succ j ih => rw [show j + 1 + k = (j + k) + 1 from by omega, lpow, ih, lpow, mul_assoc]
theorem eval_lpow_ne {r x : Fq} (h : x ≠ r) (k : Nat) : eval (lpow r k) x ≠ 0 := by
  induction k with
  | zero => rw [lpow, eval_one]; exact Fq.one_ne_zero
  | succ k ih =>
    rw [lpow, eval_mul, eval_lin]
    exact Fq.mul_ne_zero (fun e => h (Fq.add_eq_zero.1 e)) ih

/-- x + r divides p just k times. -/
def IsMult (p : Poly) (r : Fq) (k : Nat) : Prop := ∃ q, p = lpow r k * q ∧ eval q r ≠ 0

theorem IsMult.unique {p : Poly} {r : Fq} {j k : Nat} (h : IsMult p r j) (g : IsMult p r k) : j = k := by
  have key : ∀ {j k : Nat}, IsMult p r j → IsMult p r k → j ≤ k := by
    intro j k h g
    obtain ⟨q, hq, hq0⟩ := h
    obtain ⟨s, hs, hs0⟩ := g
    rcases Nat.lt_or_ge k j with hlt | hge
    · exfalso
      obtain ⟨d, rfl⟩ := Nat.exists_eq_add_of_le hlt
      have e : lpow r k * s = lpow r k * (lin r * (lpow r d * q)) := by
        rw [← hs, hq, show k + 1 + d = k + (d + 1) from by omega, lpow_add, lpow]
        ac_rfl
      have e2 := mul_cancel (lpow_ne r k) e
      apply hs0
      rw [e2, eval_mul, eval_lin, Fq.add_self, Fq.zero_mul]
    · exact hge
  exact Nat.le_antisymm (key h g) (key g h)

theorem IsMult.ne {p : Poly} {r : Fq} {k : Nat} (h : IsMult p r k) : p ≠ 0 := by
  obtain ⟨q, hq, hq0⟩ := h
  intro e
  rw [e] at hq
  rcases mul_eq_zero hq.symm with h | h
  · exact lpow_ne r k h
  · exact hq0 (by rw [h]; rfl)

theorem IsMult.pos {p : Poly} {r : Fq} {k : Nat} (h : IsMult p r k) : 0 < k ↔ eval p r = 0 := by
  obtain ⟨q, hq, hq0⟩ := h
  cases k with
  | zero =>
    rw [lpow, one_mul] at hq
    constructor
    · intro h; omega
    · intro h; rw [hq] at h; exact absurd h hq0
  | succ k =>
    constructor
    · intro _; rw [hq, lpow, eval_mul, eval_mul, eval_lin, Fq.add_self, Fq.zero_mul, Fq.zero_mul]
    · intro _; omega

/-- A power of x + r that divides a product divides the factor that is 0 at r. -/
theorem lpow_dvd {a q : Poly} {r : Fq} (ha : eval a r ≠ 0) : ∀ k, Dvd (lpow r k) (a * q) → Dvd (lpow r k) q := by
  intro k
  induction k generalizing q with
  | zero => intro _; exact ⟨q, by rw [lpow, mul_one]⟩
  | succ k ih =>
    rintro ⟨c, hc⟩
    have h0 : eval q r = 0 := by
      have := congrArg (fun p => eval p r) hc
      simp only [lpow, eval_mul, eval_lin, Fq.add_self, Fq.zero_mul, Fq.mul_zero] at this
      exact (Fq.mul_eq_zero this).resolve_left ha
    obtain ⟨d, hd⟩ := factor h0
    have hc2 : lin r * (a * d) = lin r * (c * lpow r k) := by
      rw [hd, lpow] at hc
      rw [show lin r * (a * d) = a * (d * lin r) from by ac_rfl, hc]
      ac_rfl
    have hc3 := mul_cancel (lin_ne r) hc2
    obtain ⟨e, he⟩ := ih ⟨c, hc3⟩
    exact ⟨e, by rw [hd, he, lpow]; ac_rfl⟩

/-- The product of powers. -/
def lprod (m : Nat → Nat) : List Nat → Poly
  | [] => 1
  | x :: l => lpow (Fq.of x) (m x) * lprod m l
theorem sz_lprod (m : Nat → Nat) (l : List Nat) : (lprod m l).sz = (l.map m).sum + 1 := by
  induction l with
  | nil => exact sz_C Fq.one_ne_zero
  | cons x l ih => rw [lprod, sz_mul (by rw [sz_lpow]; omega) (by omega), sz_lpow, ih, List.map_cons, List.sum_cons]; omega
theorem eval_lprod_ne {m : Nat → Nat} {l : List Nat} (hl : Gf.Byt l) {x : Nat} (hx : x < 256) (h : x ∉ l) : eval (lprod m l) (Fq.of x) ≠ 0 := by
  induction l with
  | nil => rw [lprod, eval_one]; exact Fq.one_ne_zero
  | cons y l ih =>
    rw [lprod, eval_mul]
    refine Fq.mul_ne_zero (eval_lpow_ne (fun e => h ?_) _) (ih (fun z hz => hl z (by simp [hz])) (fun e => h (by simp [e])))
    rw [Fq.of_inj hx (hl y (by simp)) e]; simp
theorem lprod_dvd {p : Poly} {m : Nat → Nat} : ∀ {l : List Nat}, Gf.Byt l → l.Nodup → (∀ x ∈ l, IsMult p (Fq.of x) (m x)) → Dvd (lprod m l) p := by
  intro l
  induction l with
  | nil => intro _ _ _; exact ⟨p, by rw [lprod, mul_one]⟩
  | cons x l ih =>
    intro hl hn h
    rw [List.nodup_cons] at hn
    obtain ⟨d, hd⟩ := ih (fun z hz => hl z (by simp [hz])) hn.2 (fun y hy => h y (by simp [hy]))
    obtain ⟨q, hq, _⟩ := h x (by simp)
    have h1 : Dvd (lpow (Fq.of x) (m x)) (lprod m l * d) := ⟨q, by rw [mul_comm (lprod m l), ← hd, hq, mul_comm]⟩
    obtain ⟨e, he⟩ := lpow_dvd (eval_lprod_ne (fun z hz => hl z (by simp [hz])) (hl x (by simp)) hn.1) _ h1
    exact ⟨e, by rw [hd, he, lprod, mul_assoc]⟩
/-- At most as many roots as the degree, counted with their multiplicities. -/
theorem sum_mult_le {p : Poly} (hp : p ≠ 0) {m : Nat → Nat} {l : List Nat} (hl : Gf.Byt l) (hn : l.Nodup) (h : ∀ x ∈ l, IsMult p (Fq.of x) (m x)) : (l.map m).sum + 1 ≤ p.sz := by
  obtain ⟨d, hd⟩ := lprod_dvd hl hn h
  have hd0 : d ≠ 0 := fun e => hp (by rw [hd, e, zero_mul])
  have := sz_mul (sz_pos.2 hd0) (q := lprod m l) (by rw [sz_lprod]; omega)
  rw [← hd, sz_lprod] at this
  have := sz_pos.2 hd0
  omega

theorem rootsTo_nodup (p : Poly) (k : Nat) : (rootsTo p k).Nodup := List.Pairwise.filter _ List.nodup_range
theorem rootsTo_mem {p : Poly} {k x : Nat} (h : x ∈ rootsTo p k) : x < k ∧ eval p (Fq.of x) = 0 := by
  have := List.mem_filter.1 h
  exact ⟨by simpa using this.1, by simpa using this.2⟩

/-! Roots of the derivative. -/
theorem deriv_lin (r : Fq) : (lin r).deriv = 1 := by
  rw [lin, deriv_add, deriv_C, add_zero, ← mul_one (mon 1 1), deriv_x_mul]
  have : (1 : Poly).deriv = 0 := deriv_C 1
  rw [this, mul_zero, add_zero]
theorem deriv_root {p : Poly} {r : Fq} {k : Nat} (h : IsMult p r k) (h0 : eval p r = 0) : eval p.deriv r = 0 ↔ 1 < k := by
  have hk := h.pos.2 h0
  obtain ⟨q, hq, hq0⟩ := h
  match k, hk, hq with
  | 1, _, hq =>
    rw [lpow, lpow, mul_one] at hq
    rw [hq, deriv_mul, deriv_lin, one_mul, eval_add, eval_mul, eval_lin, Fq.add_self, Fq.zero_mul, Fq.add_zero]
    constructor
    · intro h; exact absurd h hq0
    · intro h; omega
  | k + 2, _, hq =>
    rw [lpow, lpow] at hq
    rw [hq, mul_assoc, mul_assoc, deriv_mul, deriv_lin, one_mul, eval_add, eval_mul, eval_lin, Fq.add_self, Fq.zero_mul, eval_mul, eval_lin, Fq.add_self, Fq.zero_mul, Fq.add_zero]
    constructor
    · intro _; omega
    · intro _; rfl
end Poly
