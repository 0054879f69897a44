/- Quotients, remainders and greatest common divisors exist. -/
import Derived.Test.YtkbcingibgnnpaaPolyK
import Derived.Test.YtkbcingibgnnpaaPolyE
namespace Poly
theorem exists_div (q : Poly) (hq : 0 < q.sz) : ∀ (n : Nat) (p : Poly), p.sz ≤ n → ∃ d r, p = d * q + r ∧ r.sz < q.sz := by
  intro n
  induction n with
  | zero => intro p hp; exact ⟨0, 0, by rw [zero_mul, add_zero]; exact sz_eq_zero.1 (by omega), hq⟩
  | succ n ih =>
    intro p hp
    by_cases h : p.sz < q.sz
    · exact ⟨0, p, by rw [zero_mul, zero_add], h⟩
    · obtain ⟨j, hj⟩ : ∃ j, j = p.sz - (q.sz - 1) := ⟨_, rfl⟩
      have hR : ∀ k, j + (q.sz - 1) ≤ k → p.cf k = 0 := fun k hk => cf_of_ge (by omega)
      have ht := div_top (q := q) (R := p) (j := j) (t := q.sz) (u := p.cf (j - 1 + (q.sz - 1))) (lead := q.cf (q.sz - 1)) (by omega) rfl hq rfl (cf_last hq) rfl hR
      obtain ⟨d, r, hd, hr⟩ := ih (p + mon (p.cf (j - 1 + (q.sz - 1)) * Fq.inv (q.cf (q.sz - 1))) (j - 1) * q) (sz_le fun k hk => ht k (by omega))
      exact ⟨d + mon (p.cf (j - 1 + (q.sz - 1)) * Fq.inv (q.cf (q.sz - 1))) (j - 1), r, by
        rw [add_mul, add_assoc, add_comm _ r, ← add_assoc, ← hd, add_add_cancel], hr⟩

theorem exists_gcd : ∀ (n : Nat) (p q : Poly), q.sz ≤ n → ∃ g, IsGcd g p q := by
  intro n
  induction n with
  | zero =>
    intro p q hq
    have h0 : q = 0 := sz_eq_zero.1 (by omega)
    by_cases hp : p = 0
    · exact ⟨0, by rw [hp, h0]; exact .none⟩
    · exact ⟨_, by rw [h0]; exact .base hp⟩
  | succ n ih =>
    intro p q hq
    by_cases h0 : q.sz = 0
    · exact ih p q (by omega)
    · obtain ⟨d, r, hd, hr⟩ := exists_div q (by omega) p.sz p (Nat.le_refl _)
      obtain ⟨g, hg⟩ := ih q r (by omega)
      exact ⟨g, .step hd hg⟩

/-- The greatest common divisor. -/
noncomputable def gcd (p q : Poly) : Poly := Classical.choose (exists_gcd q.sz p q (Nat.le_refl _))
theorem gcd_is (p q : Poly) : IsGcd (gcd p q) p q := Classical.choose_spec (exists_gcd q.sz p q (Nat.le_refl _))
theorem gcd_eq {g p q : Poly} (h : IsGcd g p q) : g = gcd p q := h.unique (gcd_is p q)
theorem gcd_comm (p q : Poly) : gcd p q = gcd q p := gcd_eq (gcd_is p q).symm
theorem gcd_zero {p q : Poly} (h : gcd p q = 0) : p = 0 ∧ q = 0 := by
  have hg := gcd_is p q
  obtain ⟨x, hx⟩ := hg.left
  obtain ⟨y, hy⟩ := hg.right
  exact ⟨by rw [hx, h, mul_zero], by rw [hy, h, mul_zero]⟩
theorem gcd_zero_zero : gcd 0 0 = 0 := (gcd_eq .none).symm

/-- A common factor. -/
theorem gcd_mul (p q r : Poly) (hr : r ≠ 0) (hg : gcd p q ≠ 0) : ∃ a : Fq, a ≠ 0 ∧ gcd (p * r) (q * r) = C a * r * gcd p q := by
  have h1 := gcd_is p q
  have h2 := gcd_is (p * r) (q * r)
  have d1 : Dvd (r * gcd p q) (gcd (p * r) (q * r)) := by
    refine h2.dvd ?_ ?_
    · obtain ⟨x, hx⟩ := h1.left
      exact ⟨x, by conv => lhs; rw [hx]
                   ac_rfl⟩
    · obtain ⟨x, hx⟩ := h1.right
      exact ⟨x, by conv => lhs; rw [hx]
                   ac_rfl⟩
  have d2 : Dvd (gcd (p * r) (q * r)) (r * gcd p q) := by
    obtain ⟨u, v, e⟩ := h1.comb
    have e2 : r * gcd p q = u * (p * r) + v * (q * r) := by
      conv => lhs; rw [e]
      rw [mul_add]; ac_rfl
    rw [e2]
    exact (h2.left.mul_left u).add (h2.right.mul_left v)
  obtain ⟨x, hx⟩ := d1
  obtain ⟨y, hy⟩ := d2
  have hrg : r * gcd p q ≠ 0 := fun e => (mul_eq_zero e).elim hr hg
  have hxn : x ≠ 0 := fun e => hrg (by rw [hy, hx, e, zero_mul, mul_zero])
  have hyn : y ≠ 0 := fun e => hrg (by rw [hy, e, zero_mul])
  have hn : gcd (p * r) (q * r) ≠ 0 := fun e => hrg (by rw [hy, e, mul_zero])
  have s1 := sz_mul (sz_pos.2 hxn) (sz_pos.2 hrg)
  have s2 := sz_mul (sz_pos.2 hyn) (sz_pos.2 hn)
  rw [← hx] at s1
  rw [← hy] at s2
  have p1 := sz_pos.2 hxn
  have p2 := sz_pos.2 hyn
  have hx1 : x.sz = 1 := by omega
  have ex : x = C (x.cf 0) := ext fun i => by
    rw [cf_C]
    split
    · next e => rw [e]
    · exact cf_of_ge (by omega)
  refine ⟨x.cf 0, ?_, ?_⟩
  · intro e; rw [e, C_zero] at ex; exact hxn ex
  · rw [← ex, mul_assoc]; exact hx
end Poly
