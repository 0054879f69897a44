/- The greatest common divisor. -/
import Derived.Test.YtkbcingibgnnpaaPolyU
namespace Poly
def Dvd (a b : Poly) : Prop := ∃ c, b = c * a
theorem Dvd.refl (a : Poly) : Dvd a a := ⟨1, (one_mul a).symm⟩
theorem Dvd.zero (a : Poly) : Dvd a 0 := ⟨0, (zero_mul a).symm⟩
theorem Dvd.trans {a b c : Poly} (h : Dvd a b) (k : Dvd b c) : Dvd a c := by
  obtain ⟨x, rfl⟩ := h
  obtain ⟨y, rfl⟩ := k
  exact ⟨y * x, by rw [mul_assoc]⟩
theorem Dvd.mul_left {a b : Poly} (h : Dvd a b) (c : Poly) : Dvd a (c * b) := by
  obtain ⟨x, rfl⟩ := h
  exact ⟨c * x, by rw [mul_assoc]⟩
theorem Dvd.add {a b c : Poly} (h : Dvd a b) (k : Dvd a c) : Dvd a (b + c) := by
  obtain ⟨x, rfl⟩ := h
  obtain ⟨y, rfl⟩ := k
  exact ⟨x + y, by rw [add_mul]⟩

/-- The leading coefficient. -/
def top (p : Poly) : Fq := p.cf (p.sz - 1)
theorem top_ne {p : Poly} (h : p ≠ 0) : top p ≠ 0 := cf_last (sz_pos.2 h)
theorem top_C_mul {a : Fq} (ha : a ≠ 0) (p : Poly) : (C a * p).sz = p.sz ∧ top (C a * p) = a * top p := by
  have hs : (C a * p).sz = p.sz := by
    rcases Nat.eq_zero_or_pos p.sz with h0 | h0
    · rw [sz_eq_zero.1 h0, mul_zero]
    · rw [sz_mul (by rw [sz_C ha]; omega) h0, sz_C ha]; omega
  exact ⟨hs, by rw [top, hs, cf_C_mul]; rfl⟩

/-- g is the greatest common divisor of p and q. -/
structure IsGcd (g p q : Poly) : Prop where
  left : Dvd g p
  right : Dvd g q
  comb : ∃ u v, g = u * p + v * q
  monic : g ≠ 0 → top g = 1

theorem IsGcd.dvd {g p q r : Poly} (h : IsGcd g p q) (h1 : Dvd r p) (h2 : Dvd r q) : Dvd r g := by
  obtain ⟨u, v, e⟩ := h.comb
  rw [e]
  exact (h1.mul_left u).add (h2.mul_left v)

theorem eq_of_dvd {g h : Poly} (a : Dvd g h) (b : Dvd h g) (hg : g ≠ 0 → top g = 1) (hh : h ≠ 0 → top h = 1) : g = h := by
  obtain ⟨x, hx⟩ := a
  obtain ⟨y, hy⟩ := b
  by_cases h0 : g = 0
  · rw [h0, mul_zero] at hx; rw [h0, hx]
  · have hn : h ≠ 0 := fun e => h0 (by rw [hy, e, mul_zero])
    have hxn : x ≠ 0 := fun e => hn (by rw [hx, e, zero_mul])
    have hyn : y ≠ 0 := fun e => h0 (by rw [hy, e, zero_mul])
    have s1 := sz_mul (sz_pos.2 hxn) (sz_pos.2 h0)
    have s2 := sz_mul (sz_pos.2 hyn) (sz_pos.2 hn)
    rw [← hx] at s1
    rw [← hy] at s2
    have p1 := sz_pos.2 hxn
    have p2 := sz_pos.2 hyn
    have hx1 : x.sz = 1 := by omega
    have ex : x = C (x.cf 0) := ext fun i => by
      rw [cf_C]
      split
      · next e => rw [e]
      · exact cf_of_ge (by omega)
    have hne : x.cf 0 ≠ 0 := by
      intro e; rw [e, C_zero] at ex; exact hxn ex
    have ht := (top_C_mul hne g).2
    rw [← ex, ← hx, hh hn, hg h0, Fq.mul_one] at ht
    rw [hx, ex, ← ht, C_one, one_mul]

theorem IsGcd.unique {g h p q : Poly} (a : IsGcd g p q) (b : IsGcd h p q) : g = h :=
  eq_of_dvd (b.dvd a.left a.right) (a.dvd b.left b.right) a.monic b.monic

theorem IsGcd.symm {g p q : Poly} (a : IsGcd g p q) : IsGcd g q p := by
  obtain ⟨u, v, e⟩ := a.comb
  exact ⟨a.right, a.left, ⟨v, u, by rw [e, add_comm]⟩, a.monic⟩

/-- One step of Euclid's algorithm. -/
theorem IsGcd.step {g p q d r : Poly} (hp : p = d * q + r) (h : IsGcd g q r) : IsGcd g p q := by
  obtain ⟨u, v, e⟩ := h.comb
  refine ⟨by rw [hp]; exact (h.left.mul_left d).add h.right, h.left, ⟨v, u + v * d, ?_⟩, h.monic⟩
  rw [e, hp, mul_add, add_mul]
  have e2 : v * (d * q) + v * r + (u * q + v * d * q) = u * q + v * r + (v * (d * q) + v * d * q) := by ac_rfl
  rw [e2, ← mul_assoc, add_self, add_zero]

/-- The last step. -/
theorem IsGcd.base {p : Poly} (h : p ≠ 0) : IsGcd (C (Fq.inv (top p)) * p) p 0 := by
  have hi := Fq.inv_ne_zero (top_ne h)
  refine ⟨⟨C (top p), ?_⟩, .zero _, ⟨C (Fq.inv (top p)), 0, by rw [mul_zero, add_zero]⟩, fun _ => ?_⟩
  · rw [← mul_assoc, ← C_mul, Fq.mul_inv (top_ne h), C_one, one_mul]
  · rw [(top_C_mul hi p).2, Fq.inv_mul (top_ne h)]
theorem IsGcd.none : IsGcd 0 0 0 := ⟨.zero _, .zero _, ⟨0, 0, by rw [mul_zero, add_zero]⟩, fun h => absurd rfl h⟩
end Poly
