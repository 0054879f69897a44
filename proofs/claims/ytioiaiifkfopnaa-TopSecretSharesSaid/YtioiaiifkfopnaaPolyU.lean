/- Roots are factors; uniqueness of interpolation. -/
import Derived.Test.YtioiaiifkfopnaaPolyI
namespace Poly
theorem sz_lin (r : Fq) : (lin r).sz = 2 := by
  unfold lin
  rw [sz_add_lt (by have := sz_C_le r; rw [sz_mon Fq.one_ne_zero]; omega), sz_mon Fq.one_ne_zero]
theorem lin_ne (r : Fq) : lin r ≠ 0 := sz_pos.1 (by rw [sz_lin]; omega)
theorem x_eq (r : Fq) : mon 1 1 = lin r + C r := by rw [lin, add_add_cancel]

/-- The remainder by x + r is the value at r. -/
theorem div_lin (p : Poly) (r : Fq) : ∃ d, p = d * lin r + C (eval p r) := by
  induction p using induct with
  | h0 => exact ⟨0, by rw [zero_mul, zero_add, eval_zero, C_zero]⟩
  | h a p ih =>
    obtain ⟨d, hd⟩ := ih
    refine ⟨mon 1 1 * d + C (eval p r), ?_⟩
    rw [eval_add, eval_C, eval_x_mul, C_add, C_mul]
    generalize hp : eval p r = e at *
    have e1 : mon 1 1 * p = mon 1 1 * d * lin r + mon 1 1 * C e := by
      conv => lhs; rw [hd]
      rw [mul_add, mul_assoc]
    rw [e1, add_mul]
    conv => lhs; rw [x_eq r]
    conv => rhs; rw [x_eq r]
    rw [add_mul (lin r) (C r) (C e), mul_comm (C e) (lin r)]
    ac_rfl

theorem factor {p : Poly} {r : Fq} (h : eval p r = 0) : ∃ d, p = d * lin r := by
  obtain ⟨d, hd⟩ := div_lin p r
  rw [h, C_zero, add_zero] at hd
  exact ⟨d, hd⟩

theorem factors {l : List Nat} (hl : Gf.Byt l) (hn : l.Nodup) {p : Poly} (h : ∀ x ∈ l, eval p (Fq.of x) = 0) : ∃ d, p = d * prod l := by
  induction l using snoc_induct with
  | h0 => exact ⟨p, by rw [prod_nil, mul_one]⟩
  | h l x ih =>
    rw [List.nodup_append] at hn
    have hlb : Gf.Byt l := fun y hy => hl y (List.mem_append_left _ hy)
    obtain ⟨d, hd⟩ := ih hlb hn.1 (fun y hy => h y (List.mem_append_left _ hy))
    have hx := h x (by simp)
    have hxn : x ∉ l := fun e => hn.2.2 x e x (by simp) rfl
    have hne := eval_prod_ne hlb (hl x (by simp)) hxn
    rw [hd, eval_mul] at hx
    obtain ⟨d', hd'⟩ := factor ((Fq.mul_eq_zero hx).resolve_right hne)
    exact ⟨d', by rw [prod_snoc, hd, hd', mul_assoc]⟩

theorem sz_prod (l : List Nat) : (prod l).sz = l.length + 1 := by
  induction l using snoc_induct with
  | h0 => rw [prod_nil]; exact sz_C Fq.one_ne_zero
  | h l x ih =>
    rw [prod_snoc, sz_mul (by rw [sz_lin]; omega) (by omega), sz_lin, ih, List.length_append]
    simp; omega

theorem zero_of_roots {l : List Nat} (hl : Gf.Byt l) (hn : l.Nodup) {p : Poly} (h : ∀ x ∈ l, eval p (Fq.of x) = 0) (hs : p.sz ≤ l.length) : p = 0 := by
  obtain ⟨d, hd⟩ := factors hl hn h
  rcases Nat.eq_zero_or_pos d.sz with h0 | h0
  · rw [hd, sz_eq_zero.1 h0, zero_mul]
  · have := sz_mul h0 (q := prod l) (by rw [sz_prod]; omega)
    rw [← hd, sz_prod] at this
    omega

theorem takes_unique {p q : Poly} {xs ys : List Nat} (hx : Gf.Byt xs) (hn : xs.Nodup) (hl : ys.length = xs.length) (hp : Takes p xs ys) (hq : Takes q xs ys) (sp : p.sz ≤ xs.length) (sq : q.sz ≤ xs.length) : p = q := by
  refine add_eq_zero.1 (zero_of_roots hx hn (p := p + q) ?_ ?_)
  · intro x hm
    obtain ⟨i, hi⟩ := List.mem_iff_getElem?.1 hm
    have hi2 : i < ys.length := by rw [hl]; exact (List.getElem?_eq_some_iff.1 hi).1
    have hy : ys[i]? = some ys[i] := List.getElem?_eq_getElem hi2
    rw [eval_add, hp i x _ hi hy, hq i x _ hi hy, Fq.add_self]
  · have := sz_add_le p q; omega
end Poly
