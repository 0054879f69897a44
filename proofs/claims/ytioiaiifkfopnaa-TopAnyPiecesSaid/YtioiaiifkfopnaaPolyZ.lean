/- Roots are factors (the plain part); any rows of an identity and a Cauchy matrix have a trivial kernel. -/
import Derived.Test.YtioiaiifkfopnaaPolyB
import Derived.Test.YtioiaiifkfopnaaMy
import Derived.Test.YtioiaiifkfopnaaMt
theorem snoc_induct {P : List Nat → Prop} (h0 : P []) (h : ∀ l x, P l → P (l ++ [x])) (l : List Nat) : P l := by
  suffices hs : ∀ m : List Nat, P m.reverse by have := hs l.reverse; rwa [List.reverse_reverse] at this
  intro m
  induction m with
  | nil => exact h0
  | cons x m ih => rw [List.reverse_cons]; exact h _ _ ih
namespace Poly
/-- x + r. -/
def lin (r : Fq) : Poly := mon 1 1 + C r
/-- The product of the x + r. -/
def prod (l : List Nat) : Poly := l.foldl (fun p r => lin (Fq.of r) * p) 1
theorem prod_nil : prod [] = 1 := rfl
theorem prod_snoc (l : List Nat) (r : Nat) : prod (l ++ [r]) = lin (Fq.of r) * prod l := by simp [prod]
theorem eval_lin (r x : Fq) : eval (lin r) x = x + r := by
  rw [lin, eval_add, eval_C, ← mul_one (mon 1 1), eval_x_mul, eval_one, Fq.mul_one]
theorem eval_prod_snoc (l : List Nat) (r : Nat) (x : Fq) : eval (prod (l ++ [r])) x = (x + Fq.of r) * eval (prod l) x := by
  rw [prod_snoc, eval_mul, eval_lin]
theorem eval_prod_zero {l : List Nat} {x : Nat} (h : x ∈ l) : eval (prod l) (Fq.of x) = 0 := by
  induction l using snoc_induct with
  | h0 => simp at h
  | h l r ih =>
    rw [eval_prod_snoc]
    rcases List.mem_append.1 h with h | h
    · rw [ih h, Fq.mul_zero]
    · simp at h
      rw [h, Fq.add_self, Fq.zero_mul]
theorem eval_prod_ne {l : List Nat} {x : Nat} (hl : Gf.Byt l) (hx : x < 256) (h : x ∉ l) : eval (prod l) (Fq.of x) ≠ 0 := by
  induction l using snoc_induct with
  | h0 => rw [prod_nil, eval_one]; exact Fq.one_ne_zero
  | h l r ih =>
    rw [eval_prod_snoc]
    refine Fq.mul_ne_zero ?_ (ih (fun y hy => hl y (by simp [hy])) (fun e => h (by simp [e])))
    intro e
    have := Fq.of_inj hx (hl r (by simp)) (Fq.add_eq_zero.1 e)
    exact h (by simp [this])
/-- One more point. -/
theorem sz_lin (r : Fq) : (lin r).sz = 2 := by
  unfold lin
  rw [sz_add_lt (by have := sz_C_le r; rw [sz_mon Fq.one_ne_zero]; omega), sz_mon Fq.one_ne_zero]
theorem lin_ne (r : Fq) : lin r ≠ 0 := sz_pos.1 (by rw [sz_lin]; omega)
theorem x_eq (r : Fq) : mon 1 1 = lin r + C r := by rw [lin, add_add_cancel]

/-- The remainder by x + r is the value at r. -/
theorem div_lin (p : Poly) (r : Fq) : ∃ d, p = d * lin r + C (eval p r) := by
  induction p using induct with
  | h0 => exact ⟨0, by rw [zero_mul, zero_add, eval_zero, C_zero]⟩
  | h a p ih =>
    obtain ⟨d, hd⟩ := ih
    refine ⟨mon 1 1 * d + C (eval p r), ?_⟩
    rw [eval_add, eval_C, eval_x_mul, C_add, C_mul]
    generalize hp : eval p r = e at *
    have e1 : mon 1 1 * p = mon 1 1 * d * lin r + mon 1 1 * C e := by
      conv => lhs; rw [hd]
      rw [mul_add, mul_assoc]
    rw [e1, add_mul]
    conv => lhs; rw [x_eq r]
    conv => rhs; rw [x_eq r]
    rw [add_mul (lin r) (C r) (C e), mul_comm (C e) (lin r)]
    ac_rfl

theorem factor {p : Poly} {r : Fq} (h : eval p r = 0) : ∃ d, p = d * lin r := by
  obtain ⟨d, hd⟩ := div_lin p r
  rw [h, C_zero, add_zero] at hd
  exact ⟨d, hd⟩

theorem factors {l : List Nat} (hl : Gf.Byt l) (hn : l.Nodup) {p : Poly} (h : ∀ x ∈ l, eval p (Fq.of x) = 0) : ∃ d, p = d * prod l := by
  induction l using snoc_induct with
  | h0 => exact ⟨p, by rw [prod_nil, mul_one]⟩
  | h l x ih =>
    rw [List.nodup_append] at hn
    have hlb : Gf.Byt l := fun y hy => hl y (List.mem_append_left _ hy)
    obtain ⟨d, hd⟩ := ih hlb hn.1 (fun y hy => h y (List.mem_append_left _ hy))
    have hx := h x (by simp)
    have hxn : x ∉ l := fun e => hn.2.2 x e x (by simp) rfl
    have hne := eval_prod_ne hlb (hl x (by simp)) hxn
    rw [hd, eval_mul] at hx
    obtain ⟨d', hd'⟩ := factor ((Fq.mul_eq_zero hx).resolve_right hne)
    exact ⟨d', by rw [prod_snoc, hd, hd', mul_assoc]⟩

theorem sz_prod (l : List Nat) : (prod l).sz = l.length + 1 := by
  induction l using snoc_induct with
  | h0 => rw [prod_nil]; exact sz_C Fq.one_ne_zero
  | h l x ih =>
    rw [prod_snoc, sz_mul (by rw [sz_lin]; omega) (by omega), sz_lin, ih, List.length_append]
    simp; omega

theorem zero_of_roots {l : List Nat} (hl : Gf.Byt l) (hn : l.Nodup) {p : Poly} (h : ∀ x ∈ l, eval p (Fq.of x) = 0) (hs : p.sz ≤ l.length) : p = 0 := by
  obtain ⟨d, hd⟩ := factors hl hn h
  rcases Nat.eq_zero_or_pos d.sz with h0 | h0
  · rw [hd, sz_eq_zero.1 h0, zero_mul]
  · have := sz_mul h0 (q := prod l) (by rw [sz_prod]; omega)
    rw [← hd, sz_prod] at this
    omega

end Poly
namespace Poly
open Fq (sum)
theorem eval_prod_erase (y : Fq) {i : Nat} : ∀ (l : List Nat), i ∈ l → eval (prod l) y = (y + Fq.of i) * eval (prod (l.erase i)) y := by
  intro l
  induction l using snoc_induct with
  | h0 => intro h; cases h
  | h l x ih =>
    intro h
    rw [List.erase_append]
    by_cases hm : i ∈ l
    · rw [if_pos hm, eval_prod_snoc, eval_prod_snoc, ih hm, Fq.mul_left_comm]
    · rw [if_neg hm]
      have e : i = x := by
        rcases List.mem_append.1 h with h | h
        · exact absurd h hm
        · exact List.mem_singleton.1 h
      subst e
      rw [List.erase_cons_head, List.append_nil, eval_prod_snoc]
def others (n m : Nat) : List Nat := (List.range n).erase m
theorem mem_others {n m i : Nat} : i ∈ others n m ↔ i ≠ m ∧ i < n := by
  unfold others
  rw [List.Nodup.mem_erase_iff List.nodup_range, List.mem_range]
theorem others_length {n m : Nat} (h : m < n) : (others n m).length = n - 1 := by
  unfold others
  rw [List.length_erase_of_mem (List.mem_range.2 h), List.length_range]
def lag (n : Nat) (x : Nat → Fq) : Nat → Poly
  | 0 => 0
  | m + 1 => lag n x m + C (x m) * prod (others n m)
theorem eval_lag (n : Nat) (x : Nat → Fq) (y : Fq) : ∀ m, eval (lag n x m) y = sum (fun i => x i * eval (prod (others n i)) y) m
  | 0 => eval_zero y
  | m + 1 => by rw [lag, eval_add, eval_C_mul, eval_lag n x y m, Fq.sum_succ]
theorem sz_lag (n : Nat) (x : Nat → Fq) : ∀ m, m ≤ n → (lag n x m).sz ≤ n
  | 0, _ => by show (0 : Poly).sz ≤ n; rw [sz_zero]; omega
  | m + 1, h => by
    have h1 := sz_lag n x m (by omega)
    have h2 := sz_add_le (lag n x m) (C (x m) * prod (others n m))
    have h3 := sz_mul_le (C (x m)) (prod (others n m))
    have h4 := sz_C_le (x m)
    have h5 := sz_prod (others n m)
    rw [others_length (by omega)] at h5
    show (lag n x m + C (x m) * prod (others n m)).sz ≤ n
    omega
end Poly
namespace Mat
open Fq (sum)
open Poly
/-- The rows of the identity, and those of the Cauchy matrix behind them. -/
def allM (n : Nat) : Mat := fun r c => if r < n then idm r c else Fq.inv (Fq.of (r ^^^ c))
theorem pick_ker {n : Nat} (hn : n ≤ 64) {l : List Nat} (hl : l.length = n) (hd : l.Nodup) (hb : ∀ r ∈ l, r < 256) {x : Nat → Fq} (hx : Ker n n (fun t => allM n (l.getD t 0)) x) : ∀ c, c < n → x c = 0 := by
  have hrow : ∀ r ∈ l, sum (fun c => allM n r c * x c) n = 0 := by
    intro r hr
    obtain ⟨t, ht⟩ := List.mem_iff_getElem?.1 hr
    have htn : t < n := by rw [← hl]; exact (List.getElem?_eq_some_iff.1 ht).1
    have : sum (fun c => allM n (l.getD t 0) c * x c) n = 0 := hx t htn
    rw [show l.getD t 0 = r by rw [List.getD_eq_getElem?_getD, ht]; rfl] at this
    exact this
  have hroot : ∀ r ∈ l, eval (lag n x n) (Fq.of r) = 0 := by
    intro r hr
    have h1 := hrow r hr
    have hr256 := hb r hr
    rw [eval_lag]
    by_cases hrn : r < n
    · have hxr : x r = 0 := by
        rw [Fq.sum_one _ hrn fun c _ hne => by unfold allM; rw [if_pos hrn]; unfold idm; rw [if_neg (fun e => hne e.symm), Fq.zero_mul]] at h1
        unfold allM at h1
        rw [if_pos hrn] at h1
        unfold idm at h1
        rwa [if_pos rfl, Fq.one_mul] at h1
      refine Fq.sum_zeros fun i hi => ?_
      by_cases e : i = r
      · rw [e, hxr, Fq.zero_mul]
      · rw [eval_prod_zero (mem_others.2 ⟨fun e2 => e e2.symm, hrn⟩), Fq.mul_zero]
    · have h2 : ∀ i, i < n → x i * eval (prod (others n i)) (Fq.of r) = eval (prod (List.range n)) (Fq.of r) * (allM n r i * x i) := by
        intro i hi
        have hd0 : Fq.of r + Fq.of i ≠ 0 := fun e => by
          have := Fq.of_inj hr256 (by omega) (Fq.add_eq_zero.1 e)
          omega
        rw [eval_prod_erase (Fq.of r) (List.range n) (List.mem_range.2 hi)]
        unfold allM
        rw [if_neg hrn, Fq.of_add hr256 (by omega)]
        show _ = (Fq.of r + Fq.of i) * eval (prod (others n i)) (Fq.of r) * (Fq.inv (Fq.of r + Fq.of i) * x i)
        have : (Fq.of r + Fq.of i) * eval (prod (others n i)) (Fq.of r) * (Fq.inv (Fq.of r + Fq.of i) * x i) = ((Fq.of r + Fq.of i) * Fq.inv (Fq.of r + Fq.of i)) * (x i * eval (prod (others n i)) (Fq.of r)) := by ac_rfl
        rw [this, Fq.mul_inv hd0, Fq.one_mul]
      rw [Fq.sum_congr h2, ← Fq.mul_sum, h1, Fq.mul_zero]
  have hz : lag n x n = 0 := zero_of_roots (fun r hr => hb r hr) hd hroot (by rw [hl]; exact sz_lag n x n (Nat.le_refl _))
  intro c hc
  have h3 := eval_lag n x (Fq.of c) n
  rw [hz, eval_zero] at h3
  rw [Fq.sum_one _ hc fun i hi hne => by rw [eval_prod_zero (mem_others.2 ⟨fun e => hne e.symm, hc⟩), Fq.mul_zero]] at h3
  rcases Fq.mul_eq_zero h3.symm with h4 | h4
  · exact h4
  · exact absurd h4 (eval_prod_ne (fun y hy => by have := (mem_others.1 hy).2; omega) (by omega) fun hm => (mem_others.1 hm).1 rfl)
theorem pick_full {n : Nat} (hn : n ≤ 64) {l : List Nat} (hl : l.length = n) (hd : l.Nodup) (hb : ∀ r ∈ l, r < 256) : (elimE n (fun t => allM n (l.getD t 0)) n).piv.length = n :=
  full_of_ker fun _ hx => pick_ker hn hl hd hb hx
end Mat
