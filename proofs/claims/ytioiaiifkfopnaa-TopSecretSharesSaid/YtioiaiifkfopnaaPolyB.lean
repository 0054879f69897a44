/- Lists of bytes as polynomials, and polynomials as lists of bytes. -/
import Derived.Test.YtioiaiifkfopnaaPoly
import Derived.Test.YtioiaiifkfopnaaGfB
import Derived.Test.YtioiaiifkfopnaaKitC

namespace Poly
open Gf (Byt)

/-- The polynomial with a list of coefficients. -/
def of (l : List Nat) : Poly := ofL (l.map Fq.of)
/-- The coefficients of a polynomial. -/
def out (p : Poly) : List Nat := p.l.map Fq.n

theorem cf_of (l : List Nat) (i : Nat) : (of l).cf i = Fq.of (l.getD i 0) := by
  unfold of
  rw [cf_ofL, List.getD_eq_getElem?_getD, List.getD_eq_getElem?_getD, List.getElem?_map]
  cases l[i]? <;> rfl
theorem cf_of_some {l : List Nat} {i x : Nat} (h : l[i]? = some x) : (of l).cf i = Fq.of x := by
  rw [cf_of, List.getD_eq_getElem?_getD, h]; rfl
theorem cf_of_none {l : List Nat} {i : Nat} (h : l.length ≤ i) : (of l).cf i = 0 := by
  rw [cf_of, List.getD_eq_getElem?_getD, List.getElem?_eq_none_iff.2 h]; rfl
theorem sz_of_le (l : List Nat) : (of l).sz ≤ l.length := sz_le fun _ hi => cf_of_none hi
theorem out_length (p : Poly) : (out p).length = p.sz := by simp [out, sz]
theorem out_byt (p : Poly) : Byt (out p) := by
  intro x hx
  obtain ⟨a, _, rfl⟩ := List.mem_map.1 hx
  exact a.h
theorem of_out (p : Poly) : of (out p) = p := by
  unfold of out
  rw [List.map_map]
  have : p.l.map (Fq.of ∘ Fq.n) = p.l := by
    conv => rhs; rw [← List.map_id p.l]
    exact List.map_congr_left fun a _ => Fq.of_val a
  rw [this, ofL_l]
theorem out_get {p : Poly} {i : Nat} (h : i < p.sz) : (out p)[i]? = some (p.cf i).n := by
  unfold out cf
  rw [List.getElem?_map, List.getD_eq_getElem?_getD]
  unfold sz at h
  rw [List.getElem?_eq_getElem h]
  rfl
theorem out_getD (p : Poly) (i : Nat) : (out p).getD i 0 = (p.cf i).n := by
  rw [List.getD_eq_getElem?_getD]
  by_cases h : i < p.sz
  · rw [out_get h]; rfl
  · rw [List.getElem?_eq_none_iff.2 (by rw [out_length]; omega), cf_of_ge (by omega)]; rfl
theorem out_zero : out 0 = [] := rfl

/-- A list as long as its polynomial is the list of its polynomial. -/
theorem eq_out {l : List Nat} {p : Poly} (hl : Byt l) (hp : of l = p) (hs : l.length = p.sz) : l = out p := by
  apply List.ext_getElem?
  intro i
  by_cases h : i < p.sz
  · rw [out_get h, ← hp]
    have hi : i < l.length := by omega
    have hx := List.getElem?_eq_getElem hi
    rw [cf_of_some hx, Fq.of_n (hl.at hx), hx]
  · rw [List.getElem?_eq_none_iff.2 (by omega), List.getElem?_eq_none_iff.2 (by rw [out_length]; omega)]

/-- Lists of one length with one polynomial are equal. -/
theorem of_inj {l m : List Nat} (hl : Byt l) (hm : Byt m) (hs : l.length = m.length) (h : of l = of m) : l = m := by
  apply List.ext_getElem?
  intro i
  by_cases hi : i < l.length
  · have hx := List.getElem?_eq_getElem hi
    have hy := List.getElem?_eq_getElem (show i < m.length by omega)
    have := congrArg (fun p => Poly.cf p i) h
    simp only [cf_of_some hx, cf_of_some hy] at this
    rw [hx, hy, Fq.of_inj (hl.at hx) (hm.at hy) this]
  · rw [List.getElem?_eq_none_iff.2 (by omega), List.getElem?_eq_none_iff.2 (by omega)]

theorem of_zeros (n : Nat) : of (List.replicate n 0) = 0 := ext fun i => by
  rw [cf_of, cf_zero, List.getD_eq_getElem?_getD, List.getElem?_replicate]
  split <;> rfl

theorem sz_of_eq {l : List Nat} {k : Nat} (hl : Byt l) (hk : k ≤ l.length) (h0 : ∀ j x, k ≤ j → l[j]? = some x → x = 0) (h1 : 0 < k → ∀ x, l[k - 1]? = some x → x ≠ 0) : (of l).sz = k := by
  apply Nat.le_antisymm
  · refine sz_le fun i hi => ?_
    by_cases hlt : i < l.length
    · have hx := List.getElem?_eq_getElem hlt
      rw [cf_of_some hx, h0 i _ hi hx]; rfl
    · exact cf_of_none (by omega)
  · by_cases hk0 : k = 0
    · omega
    · have hlt : k - 1 < l.length := by omega
      have hx := List.getElem?_eq_getElem hlt
      have hne := h1 (by omega) _ hx
      have : (of l).cf (k - 1) ≠ 0 := by
        rw [cf_of_some hx]
        intro e
        exact hne ((Fq.of_eq_zero (hl.at hx)).1 e)
      have := sz_gt this
      omega

theorem of_set {l : List Nat} {k x y : Nat} (hl : Byt l) (hx : l[k]? = some x) (hy : y < 256) : of (l.set k (x ^^^ y)) = of l + mon (Fq.of y) k := ext fun i => by
  have hk := (List.getElem?_eq_some_iff.1 hx).1
  rw [cf_add, cf_of, cf_of, cf_mon, List.getD_eq_getElem?_getD, List.getD_eq_getElem?_getD, List.getElem?_set]
  by_cases e : k = i
  · subst e
    rw [if_pos rfl, if_pos hk, if_pos rfl, hx]
    exact Fq.of_add (hl.at hx) hy
  · rw [if_neg e, if_neg (fun e2 => e e2.symm), Fq.add_zero]

theorem of_set_val {l : List Nat} {k x z : Nat} (hx : l[k]? = some x) : of (l.set k z) = of l + mon (Fq.of x + Fq.of z) k := ext fun i => by
  have hk := (List.getElem?_eq_some_iff.1 hx).1
  rw [cf_add, cf_of, cf_of, cf_mon, List.getD_eq_getElem?_getD, List.getD_eq_getElem?_getD, List.getElem?_set]
  by_cases e : k = i
  · subst e
    rw [if_pos rfl, if_pos hk, if_pos rfl, hx]
    simp only [Option.getD_some]
    rw [← Fq.add_assoc, Fq.add_self, Fq.zero_add]
  · rw [if_neg e, if_neg (fun e2 => e e2.symm), Fq.add_zero]

theorem set_byt {l : List Nat} (hl : Byt l) {z : Nat} (hz : z < 256) (k : Nat) : Byt (l.set k z) := fun x hx => by
  rcases List.mem_or_eq_of_mem_set hx with h | h
  · exact hl x h
  · rw [h]; exact hz

theorem take_byt {l : List Nat} (hl : Byt l) (k : Nat) : Byt (l.take k) := fun x hx => hl x (List.mem_of_mem_take hx)
theorem drop_byt {l : List Nat} (hl : Byt l) (k : Nat) : Byt (l.drop k) := fun x hx => hl x (List.mem_of_mem_drop hx)
theorem append_byt {l m : List Nat} (hl : Byt l) (hm : Byt m) : Byt (l ++ m) := fun x hx => (List.mem_append.1 hx).elim (hl x) (hm x)

theorem of_take_succ {l : List Nat} {k x : Nat} (hx : l[k]? = some x) : of (l.take (k + 1)) = of (l.take k) + mon (Fq.of x) k := ext fun i => by
  rw [cf_add, cf_of, cf_of, cf_mon, List.getD_eq_getElem?_getD, List.getD_eq_getElem?_getD, List.getElem?_take, List.getElem?_take]
  by_cases e : i = k
  · subst e
    rw [if_pos (by omega), if_neg (by omega), if_pos rfl, hx]
    show _ = (0 : Fq) + _
    rw [Fq.zero_add]; rfl
  · rw [if_neg e, Fq.add_zero]
    by_cases h : i < k
    · rw [if_pos (by omega), if_pos h]
    · rw [if_neg (by omega), if_neg h]

theorem of_nil : of [] = 0 := rfl
theorem of_take_zero (l : List Nat) : of (l.take 0) = 0 := rfl

theorem of_over {n : Nat} {l : List Nat} (h : l.length ≤ n) : of (Go.Kin.over (List.replicate n 0) 0 l) = of l := ext fun i => by
  rw [cf_of, cf_of, List.getD_eq_getElem?_getD, List.getD_eq_getElem?_getD, Go.Kin.over_get _ _ _ (by simp; omega), if_neg (by omega)]
  by_cases h1 : i < 0 + l.length
  · rw [if_pos h1]; rfl
  · rw [if_neg h1, List.getElem?_replicate, List.getElem?_eq_none_iff.2 (show l.length ≤ i by omega)]
    split <;> rfl

theorem over_byt {l m : List Nat} (hl : Byt l) (hm : Byt m) (k : Nat) : Byt (Go.Kin.over l k m) :=
  append_byt (take_byt hl k) (append_byt hm (drop_byt hl _))

theorem zeros_byt (n : Nat) : Byt (List.replicate n 0) := fun x hx => by rw [List.eq_of_mem_replicate hx]; omega

theorem of_scale {l : List Nat} {a : Nat} (hl : Byt l) (ha : a < 256) : of (l.map (Gf.mul a)) = C (Fq.of a) * of l := ext fun i => by
  rw [cf_C_mul, cf_of, cf_of, List.getD_eq_getElem?_getD, List.getD_eq_getElem?_getD, List.getElem?_map]
  cases hx : l[i]? with
  | none => exact (Fq.mul_zero _).symm
  | some x => exact Fq.of_mul ha (hl.at hx)

end Poly
