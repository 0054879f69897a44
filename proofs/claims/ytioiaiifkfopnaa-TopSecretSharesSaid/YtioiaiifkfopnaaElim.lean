/- Elimination: the reduced form, its pivots, the product of the pivots; kernels; determinants. -/
import Derived.Test.YtioiaiifkfopnaaDet
namespace Mat
open Fq (sum)

structure EState where
  R : Mat
  piv : List Nat
  prod : Fq

/-- The first row from top on, of n, that is not 0 in the column. -/
def findP (R : Mat) (col n top : Nat) : Option Nat := (List.range n).find? fun i => decide (top ≤ i ∧ R i col ≠ 0)

theorem findP_some {R : Mat} {col n top i : Nat} (h1 : top ≤ i) (h2 : i < n) (h3 : R i col ≠ 0) (h4 : ∀ j, top ≤ j → j < i → R j col = 0) : findP R col n top = some i := by
  unfold findP
  rw [List.find?_range_eq_some]
  refine ⟨by simp [h1, h3], by simpa using h2, fun j hj => ?_⟩
  simp only [Bool.not_eq_true', decide_eq_false_iff_not]
  rintro ⟨a, b⟩
  exact b (h4 j a hj)
theorem findP_none {R : Mat} {col n top : Nat} (h : ∀ j, top ≤ j → j < n → R j col = 0) : findP R col n top = none := by
  unfold findP
  rw [List.find?_eq_none]
  intro i hi
  simp only [decide_eq_true_eq]
  rintro ⟨a, b⟩
  exact b (h i a (by simpa using hi))
theorem findP_cases (R : Mat) (col n top : Nat) : (findP R col n top = none ∧ ∀ j, top ≤ j → j < n → R j col = 0) ∨ ∃ i, findP R col n top = some i ∧ top ≤ i ∧ i < n ∧ R i col ≠ 0 := by
  cases h : findP R col n top with
  | none =>
    left
    refine ⟨rfl, fun j h1 h2 => ?_⟩
    unfold findP at h
    rw [List.find?_eq_none] at h
    have := h j (by simpa using h2)
    simp only [decide_eq_true_eq] at this
    exact Classical.byContradiction fun e => this ⟨h1, e⟩
  | some i =>
    right
    unfold findP at h
    have h1 := List.find?_some h
    have h2 := List.mem_of_find?_eq_some h
    simp only [decide_eq_true_eq] at h1
    exact ⟨i, rfl, h1.1, by simpa using h2, h1.2⟩

/-- The row top made 1 in the column, the other rows 0. -/
def clearR (R : Mat) (top col : Nat) : Mat := fun i c => if i = top then Fq.inv (R top col) * R top c else R i c + R i col * (Fq.inv (R top col) * R top c)
def stepE (n : Nat) (s : EState) (col : Nat) : EState :=
  match findP s.R col n s.piv.length with
  | none => s
  | some i => ⟨clearR (swapR s.R s.piv.length i) s.piv.length col, s.piv ++ [col], s.prod * s.R i col⟩
def elimE (n : Nat) (M : Mat) : Nat → EState
  | 0 => ⟨M, [], 1⟩
  | col + 1 => stepE n (elimE n M col) col

/-! ### Kernels -/
def Ker (n W : Nat) (R : Mat) (x : Nat → Fq) : Prop := ∀ i, i < n → sum (fun c => R i c * x c) W = 0

theorem ker_swap {n W : Nat} {R : Mat} {x : Nat → Fq} {i j : Nat} (hi : i < n) (hj : j < n) : Ker n W (swapR R i j) x ↔ Ker n W R x := by
  have key : ∀ R : Mat, Ker n W R x → Ker n W (swapR R i j) x := by
    intro R h k hk
    unfold swapR
    by_cases h1 : k = i
    · simp only [if_pos h1]; exact h j hj
    · by_cases h2 : k = j
      · simp only [if_neg h1, if_pos h2]; exact h i hi
      · simp only [if_neg h1, if_neg h2]; exact h k hk
  refine ⟨fun h => ?_, key R⟩
  have := key _ h
  have e : swapR (swapR R i j) i j = R := funext fun k => by
    unfold swapR
    by_cases h1 : k = i
    · subst h1
      by_cases h2 : j = k
      · simp [h2]
      · simp [h2]
    · by_cases h2 : k = j
      · subst h2; simp [h1]
      · simp [h1, h2]
  rwa [e] at this
theorem ker_clear {n W : Nat} {R : Mat} {x : Nat → Fq} {top col : Nat} (ht : top < n) (h0 : R top col ≠ 0) : Ker n W (clearR R top col) x ↔ Ker n W R x := by
  have htop : sum (fun c => clearR R top col top c * x c) W = Fq.inv (R top col) * sum (fun c => R top c * x c) W := by
    rw [Fq.mul_sum]
    exact Fq.sum_congr fun c _ => by simp only [clearR, if_pos]; rw [Fq.mul_assoc]
  have hrow : ∀ i, i ≠ top → sum (fun c => clearR R top col i c * x c) W = sum (fun c => R i c * x c) W + R i col * (Fq.inv (R top col) * sum (fun c => R top c * x c) W) := by
    intro i hi
    rw [Fq.mul_sum, Fq.mul_sum, ← Fq.sum_add]
    exact Fq.sum_congr fun c _ => by simp only [clearR, if_neg hi]; rw [Fq.add_mul, Fq.mul_assoc, Fq.mul_assoc]
  constructor
  · intro h
    have h1 : sum (fun c => R top c * x c) W = 0 := by
      have := h top ht
      rw [htop] at this
      exact (Fq.mul_eq_zero this).resolve_left (Fq.inv_ne_zero h0)
    intro i hi
    by_cases e : i = top
    · rw [e]; exact h1
    · have := h i hi
      rwa [hrow i e, h1, Fq.mul_zero, Fq.mul_zero, Fq.add_zero] at this
  · intro h i hi
    by_cases e : i = top
    · rw [e, htop, h top ht, Fq.mul_zero]
    · rw [hrow i e, h i hi, h top ht, Fq.mul_zero, Fq.mul_zero, Fq.add_zero]
theorem ker_step {n W : Nat} {s : EState} {x : Nat → Fq} {col : Nat} : Ker n W (stepE n s col).R x ↔ Ker n W s.R x := by
  unfold stepE
  rcases findP_cases s.R col n s.piv.length with ⟨h, _⟩ | ⟨i, h, h1, h2, h3⟩
  · rw [h]
  · rw [h]
    have e : swapR s.R s.piv.length i s.piv.length col = s.R i col := by unfold swapR; rw [if_pos rfl]
    show Ker n W (clearR _ _ _) x ↔ _
    rw [ker_clear (by omega) (by rw [e]; exact h3), ker_swap (by omega) h2]
theorem ker_elim {n W : Nat} {M : Mat} {x : Nat → Fq} : ∀ col, Ker n W (elimE n M col).R x ↔ Ker n W M x
  | 0 => Iff.rfl
  | col + 1 => ker_step.trans (ker_elim col)

/-! ### The reduced form -/
structure Ech (n cols : Nat) (s : EState) : Prop where
  len : s.piv.length ≤ n
  lt : ∀ p ∈ s.piv, p < cols
  sorted : s.piv.Pairwise (· < ·)
  unit : ∀ (t p i : Nat), s.piv[t]? = some p → i < n → s.R i p = if i = t then 1 else 0
  zero : ∀ i c, s.piv.length ≤ i → i < n → c < cols → s.R i c = 0

theorem ech_step {n : Nat} {s : EState} {col : Nat} (h : Ech n col s) : Ech n (col + 1) (stepE n s col) := by
  unfold stepE
  rcases findP_cases s.R col n s.piv.length with ⟨e, h1⟩ | ⟨f, e, h1, h2, h3⟩
  · rw [e]
    refine ⟨h.len, fun p hp => by have := h.lt p hp; omega, h.sorted, h.unit, fun i c hi hin hc => ?_⟩
    by_cases hcc : c = col
    · rw [hcc]; exact h1 i hi hin
    · exact h.zero i c hi hin (by omega)
  · rw [e]
    obtain ⟨top, ht⟩ : ∃ top, top = s.piv.length := ⟨_, rfl⟩
    rw [← ht] at h1 ⊢
    obtain ⟨R1, hR1⟩ : ∃ R1, R1 = swapR s.R top f := ⟨_, rfl⟩
    show Ech n (col + 1) ⟨clearR (swapR s.R top f) top col, s.piv ++ [col], s.prod * s.R f col⟩
    rw [← hR1]
    have t1 : ∀ c, R1 top c = s.R f c := fun c => by rw [hR1]; unfold swapR; rw [if_pos rfl]
    have t2 : ∀ i c, i ≠ top → i ≠ f → R1 i c = s.R i c := fun i c a b => by rw [hR1]; unfold swapR; rw [if_neg a, if_neg b]
    have t3 : ∀ c, f ≠ top → R1 f c = s.R top c := fun c a => by rw [hR1]; unfold swapR; rw [if_neg a, if_pos rfl]
    have hp0 : R1 top col ≠ 0 := by rw [t1]; exact h3
    have c1 : ∀ c, clearR R1 top col top c = Fq.inv (R1 top col) * R1 top c := fun c => by unfold clearR; rw [if_pos rfl]
    have c2 : ∀ i c, i ≠ top → clearR R1 top col i c = R1 i c + R1 i col * (Fq.inv (R1 top col) * R1 top c) := fun i c hi => by unfold clearR; rw [if_neg hi]
    have tz : ∀ i c, top ≤ i → i < n → c < col → R1 i c = 0 := by
      intro i c hi hin hc
      by_cases a : i = top
      · rw [a, t1]; exact h.zero f c (by omega) h2 hc
      · by_cases b : i = f
        · rw [b, t3 c (by omega)]; exact h.zero top c (by omega) (by omega) hc
        · rw [t2 i c a b]; exact h.zero i c (by omega) hin hc
    refine ⟨?_, ?_, ?_, ?_, ?_⟩
    · simp; omega
    · intro p hp
      rcases List.mem_append.1 hp with hp | hp
      · have := h.lt p hp; omega
      · simp at hp; omega
    · rw [List.pairwise_append]
      exact ⟨h.sorted, by simp, fun a ha b hb => by simp at hb; rw [hb]; exact h.lt a ha⟩
    · intro t p i hp hi
      show clearR R1 top col i p = _
      by_cases htt : t < top
      · have hp2 : s.piv[t]? = some p := by rw [← hp]; exact (List.getElem?_append_left (by omega)).symm
        have hpc := h.lt p (List.mem_of_getElem? hp2)
        have z : R1 top p = 0 := tz top p (by omega) (by omega) hpc
        by_cases a : i = top
        · rw [a, c1, z, Fq.mul_zero, if_neg (by omega)]
        · rw [c2 i p a, z, Fq.mul_zero, Fq.mul_zero, Fq.add_zero]
          by_cases b : i = f
          · rw [b, t3 p (by omega), h.unit t p top hp2 (by omega), if_neg (by omega), if_neg (by omega)]
          · rw [t2 i p a b]; exact h.unit t p i hp2 hi
      · have hlt := (List.getElem?_eq_some_iff.1 hp).1
        rw [List.length_append] at hlt
        have htop : t = top := by simp at hlt; omega
        subst htop
        have hpc : p = col := by
          rw [List.getElem?_append_right (by omega), ← ht, Nat.sub_self] at hp
          simpa using hp.symm
        subst hpc
        by_cases a : i = t
        · rw [a, c1, Fq.inv_mul hp0, if_pos rfl]
        · rw [c2 i _ a, Fq.inv_mul hp0, Fq.mul_one, Fq.add_self, if_neg a]
    · intro i c hi hin hc
      show clearR R1 top col i c = 0
      have hi2 : top + 1 ≤ i := by simp at hi; omega
      rw [c2 i c (by omega)]
      by_cases hcc : c = col
      · rw [hcc, Fq.inv_mul hp0, Fq.mul_one, Fq.add_self]
      · rw [tz i c (by omega) hin (by omega), tz top c (by omega) (by omega) (by omega), Fq.mul_zero, Fq.mul_zero, Fq.add_zero]
theorem ech_elim (n : Nat) (M : Mat) : ∀ cols, Ech n cols (elimE n M cols)
  | 0 => ⟨Nat.zero_le _, by simp [elimE], by simp [elimE], by simp [elimE], fun _ _ _ _ h => by omega⟩
  | cols + 1 => ech_step (ech_elim n M cols)

theorem sorted_ge {l : List Nat} (h : l.Pairwise (· < ·)) : ∀ {t p : Nat}, l[t]? = some p → t ≤ p := by
  intro t
  induction t with
  | zero => intro p _; omega
  | succ t ih =>
    intro p hp
    have hlt := (List.getElem?_eq_some_iff.1 hp).1
    have h1 := ih (List.getElem?_eq_getElem (show t < l.length by omega))
    have h2 := List.pairwise_iff_getElem.1 h t (t + 1) (by omega) hlt (by omega)
    have h3 : l[t + 1] = p := (List.getElem?_eq_some_iff.1 hp).2
    omega
theorem sorted_full {l : List Nat} {k : Nat} (h : l.Pairwise (· < ·)) (hl : l.length = k) (hk : ∀ p ∈ l, p < k) : ∀ {t p : Nat}, l[t]? = some p → p = t := by
  have up : ∀ d t p : Nat, l[t]? = some p → t + d + 1 = k → p + d + 1 ≤ k := by
    intro d
    induction d with
    | zero => intro t p hp ht; have := hk p (List.mem_of_getElem? hp); omega
    | succ d ih =>
      intro t p hp ht
      have hlt : t + 1 < l.length := by omega
      have h1 := ih (t + 1) _ (List.getElem?_eq_getElem hlt) (by omega)
      have hlt0 := (List.getElem?_eq_some_iff.1 hp).1
      have h2 := List.pairwise_iff_getElem.1 h t (t + 1) hlt0 hlt (by omega)
      have h3 : l[t] = p := (List.getElem?_eq_some_iff.1 hp).2
      omega
  intro t p hp
  have h1 := sorted_ge h hp
  have hlt := (List.getElem?_eq_some_iff.1 hp).1
  have h2 := up (k - 1 - t) t p hp (by omega)
  omega
/-- As many pivots as rows and columns: the identity. -/
theorem full_idm {k : Nat} {s : EState} (h : Ech k k s) (hl : s.piv.length = k) {i c : Nat} (hi : i < k) (hc : c < k) : s.R i c = idm i c := by
  have hx := List.getElem?_eq_getElem (show c < s.piv.length by omega)
  have e := sorted_full h.sorted hl h.lt hx
  rw [e] at hx
  rw [h.unit c c i hx hi]; rfl

/-! ### Determinants -/
/-- A function of the rows that behaves as the determinant does. -/
structure RowFn (k : Nat) (f : Mat → Fq) : Prop where
  congr : ∀ {M N : Mat}, (∀ i c, i < k → c < k → M i c = N i c) → f M = f N
  swap : ∀ (M : Mat) (i j : Nat), i < k → j < k → f (swapR M i j) = f M
  scale : ∀ (M : Mat) (i : Nat) (a : Fq), i < k → f (setRow M i fun c => a * M i c) = a * f M
  addmul : ∀ (M : Mat) (i t : Nat) (g : Fq), i < k → t < k → i ≠ t → f (setRow M i fun c => M i c + g * M t c) = f M
  zero : ∀ (M : Mat) (i : Nat), i < k → (∀ c, c < k → M i c = 0) → f M = 0

theorem det_rowFn (k : Nat) : RowFn k (det k) :=
  ⟨fun h => det_congr k h, fun M _ _ hi hj => det_swap k M hi hj, fun M i a hi => by rw [det_scale k M hi, setRow_self], fun M _ _ g hi ht h => det_addmul k M hi ht h g,
    fun M i hi h => by
      rw [← det_zero k M hi]
      refine det_congr k fun a c _ hc => ?_
      unfold setRow
      split
      · next e => rw [e, h c hc]
      · rfl⟩

/-- The rows below m cleared with the row top. -/
def clearTo (R : Mat) (top : Nat) (g : Nat → Fq) (m : Nat) : Mat := fun i c => if i < m ∧ i ≠ top then R i c + g i * R top c else R i c
theorem clearTo_f {k : Nat} {f : Mat → Fq} (hf : RowFn k f) (R : Mat) {top : Nat} (g : Nat → Fq) (ht : top < k) : ∀ m, m ≤ k → f (clearTo R top g m) = f R
  | 0, _ => by congr 1
  | m + 1, hm => by
    by_cases e : m = top
    · have : clearTo R top g (m + 1) = clearTo R top g m := by
        funext i c
        unfold clearTo
        by_cases h : i < m ∧ i ≠ top
        · rw [if_pos h, if_pos ⟨by omega, h.2⟩]
        · rw [if_neg h, if_neg (fun h2 => h ⟨by omega, h2.2⟩)]
      rw [this, clearTo_f hf R g ht m (by omega)]
    · have : clearTo R top g (m + 1) = setRow (clearTo R top g m) m fun c => clearTo R top g m m c + g m * clearTo R top g m top c := by
        funext i c
        unfold setRow
        by_cases h : i = m
        · subst h
          rw [if_pos rfl]
          unfold clearTo
          rw [if_pos ⟨by omega, e⟩, if_neg (by omega), if_neg (by omega)]
        · rw [if_neg h]
          unfold clearTo
          by_cases h2 : i < m ∧ i ≠ top
          · rw [if_pos h2, if_pos ⟨by omega, h2.2⟩]
          · rw [if_neg h2, if_neg (fun h3 => h2 ⟨by omega, h3.2⟩)]
      rw [this, hf.addmul _ m top _ (by omega) ht e, clearTo_f hf R g ht m (by omega)]
theorem clear_f {k : Nat} {f : Mat → Fq} (hf : RowFn k f) (R : Mat) {top col : Nat} (ht : top < k) : f (clearR R top col) = Fq.inv (R top col) * f R := by
  have h1 := hf.scale R top (Fq.inv (R top col)) ht
  have h2 := clearTo_f hf (setRow R top fun c => Fq.inv (R top col) * R top c) (fun i => R i col) ht k (Nat.le_refl _)
  rw [← h1, ← h2]
  refine hf.congr fun i c hi hc => ?_
  unfold clearR clearTo setRow
  by_cases e : i = top
  · subst e; rw [if_pos rfl, if_neg (by omega), if_pos rfl]
  · rw [if_neg e, if_pos ⟨hi, e⟩, if_neg e, if_pos rfl]
theorem step_f {k : Nat} {f : Mat → Fq} (hf : RowFn k f) (s : EState) (col : Nat) : (stepE k s col).prod * f (stepE k s col).R = s.prod * f s.R := by
  unfold stepE
  rcases findP_cases s.R col k s.piv.length with ⟨h, _⟩ | ⟨i, h, h1, h2, h3⟩
  · rw [h]
  · rw [h]
    have e : swapR s.R s.piv.length i s.piv.length col = s.R i col := by unfold swapR; rw [if_pos rfl]
    show s.prod * s.R i col * f (clearR _ _ _) = _
    rw [clear_f hf _ (by omega), e, hf.swap _ _ _ (by omega) h2, Fq.mul_assoc, ← Fq.mul_assoc (s.R i col), Fq.mul_inv h3, Fq.one_mul]
theorem elim_f {k : Nat} {f : Mat → Fq} (hf : RowFn k f) (M : Mat) : ∀ col, (elimE k M col).prod * f (elimE k M col).R = f M
  | 0 => Fq.one_mul _
  | col + 1 => (step_f hf _ col).trans (elim_f hf M col)
/-- What elimination tells of such a function. -/
theorem elim_full {k : Nat} {f : Mat → Fq} (hf : RowFn k f) (M : Mat) (h : (elimE k M k).piv.length = k) : f M = (elimE k M k).prod * f idm := by
  rw [← elim_f hf M k]
  congr 1
  exact hf.congr fun i c hi hc => full_idm (ech_elim k M k) h hi hc
theorem elim_short {k : Nat} {f : Mat → Fq} (hf : RowFn k f) (M : Mat) (h : (elimE k M k).piv.length < k) : f M = 0 := by
  rw [← elim_f hf M k, hf.zero _ (elimE k M k).piv.length h fun c hc => (ech_elim k M k).zero _ c (Nat.le_refl _) h hc, Fq.mul_zero]
theorem prod_ne {n : Nat} (M : Mat) : ∀ col, (elimE n M col).prod ≠ 0
  | 0 => Fq.one_ne_zero
  | col + 1 => by
    show (stepE n _ col).prod ≠ 0
    unfold stepE
    rcases findP_cases (elimE n M col).R col n (elimE n M col).piv.length with ⟨h, _⟩ | ⟨i, h, h1, h2, h3⟩
    · rw [h]; exact prod_ne M col
    · rw [h]; exact Fq.mul_ne_zero (prod_ne M col) h3
/-- The determinant by elimination. -/
def detE (k : Nat) (M : Mat) : Fq := if (elimE k M k).piv.length < k then 0 else (elimE k M k).prod
theorem detE_eq (k : Nat) (M : Mat) : detE k M = det k M := by
  unfold detE
  have hle := (ech_elim k M k).len
  split
  · next h => rw [elim_short (det_rowFn k) M h]
  · next h => rw [elim_full (det_rowFn k) M (by omega), det_idm, Fq.mul_one]
theorem det_ne_zero (k : Nat) (M : Mat) : det k M ≠ 0 ↔ (elimE k M k).piv.length = k := by
  have hle := (ech_elim k M k).len
  rw [← detE_eq]
  unfold detE
  constructor
  · intro h
    by_cases h2 : (elimE k M k).piv.length < k
    · rw [if_pos h2] at h; exact absurd rfl h
    · omega
  · intro h
    rw [if_neg (by omega)]; exact prod_ne M k

theorem mul_rowFn (k : Nat) (B : Mat) : RowFn k (fun A => det k (mul k A B)) := by
  refine ⟨fun h => det_congr k fun i c hi _ => mul_congr (fun j hj => h i j hi hj) (fun _ _ => rfl), fun M i j hi hj => ?_, fun M i a hi => ?_, fun M i t g hi ht h => ?_, fun M i hi h => ?_⟩
  · rw [← det_swap k (mul k M B) hi hj]
    refine det_congr k fun x c _ _ => ?_
    unfold mul swapR
    by_cases h1 : x = i
    · simp only [if_pos h1]
    · by_cases h2 : x = j
      · simp only [if_neg h1, if_pos h2]
      · simp only [if_neg h1, if_neg h2]
  · show det k (mul k (setRow M i fun c => a * M i c) B) = a * det k (mul k M B)
    have h1 := (det_rowFn k).scale (mul k M B) i a hi
    rw [← h1]
    refine det_congr k fun x c _ _ => ?_
    unfold mul setRow
    by_cases h1 : x = i
    · simp only [if_pos h1]
      rw [Fq.mul_sum]
      exact Fq.sum_congr fun j _ => Fq.mul_assoc _ _ _
    · simp only [if_neg h1]
  · show det k (mul k (setRow M i fun c => M i c + g * M t c) B) = det k (mul k M B)
    rw [← det_addmul k (mul k M B) hi ht h g]
    refine det_congr k fun x c _ _ => ?_
    unfold mul setRow
    by_cases h1 : x = i
    · simp only [if_pos h1]
      rw [Fq.mul_sum, ← Fq.sum_add]
      exact Fq.sum_congr fun j _ => by rw [Fq.add_mul, Fq.mul_assoc]
    · simp only [if_neg h1]
  · exact (det_rowFn k).zero _ i hi fun c _ => Fq.sum_zeros fun j hj => by rw [h j hj, Fq.zero_mul]
theorem det_mul (k : Nat) (A B : Mat) : det k (mul k A B) = det k A * det k B := by
  have hle := (ech_elim k A k).len
  rcases Nat.lt_or_ge (elimE k A k).piv.length k with h | h
  · rw [elim_short (mul_rowFn k B) A h, elim_short (det_rowFn k) A h, Fq.zero_mul]
  · rw [elim_full (mul_rowFn k B) A (by omega), elim_full (det_rowFn k) A (by omega), det_idm, Fq.mul_one]
    congr 1
    exact det_congr k fun i c hi _ => idm_mul B hi
end Mat
