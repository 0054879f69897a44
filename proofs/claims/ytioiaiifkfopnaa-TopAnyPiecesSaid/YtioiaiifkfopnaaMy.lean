/- Elimination: inverses, solutions, kernels. No program in sight. -/
import Derived.Test.YtioiaiifkfopnaaMka
namespace Mat
open Fq (sum)
open Go.Proofs.Ytioiaiifkfopnaa

theorem sum_split (f : Nat → Fq) (n : Nat) : ∀ m, sum f (n + m) = sum f n + sum (fun i => f (n + i)) m
  | 0 => by rw [Nat.add_zero, Fq.sum_zero, Fq.add_zero]
  | m + 1 => by rw [← Nat.add_assoc, Fq.sum_succ, sum_split f n m, Fq.sum_succ, Fq.add_assoc]

theorem findP_congr {R S : Mat} {col n top : Nat} (h : ∀ i, R i col = S i col) : findP R col n top = findP S col n top := by
  unfold findP; simp only [h]
/-- Columns that are added stay out of the pivots. -/
theorem elim_aug (n k : Nat) (M M2 : Mat) : ∀ col, col ≤ k → (elimE n (aug k M M2) col).piv = (elimE n M col).piv ∧ ∀ i c, c < k → (elimE n (aug k M M2) col).R i c = (elimE n M col).R i c
  | 0, _ => ⟨rfl, fun i c hc => by show aug k M M2 i c = M i c; unfold aug; rw [if_pos hc]⟩
  | col + 1, h => by
    obtain ⟨h1, h2⟩ := elim_aug n k M M2 col (by omega)
    have e : findP (elimE n (aug k M M2) col).R col n (elimE n (aug k M M2) col).piv.length = findP (elimE n M col).R col n (elimE n M col).piv.length := by
      rw [h1]; exact findP_congr fun i => h2 i col (by omega)
    show (stepE n _ col).piv = (stepE n _ col).piv ∧ ∀ i c, c < k → (stepE n _ col).R i c = (stepE n _ col).R i c
    unfold stepE
    rw [e]
    cases hf : findP (elimE n M col).R col n (elimE n M col).piv.length with
    | none => exact ⟨h1, h2⟩
    | some f =>
      have hs : ∀ i c, c < k → swapR (elimE n (aug k M M2) col).R (elimE n (aug k M M2) col).piv.length f i c = swapR (elimE n M col).R (elimE n M col).piv.length f i c := by
        intro i c hc
        rw [h1]
        unfold swapR
        by_cases e1 : i = (elimE n M col).piv.length
        · rw [if_pos e1, if_pos e1]; exact h2 _ c hc
        · rw [if_neg e1, if_neg e1]
          by_cases e2 : i = f
          · rw [if_pos e2, if_pos e2]; exact h2 _ c hc
          · rw [if_neg e2, if_neg e2]; exact h2 _ c hc
      refine ⟨by show _ ++ [col] = _ ++ [col]; rw [h1], fun i c hc => ?_⟩
      show clearR _ _ col i c = clearR _ _ col i c
      unfold clearR
      rw [hs i c hc, hs _ c hc, hs _ col (by omega), hs i col (by omega), h1]

theorem ker_aug {n k k2 : Nat} {M M2 : Mat} {x : Nat → Fq} : Ker n (k + k2) (aug k M M2) x ↔ ∀ i, i < n → sum (fun c => M i c * x c) k + sum (fun c => M2 i c * x (k + c)) k2 = 0 := by
  unfold Ker
  refine forall_congr' fun i => imp_congr_right fun _ => ?_
  rw [sum_split]
  have h1 : sum (fun c => aug k M M2 i c * x c) k = sum (fun c => M i c * x c) k := Fq.sum_congr fun c hc => by unfold aug; rw [if_pos hc]
  have h2 : sum (fun c => aug k M M2 i (k + c) * x (k + c)) k2 = sum (fun c => M2 i c * x (k + c)) k2 := Fq.sum_congr fun c _ => by unfold aug; rw [if_neg (by omega), show k + c - k = c by omega]
  rw [h1, h2]

/-! ### The inverse -/
theorem inv_both {n : Nat} {f : Mat} (hl : (elimE n (aug n f idm) n).piv.length = n) :
    (∀ i j, i < n → j < n → mul n f (fun i c => (elimE n (aug n f idm) n).R i (n + c)) i j = idm i j) ∧ (∀ i j, i < n → j < n → mul n (fun i c => (elimE n (aug n f idm) n).R i (n + c)) f i j = idm i j) := by
  obtain ⟨s, hs⟩ : ∃ s, s = elimE n (aug n f idm) n := ⟨_, rfl⟩
  have hE : Ech n n s := by rw [hs]; exact ech_elim n _ n
  have hk : ∀ x, Ker n (n + n) s.R x ↔ Ker n (n + n) (aug n f idm) x := fun x => by rw [hs]; exact ker_elim n
  rw [← hs] at hl ⊢
  have hI : ∀ i c, i < n → c < n → s.R i c = idm i c := fun i c hi hc => full_idm hE hl hi hc
  have hks : ∀ x, Ker n (n + n) s.R x ↔ ∀ i, i < n → x i + sum (fun c => s.R i (n + c) * x (n + c)) n = 0 := by
    intro x
    unfold Ker
    refine forall_congr' fun i => imp_congr_right fun hi => ?_
    rw [sum_split]
    have : sum (fun c => s.R i c * x c) n = x i := by
      rw [Fq.sum_congr (g := fun c => idm i c * x c) fun c hc => by rw [hI i c hi hc]]
      rw [Fq.sum_one _ hi fun c _ hne => by unfold idm; rw [if_neg (fun e => hne e.symm), Fq.zero_mul]]
      unfold idm; rw [if_pos rfl, Fq.one_mul]
    rw [this]
  have hs1 : ∀ (g : Nat → Fq) (j : Nat), j < n → sum (fun c => g c * idm c j) n = g j := by
    intro g j hj
    rw [Fq.sum_one _ hj fun c _ hne => by unfold idm; rw [if_neg hne, Fq.mul_zero]]
    unfold idm; rw [if_pos rfl, Fq.mul_one]
  have hs2 : ∀ (g : Nat → Fq) (i : Nat), i < n → sum (fun c => idm i c * g c) n = g i := by
    intro g i hi
    rw [Fq.sum_one _ hi fun c _ hne => by unfold idm; rw [if_neg (fun e => hne e.symm), Fq.zero_mul]]
    unfold idm; rw [if_pos rfl, Fq.one_mul]
  constructor
  · intro i j hi hj
    have h1 := (hks fun c => if c < n then s.R c (n + j) else idm (c - n) j).2 fun i hi => by
      rw [if_pos hi]
      rw [Fq.sum_congr (g := fun c => s.R i (n + c) * idm c j) fun c _ => by rw [if_neg (by omega), show n + c - n = c by omega]]
      rw [hs1 (fun c => s.R i (n + c)) j hj, Fq.add_self]
    have h2 := ker_aug.1 ((hk _).1 h1) i hi
    rw [Fq.sum_congr (g := fun c => f i c * s.R c (n + j)) fun c hc => by rw [if_pos hc]] at h2
    rw [Fq.sum_congr (f := fun c => idm i c * _) (g := fun c => idm i c * idm c j) fun c _ => by rw [if_neg (by omega), show n + c - n = c by omega]] at h2
    rw [hs2 (fun c => idm c j) i hi] at h2
    exact Fq.add_eq_zero.1 h2
  · intro i j hi hj
    have h1 := (hk fun c => if c < n then idm c j else f (c - n) j).2 (ker_aug.2 fun i hi => by
      rw [Fq.sum_congr (g := fun c => f i c * idm c j) fun c hc => by rw [if_pos hc]]
      rw [Fq.sum_congr (f := fun c => idm i c * _) (g := fun c => idm i c * f c j) fun c _ => by rw [if_neg (by omega), show n + c - n = c by omega]]
      rw [hs1 (f i) j hj, hs2 (fun c => f c j) i hi, Fq.add_self])
    have h2 := (hks _).1 h1 i hi
    rw [if_pos hi] at h2
    rw [Fq.sum_congr (g := fun c => s.R i (n + c) * f c j) fun c _ => by rw [if_neg (by omega), show n + c - n = c by omega]] at h2
    exact (Fq.add_eq_zero.1 h2).symm
theorem aug_len (n : Nat) (f : Mat) (M2 : Mat) (k : Nat) : (elimE n (aug k f M2) k).piv = (elimE n f k).piv := (elim_aug n k f M2 k (Nat.le_refl _)).1
theorem det_inv (n : Nat) (f : Mat) : det n f ≠ 0 ↔ (elimE n (aug n f idm) n).piv.length = n := by rw [aug_len]; exact det_ne_zero n f

/-! ### Solutions -/
theorem solV_pivot {n cols : Nat} {s : EState} (h : Ech n cols s) {k t p : Nat} (hp : s.piv[t]? = some p) : ∀ T, t < T → solV s k T p = s.R t k
  | 0, hT => by omega
  | T + 1, hT => by
    unfold solV
    by_cases e : s.piv[T]? = some p
    · rw [if_pos e, piv_inj h e hp]
    · rw [if_neg e]
      exact solV_pivot h hp T (by rcases Nat.lt_or_ge t T with h1 | h1; exact h1; exact absurd (by rw [show T = t by omega]; exact hp) e)
theorem solV_free {s : EState} {k c : Nat} (hc : c ∉ s.piv) : ∀ T, solV s k T c = 0
  | 0 => rfl
  | T + 1 => by
    unfold solV
    rw [if_neg (fun e => hc (List.mem_of_getElem? e))]
    exact solV_free hc T
/-- A row of the reduced form against a vector that is 0 in the free columns. -/
theorem row_pivots {n k : Nat} {s : EState} (h : Ech n k s) {i : Nat} (hi : i < n) {x : Nat → Fq} (hx : ∀ c, c < k → c ∉ s.piv → x c = 0) :
    sum (fun c => s.R i c * x c) k = match s.piv[i]? with | some p => x p | none => 0 := by
  cases hp : s.piv[i]? with
  | some p =>
    have hpk := h.lt p (List.mem_of_getElem? hp)
    show _ = x p
    rw [Fq.sum_one _ hpk fun c hc hne => ?_]
    · rw [h.unit i p i hp hi, if_pos rfl, Fq.one_mul]
    · by_cases hm : c ∈ s.piv
      · obtain ⟨t, ht⟩ := List.mem_iff_getElem?.1 hm
        rw [h.unit t c i ht hi, if_neg (fun e => hne (by subst e; rw [hp] at ht; cases ht; rfl)), Fq.zero_mul]
      · rw [hx c hc hm, Fq.mul_zero]
  | none =>
    refine Fq.sum_zeros fun c hc => ?_
    have : s.piv.length ≤ i := by rw [List.getElem?_eq_none_iff] at hp; exact hp
    rw [h.zero i c this hi hc, Fq.zero_mul]
theorem sol_solves {n k : Nat} {f : Mat} {v : List Nat} (hz : ∀ i, (elimE n (aug k f (colM v)) k).piv.length ≤ i → i < n → (elimE n (aug k f (colM v)) k).R i k = 0) {i : Nat} (hi : i < n) :
    sum (fun c => f i c * solV (elimE n (aug k f (colM v)) k) k (elimE n (aug k f (colM v)) k).piv.length c) k = Fq.of (v.getD i 0) := by
  obtain ⟨s, hs⟩ : ∃ s, s = elimE n (aug k f (colM v)) k := ⟨_, rfl⟩
  have hE : Ech n k s := by rw [hs]; exact ech_elim n _ k
  have hk : ∀ x, Ker n (k + 1) s.R x ↔ Ker n (k + 1) (aug k f (colM v)) x := fun x => by rw [hs]; exact ker_elim k
  rw [← hs] at hz ⊢
  obtain ⟨y, hy⟩ : ∃ y : Nat → Fq, y = fun c => if c < k then solV s k s.piv.length c else 1 := ⟨_, rfl⟩
  have y1 : ∀ c, c < k → y c = solV s k s.piv.length c := fun c hc => by rw [hy]; exact if_pos hc
  have y2 : y k = 1 := by rw [hy]; exact if_neg (Nat.lt_irrefl _)
  have h1 : Ker n (k + 1) s.R y := by
    intro i hi
    rw [Fq.sum_succ, y2, Fq.mul_one, Fq.sum_congr fun c hc => by rw [y1 c hc]]
    rw [row_pivots hE hi fun c _ hc => solV_free hc _]
    cases hp : s.piv[i]? with
    | some p =>
      show solV s k s.piv.length p + _ = 0
      rw [solV_pivot hE hp _ (List.getElem?_eq_some_iff.1 hp).1, Fq.add_self]
    | none =>
      show 0 + _ = 0
      rw [hz i (by rw [List.getElem?_eq_none_iff] at hp; exact hp) hi, Fq.add_zero]
  have h2 := ker_aug.1 ((hk _).1 h1) i hi
  rw [Fq.sum_congr fun c hc => by rw [y1 c hc]] at h2
  have h3 : sum (fun c => colM v i c * y (k + c)) 1 = Fq.of (v.getD i 0) := by
    rw [Fq.sum_succ, Fq.sum_zero, Fq.zero_add, Nat.add_zero, y2, Fq.mul_one]; rfl
  rw [h3] at h2
  exact Fq.add_eq_zero.1 h2
/-- The rank behind one more column. -/
theorem rank_more (n k : Nat) (f : Mat) (v : List Nat) : (elimE n (aug k f (colM v)) (k + 1)).piv.length = (elimE n f k).piv.length ↔ ∀ i, (elimE n (aug k f (colM v)) k).piv.length ≤ i → i < n → (elimE n (aug k f (colM v)) k).R i k = 0 := by
  show (stepE n _ k).piv.length = _ ↔ _
  rw [← aug_len n f (colM v) k]
  unfold stepE
  rcases findP_cases (elimE n (aug k f (colM v)) k).R k n (elimE n (aug k f (colM v)) k).piv.length with ⟨h, h1⟩ | ⟨p, h, h1, h2, h3⟩
  · rw [h]
    exact ⟨fun _ => h1, fun _ => rfl⟩
  · rw [h]
    constructor
    · intro e
      exfalso
      have e2 : ((elimE n (aug k f (colM v)) k).piv ++ [k]).length = (elimE n (aug k f (colM v)) k).piv.length := e
      rw [List.length_append] at e2
      simp at e2
    · intro hz
      exact absurd (hz p h1 h2) h3

/-! ### Kernels -/
theorem kerV_pivot {n cols : Nat} {s : EState} (h : Ech n cols s) {col t p : Nat} (hp : s.piv[t]? = some p) : ∀ T, t < T → kerV s col T p = s.R t col
  | 0, hT => by omega
  | T + 1, hT => by
    unfold kerV
    by_cases e : s.piv[T]? = some p
    · rw [if_pos e, piv_inj h e hp]
    · rw [if_neg e]
      exact kerV_pivot h hp T (by rcases Nat.lt_or_ge t T with h1 | h1; exact h1; exact absurd (by rw [show T = t by omega]; exact hp) e)
theorem kerV_free {s : EState} {col c : Nat} (hc : c ∉ s.piv) : ∀ T, kerV s col T c = if c = col then 1 else 0
  | 0 => rfl
  | T + 1 => by
    unfold kerV
    rw [if_neg (fun e => hc (List.mem_of_getElem? e))]
    exact kerV_free hc T
theorem ker_vanish {n k : Nat} {f : Mat} {col : Nat} (hc : col < k) (hf : col ∉ (elimE n f k).piv) : Ker n k f (kerV (elimE n f k) col (elimE n f k).piv.length) := by
  obtain ⟨s, hs⟩ : ∃ s, s = elimE n f k := ⟨_, rfl⟩
  have hE : Ech n k s := by rw [hs]; exact ech_elim n _ k
  refine (ker_elim (n := n) (W := k) (M := f) k).1 ?_
  rw [← hs] at hf ⊢
  intro i hi
  obtain ⟨y, hy⟩ : ∃ y : Nat → Fq, y = fun c => kerV s col s.piv.length c + if c = col then 1 else 0 := ⟨_, rfl⟩
  have h0 : ∀ c, kerV s col s.piv.length c = y c + if c = col then 1 else 0 := fun c => by rw [hy]; exact (Fq.add_add_cancel _ _).symm
  have h1 : sum (fun c => s.R i c * kerV s col s.piv.length c) k = sum (fun c => s.R i c * y c) k + sum (fun c => s.R i c * if c = col then 1 else 0) k := by
    rw [← Fq.sum_add]
    exact Fq.sum_congr fun c _ => by rw [h0 c, Fq.mul_add]
  have h2 : sum (fun c => s.R i c * if c = col then (1 : Fq) else 0) k = s.R i col := by
    rw [Fq.sum_one _ hc fun c _ hne => by rw [if_neg hne, Fq.mul_zero], if_pos rfl, Fq.mul_one]
  rw [h1, h2, row_pivots hE hi fun c _ hm => by rw [hy]; show kerV s col _ c + _ = 0; rw [kerV_free hm, Fq.add_self]]
  cases hp : s.piv[i]? with
  | some p =>
    show y p + _ = 0
    rw [hy]
    show kerV s col _ p + (if p = col then (1 : Fq) else 0) + _ = 0
    rw [if_neg (fun e => hf (by rw [← e]; exact List.mem_of_getElem? hp)), Fq.add_zero, kerV_pivot hE hp _ (List.getElem?_eq_some_iff.1 hp).1, Fq.add_self]
  | none =>
    show 0 + _ = 0
    rw [hE.zero i col (by rw [List.getElem?_eq_none_iff] at hp; exact hp) hi hc, Fq.add_zero]
theorem all_mem_le : ∀ (n : Nat) (l : List Nat), (∀ c, c < n → c ∈ l) → n ≤ l.length
  | 0, _, _ => Nat.zero_le _
  | n + 1, l, h => by
    have hm := h n (by omega)
    have h1 := all_mem_le n (l.erase n) fun c hc => (List.mem_erase_of_ne (by omega)).2 (h c (by omega))
    rw [List.length_erase_of_mem hm] at h1
    have := List.length_pos_of_mem hm
    omega
/-- A trivial kernel: as many pivots as columns. -/
theorem full_of_ker {n : Nat} {f : Mat} (h : ∀ x : Nat → Fq, Ker n n f x → ∀ c, c < n → x c = 0) : (elimE n f n).piv.length = n := by
  have hle := (ech_elim n f n).len
  rcases Nat.lt_or_ge (elimE n f n).piv.length n with hlt | hge
  · exfalso
    have hex : ∃ c, c < n ∧ c ∉ (elimE n f n).piv := by
      apply Classical.byContradiction
      intro hno
      have := all_mem_le n (elimE n f n).piv fun c hc => Classical.byContradiction fun hm => hno ⟨c, hc, hm⟩
      omega
    obtain ⟨c, hc, hm⟩ := hex
    have := h _ (ker_vanish hc hm) c hc
    rw [kerV_free hm, if_pos rfl] at this
    exact Fq.one_ne_zero this
  · omega
end Mat
