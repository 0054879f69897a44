/- Determinants over the field of 256 elements: the expansion along the first row is linear in each row and alternating. -/
import Derived.Test.YtioiaiifkfopnaaF
/-- A matrix: its elements by row and column. -/
abbrev Mat := Nat → Nat → Fq
namespace Mat
open Fq (sum)

def skip (c j : Nat) : Nat := if j < c then j else j + 1
def minor (c : Nat) (M : Mat) : Mat := fun i j => M (i + 1) (skip c j)
def det : Nat → Mat → Fq
  | 0, _ => 1
  | k + 1, M => sum (fun c => M 0 c * det k (minor c M)) (k + 1)

theorem skip_lt {c j k : Nat} (hj : j < k) : skip c j < k + 1 := by unfold skip; split <;> omega

theorem det_congr : ∀ (k : Nat) {M N : Mat}, (∀ i c, i < k → c < k → M i c = N i c) → det k M = det k N
  | 0, _, _, _ => rfl
  | k + 1, M, N, h => Fq.sum_congr fun c hc => by
    show M 0 c * det k (minor c M) = N 0 c * det k (minor c N)
    rw [h 0 c (by omega) hc, det_congr k (M := minor c M) (N := minor c N) fun i j hi hj => h (i + 1) (skip c j) (by omega) (skip_lt hj)]

/-- Row i replaced. -/
def setRow (M : Mat) (i : Nat) (u : Nat → Fq) : Mat := fun k => if k = i then u else M k
theorem setRow_same (M : Mat) (i : Nat) (u : Nat → Fq) : setRow M i u i = u := if_pos rfl
theorem setRow_other (M : Mat) {i k : Nat} (u : Nat → Fq) (h : k ≠ i) : setRow M i u k = M k := if_neg h
theorem setRow_self (M : Mat) (i : Nat) : setRow M i (M i) = M := funext fun k => by
  unfold setRow; split
  · next h => rw [h]
  · rfl
theorem setRow_comm (M : Mat) {i j : Nat} (u v : Nat → Fq) (h : i ≠ j) : setRow (setRow M i u) j v = setRow (setRow M j v) i u := funext fun k => by
  unfold setRow
  by_cases h1 : k = j
  · rw [if_pos h1, if_neg (by omega), if_pos h1]
  · rw [if_neg h1]
    by_cases h2 : k = i
    · rw [if_pos h2, if_pos h2]
    · rw [if_neg h2, if_neg h2, if_neg h1]
theorem setRow_twice (M : Mat) (i : Nat) (u v : Nat → Fq) : setRow (setRow M i u) i v = setRow M i v := funext fun k => by
  unfold setRow; split <;> rfl
theorem minor_setRow_zero (c : Nat) (M : Mat) (u : Nat → Fq) : minor c (setRow M 0 u) = minor c M := by
  funext i j
  unfold minor setRow
  rw [if_neg (by omega)]
theorem minor_setRow_succ (c : Nat) (M : Mat) (i : Nat) (u : Nat → Fq) : minor c (setRow M (i + 1) u) = setRow (minor c M) i (fun j => u (skip c j)) := by
  funext k j
  unfold minor setRow
  by_cases h : k = i
  · rw [if_pos (by omega), if_pos h]
  · rw [if_neg (by omega), if_neg h]

theorem det_lin : ∀ (k : Nat) (M : Mat) (i : Nat), i < k → ∀ (a b : Fq) (u v : Nat → Fq), det k (setRow M i fun c => a * u c + b * v c) = a * det k (setRow M i u) + b * det k (setRow M i v)
  | 0, _, _, h, _, _, _, _ => by omega
  | k + 1, M, 0, _, a, b, u, v => by
    simp only [det, minor_setRow_zero, setRow_same]
    rw [Fq.mul_sum, Fq.mul_sum, ← Fq.sum_add]
    exact Fq.sum_congr fun c _ => by rw [Fq.add_mul, Fq.mul_assoc, Fq.mul_assoc]
  | k + 1, M, i + 1, h, a, b, u, v => by
    simp only [det, minor_setRow_succ, setRow_other M _ (show 0 ≠ i + 1 by omega)]
    rw [Fq.mul_sum, Fq.mul_sum, ← Fq.sum_add]
    refine Fq.sum_congr fun c _ => ?_
    rw [det_lin k (minor c M) i (by omega) a b (fun j => u (skip c j)) (fun j => v (skip c j)), Fq.mul_add]
    congr 1 <;> ac_rfl

theorem det_add (k : Nat) (M : Mat) {i : Nat} (hi : i < k) (u v : Nat → Fq) : det k (setRow M i fun c => u c + v c) = det k (setRow M i u) + det k (setRow M i v) := by
  have := det_lin k M i hi 1 1 u v
  simpa only [Fq.one_mul] using this
theorem det_scale (k : Nat) (M : Mat) {i : Nat} (hi : i < k) (a : Fq) (u : Nat → Fq) : det k (setRow M i fun c => a * u c) = a * det k (setRow M i u) := by
  have := det_lin k M i hi a 0 u u
  simpa only [Fq.zero_mul, Fq.add_zero] using this
theorem det_zero (k : Nat) (M : Mat) {i : Nat} (hi : i < k) : det k (setRow M i fun _ => 0) = 0 := by
  have := det_scale k M hi 0 (fun _ => 0)
  simpa only [Fq.zero_mul] using this

theorem sum_skip (g : Nat → Fq) {c : Nat} : ∀ {n : Nat}, c ≤ n → sum (fun d => g (skip c d)) n + g c = sum g (n + 1) := by
  intro n
  induction n with
  | zero => intro h; have : c = 0 := by omega
            subst this; rfl
  | succ n ih =>
    intro h
    by_cases e : c = n + 1
    · subst e
      rw [Fq.sum_succ _ (n + 1)]
      congr 1
      exact Fq.sum_congr fun d hd => by rw [show skip (n + 1) d = d from if_pos hd]
    · rw [Fq.sum_succ, Fq.sum_succ _ (n + 1), ← ih (by omega), show skip c n = n + 1 from if_neg (by omega)]
      ac_rfl

theorem sum_symm (A : Nat → Nat → Fq) : ∀ n, (∀ c e, c < n → e < n → A c e = A e c) → sum (fun c => sum (A c) n) n = sum (fun c => A c c) n := by
  intro n
  induction n with
  | zero => intro _; rfl
  | succ n ih =>
    intro h
    have h1 : sum (fun c => sum (A c) (n + 1)) n = sum (fun c => sum (A c) n) n + sum (fun c => A c n) n := by
      rw [← Fq.sum_add]; rfl
    have h2 : sum (fun c => A c n) n = sum (A n) n := Fq.sum_congr fun c hc => h c n (by omega) (by omega)
    rw [Fq.sum_succ, h1, Fq.sum_succ, Fq.sum_succ, ih fun c e hc he => h c e (by omega) (by omega), h2]
    have : sum (fun c => A c c) n + sum (A n) n + (sum (A n) n + A n n) = sum (fun c => A c c) n + A n n + (sum (A n) n + sum (A n) n) := by ac_rfl
    rw [this, Fq.add_self, Fq.add_zero]

theorem skip_skip {c d : Nat} (j : Nat) (h : c < d) : skip c (skip (d - 1) j) = skip d (skip c j) := by
  unfold skip; (repeat' split) <;> omega

/-- Two equal rows at the top. -/
theorem det_two (k : Nat) (M : Mat) (h : M 0 = M 1) : det (k + 2) M = 0 := by
  obtain ⟨F, hF⟩ : ∃ F : Nat → Nat → Fq, F = fun c d => det k (minor d (minor c M)) := ⟨_, rfl⟩
  have hsym : ∀ c d, c < d → F c (d - 1) = F d c := by
    intro c d hcd
    rw [hF]
    exact det_congr k fun i j _ _ => by
      show M (i + 1 + 1) (skip c (skip (d - 1) j)) = M (i + 1 + 1) (skip d (skip c j))
      rw [skip_skip j hcd]
  obtain ⟨A, hA⟩ : ∃ A : Nat → Nat → Fq, A = fun c e => M 0 c * (M 0 e * (if e < c then F c e else F c (e - 1))) := ⟨_, rfl⟩
  have hAs : ∀ c e, A c e = A e c := by
    intro c e
    rw [hA]
    show M 0 c * (M 0 e * _) = M 0 e * (M 0 c * _)
    rcases Nat.lt_trichotomy c e with hl | hl | hl
    · rw [if_neg (by omega), if_pos hl, hsym c e hl, Fq.mul_left_comm]
    · subst hl; rfl
    · rw [if_pos hl, if_neg (by omega), hsym e c hl, Fq.mul_left_comm]
  have hin : ∀ c, c < k + 2 → M 0 c * det (k + 1) (minor c M) = sum (A c) (k + 2) + A c c := by
    intro c hc
    have hs := sum_skip (fun e => M 0 e * (if e < c then F c e else F c (e - 1))) (c := c) (n := k + 1) (by omega)
    have he : det (k + 1) (minor c M) = sum (fun d => (fun e => M 0 e * (if e < c then F c e else F c (e - 1))) (skip c d)) (k + 1) := by
      refine Fq.sum_congr fun d _ => ?_
      show M 1 (skip c d) * det k (minor d (minor c M)) = M 0 (skip c d) * _
      rw [← h]
      congr 1
      rw [hF]
      unfold skip
      by_cases hd : d < c
      · rw [if_pos hd, if_pos hd]
      · rw [if_neg hd, if_neg (by omega)]; rfl
    rw [he, Fq.eq_add_of hs, Fq.mul_add, Fq.mul_sum, hA]
  show sum (fun c => M 0 c * det (k + 1) (minor c M)) (k + 2) = 0
  rw [Fq.sum_congr hin, Fq.sum_add, sum_symm A _ fun c e _ _ => hAs c e, Fq.add_self]

/-- Rows i and j exchanged. -/
def swapR (M : Mat) (i j : Nat) : Mat := fun k => if k = i then M j else if k = j then M i else M k
theorem swapR_self (M : Mat) (i : Nat) : swapR M i i = M := funext fun k => by
  unfold swapR
  by_cases h : k = i
  · rw [if_pos h, h]
  · rw [if_neg h, if_neg h]
theorem swapR_comm (M : Mat) (i j : Nat) : swapR M i j = swapR M j i := funext fun k => by
  unfold swapR
  by_cases h1 : k = i
  · by_cases h2 : k = j
    · rw [if_pos h1, if_pos h2, ← h1, ← h2]
    · rw [if_pos h1, if_neg h2, if_pos h1]
  · by_cases h2 : k = j
    · rw [if_neg h1, if_pos h2, if_pos h2]
    · rw [if_neg h1, if_neg h2, if_neg h2, if_neg h1]
theorem swapR_set (M : Mat) {i j : Nat} (h : i ≠ j) : swapR M i j = setRow (setRow M i (M j)) j (M i) := funext fun k => by
  unfold swapR setRow
  by_cases h1 : k = i
  · rw [if_pos h1, if_neg (by omega), if_pos h1]
  · rw [if_neg h1]
    by_cases h2 : k = j
    · rw [if_pos h2, if_pos h2]
    · rw [if_neg h2, if_neg h2, if_neg h1]

theorem swap_of (k : Nat) (S : ∀ (M : Mat) (i j : Nat), i < j → j < k → M i = M j → det k M = 0) (M : Mat) {i j : Nat} (hij : i < j) (hj : j < k) : det k (swapR M i j) = det k M := by
  have h0 := S (setRow (setRow M i fun c => M i c + M j c) j fun c => M i c + M j c) i j hij hj (by rw [setRow_other _ _ (by omega), setRow_same, setRow_same])
  rw [det_add k _ hj, setRow_comm M _ (M i) (by omega), setRow_comm M _ (M j) (by omega), det_add k _ (by omega), det_add k _ (by omega)] at h0
  have e1 : det k (setRow (setRow M j (M i)) i (M i)) = 0 := S _ i j hij hj (by rw [setRow_same, setRow_other _ _ (by omega), setRow_same])
  have e2 : det k (setRow (setRow M j (M j)) i (M j)) = 0 := S _ i j hij hj (by rw [setRow_same, setRow_other _ _ (by omega), setRow_same])
  rw [e1, e2, Fq.zero_add, Fq.add_zero, setRow_self, setRow_self] at h0
  rw [swapR_set M (by omega), setRow_comm M _ _ (by omega)]
  exact Fq.add_eq_zero.1 h0

theorem det_alt : ∀ (k : Nat) (M : Mat) (i j : Nat), i < j → j < k → M i = M j → det k M = 0
  | 0, _, _, _, _, h, _ => by omega
  | k + 1, M, i + 1, j, hij, hj, h => Fq.sum_zeros fun c _ => by
    rw [det_alt k (minor c M) i (j - 1) (by omega) (by omega) ?_, Fq.mul_zero]
    funext x
    show M (i + 1) _ = M (j - 1 + 1) _
    rw [show j - 1 + 1 = j from by omega, h]
  | 1, M, 0, j, hij, hj, h => by omega
  | k + 2, M, 0, j, hij, hj, h => by
    by_cases e : j = 1
    · subst e; exact det_two k M h
    · have hs : det (k + 2) (swapR M 1 j) = det (k + 2) M := by
        refine Fq.sum_congr fun c _ => ?_
        have h1 : swapR M 1 j 0 = M 0 := by unfold swapR; rw [if_neg (by omega), if_neg (by omega)]
        have h2 : minor c (swapR M 1 j) = swapR (minor c M) 0 (j - 1) := by
          funext a x
          unfold minor swapR
          by_cases h1 : a = 0
          · rw [if_pos (by omega), if_pos h1]
            show M j (skip c x) = M (j - 1 + 1) (skip c x)
            rw [show j - 1 + 1 = j from by omega]
          · rw [if_neg (by omega), if_neg h1]
            by_cases h2 : a = j - 1
            · rw [if_pos (by omega), if_pos h2]
            · rw [if_neg (by omega), if_neg h2]
        rw [h1, h2, swap_of (k + 1) (det_alt (k + 1)) (minor c M) (by omega) (by omega)]
      rw [← hs]
      refine det_two k _ ?_
      unfold swapR
      rw [if_neg (by omega), if_neg (by omega), if_pos rfl, h]

theorem det_swap (k : Nat) (M : Mat) {i j : Nat} (hi : i < k) (hj : j < k) : det k (swapR M i j) = det k M := by
  rcases Nat.lt_trichotomy i j with h | h | h
  · exact swap_of k (det_alt k) M h hj
  · rw [h, swapR_self]
  · rw [swapR_comm]; exact swap_of k (det_alt k) M h hi

theorem det_addmul (k : Nat) (M : Mat) {i t : Nat} (hi : i < k) (ht : t < k) (h : i ≠ t) (g : Fq) : det k (setRow M i fun c => M i c + g * M t c) = det k M := by
  have := det_lin k M i hi 1 g (M i) (M t)
  simp only [Fq.one_mul] at this
  rw [this, setRow_self]
  have e : det k (setRow M i (M t)) = 0 := by
    rcases Nat.lt_or_gt_of_ne h with hl | hl
    · exact det_alt k _ i t hl ht (by rw [setRow_same, setRow_other _ _ (by omega)])
    · exact det_alt k _ t i hl hi (by rw [setRow_same, setRow_other _ _ (by omega)])
  rw [e, Fq.mul_zero, Fq.add_zero]

def idm : Mat := fun i c => if i = c then 1 else 0
theorem det_idm : ∀ k, det k idm = 1
  | 0 => rfl
  | k + 1 => by
    have h : det (k + 1) idm = idm 0 0 * det k (minor 0 idm) := Fq.sum_one _ (by omega) fun c _ hc => by
      show (if 0 = c then (1 : Fq) else 0) * _ = 0
      rw [if_neg (by omega), Fq.zero_mul]
    rw [h, show minor 0 idm = idm from ?_, det_idm k]
    · exact Fq.mul_one _
    · funext i j
      show (if i + 1 = skip 0 j then (1 : Fq) else 0) = if i = j then 1 else 0
      rw [show skip 0 j = j + 1 from if_neg (by omega)]
      by_cases e : i = j
      · rw [if_pos e, if_pos (by omega)]
      · rw [if_neg e, if_neg (by omega)]

/-- The product, over n columns of A. -/
def mul (n : Nat) (A B : Mat) : Mat := fun i c => sum (fun j => A i j * B j c) n
theorem mul_assoc (m n : Nat) (A B C : Mat) (i c : Nat) : mul n (mul m A B) C i c = mul m A (mul n B C) i c := by
  unfold mul
  have h1 : sum (fun j => sum (fun l => A i l * B l j) m * C j c) n = sum (fun j => sum (fun l => A i l * (B l j * C j c)) m) n :=
    Fq.sum_congr fun j _ => by rw [Fq.sum_mul]; exact Fq.sum_congr fun l _ => Fq.mul_assoc _ _ _
  rw [h1, Fq.sum_comm]
  exact Fq.sum_congr fun l _ => (Fq.mul_sum _ _ _).symm
theorem mul_congr {n : Nat} {A B C D : Mat} {i c : Nat} (h1 : ∀ j, j < n → A i j = C i j) (h2 : ∀ j, j < n → B j c = D j c) : mul n A B i c = mul n C D i c :=
  Fq.sum_congr fun j hj => by rw [h1 j hj, h2 j hj]
theorem mul_idm {n : Nat} (A : Mat) {i c : Nat} (hc : c < n) : mul n A idm i c = A i c := by
  unfold mul idm
  rw [Fq.sum_one _ hc fun j _ hne => by rw [if_neg hne, Fq.mul_zero], if_pos rfl, Fq.mul_one]
theorem idm_mul {n : Nat} (A : Mat) {i c : Nat} (hi : i < n) : mul n idm A i c = A i c := by
  unfold mul idm
  rw [Fq.sum_one _ hi fun j _ hne => by rw [if_neg (fun e => hne e.symm), Fq.zero_mul], if_pos rfl, Fq.one_mul]
end Mat
