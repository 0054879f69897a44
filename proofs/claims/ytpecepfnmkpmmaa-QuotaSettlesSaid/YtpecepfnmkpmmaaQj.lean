/- Cycles of a table, plain: what the first cycle is; a table after a cycle was cancelled. -/
import Derived.Test.YtpecepfnmkpmmaaQi
namespace Quo
def nxt (c : List Nat) (i : Nat) : Nat := c.getD ((i + 1) % c.length) 0
def elC (c : List Nat) (i : Nat) : Nat := c.getD i 0
/-- The least number of the first arcs of a cycle. -/
def leastF (T : Tab) (c : List Nat) : Nat → Int
  | 0 => maxC
  | j + 1 => min (leastF T c j) (at2 T (elC c j) (nxt c j))
def put2 (T : Tab) (i j : Nat) (x : Int) : Tab := T.set i ((T.getD i []).set j x)
def cutF (T : Tab) (c : List Nat) (x : Int) : Nat → Tab
  | 0 => T
  | j + 1 => put2 (cutF T c x j) (elC c j) (nxt c j) (at2 (cutF T c x j) (elC c j) (nxt c j) - x)
def cutC (T : Tab) (c : List Nat) : Tab := cutF T c (leastF T c c.length) c.length
inductive Canc : Tab → Tab → Prop
  | done {T : Tab} : cycF T = none → Canc T T
  | step {T T' : Tab} {c : List Nat} : cycF T = some c → Canc (cutC T c) T' → Canc T T'
theorem Canc.unique {T A : Tab} (h : Canc T A) : ∀ {B : Tab}, Canc T B → A = B := by
  induction h with
  | done h =>
    intro B hB
    cases hB with
    | done _ => rfl
    | step h2 _ => rw [h] at h2; cases h2
  | step h _ ih =>
    intro B hB
    cases hB with
    | done h2 => rw [h] at h2; cases h2
    | step h2 h3 => rw [h] at h2; cases h2; exact ih h3

/-- A cycle of a table. -/
structure IsCyc (T : Tab) (c : List Nat) : Prop where
  two : 2 ≤ c.length
  nodup : c.Nodup
  lt : ∀ d ∈ c, d < T.length
  arc : ∀ i, i < c.length → at2 T (elC c i) (nxt c i) ≠ 0
theorem elC_some {c : List Nat} {i : Nat} (h : i < c.length) : c[i]? = some (elC c i) := get_some h 0
theorem elC_mem {c : List Nat} {i : Nat} (h : i < c.length) : elC c i ∈ c := List.mem_of_getElem? (elC_some h)
theorem nxt_mem {c : List Nat} {i : Nat} (h : i < c.length) : nxt c i ∈ c := elC_mem (Nat.mod_lt _ (by omega))
theorem elC_inj {c : List Nat} (hn : c.Nodup) {i j : Nat} (hi : i < c.length) (hj : j < c.length) (h : elC c i = elC c j) : i = j := by
  have h1 := List.getElem?_eq_some_iff.1 (elC_some hi)
  have h2 := List.getElem?_eq_some_iff.1 (elC_some hj)
  obtain ⟨_, h1⟩ := h1
  obtain ⟨_, h2⟩ := h2
  exact (List.getElem_inj hn).1 (by rw [h1, h2, h])
theorem elC_append {p : List Nat} {d i : Nat} (h : i < p.length) : elC (p ++ [d]) i = elC p i := by
  unfold elC
  rw [List.getD_eq_getElem?_getD, List.getElem?_append_left h, ← List.getD_eq_getElem?_getD]
theorem elC_last (p : List Nat) (d : Nat) : elC (p ++ [d]) p.length = d := by
  unfold elC
  rw [List.getD_eq_getElem?_getD, List.getElem?_append_right (Nat.le_refl _), Nat.sub_self]; rfl
theorem getLastD_el {p : List Nat} (h : p ≠ []) : p.getLastD 0 = elC p (p.length - 1) := by
  have hl := List.length_pos_iff.2 h
  rw [List.getLastD_eq_getLast?, List.getLast?_eq_getElem?]
  unfold elC
  rw [List.getD_eq_getElem?_getD]
theorem headD_el (p : List Nat) : p.headD 0 = elC p 0 := by cases p <;> rfl
/-- What a cycle that is found looks like. -/
theorem ext_is {T : Tab} (k : Nat) : ∀ {p q : List Nat}, ext T k p = some q → p ≠ [] → p.Nodup → (∀ d ∈ p, d < T.length) → (∀ i, i + 1 < p.length → at2 T (elC p i) (elC p (i + 1)) ≠ 0) →
    q.length = p.length + k ∧ q.Nodup ∧ (∀ d ∈ q, d < T.length) ∧ (∀ i, i + 1 < q.length → at2 T (elC q i) (elC q (i + 1)) ≠ 0) ∧ at2 T (elC q (q.length - 1)) (elC q 0) ≠ 0 := by
  induction k with
  | zero =>
    intro p q h hp hn hlt ha
    unfold ext at h
    split at h
    · cases h
    · rename_i h0
      cases h
      rw [getLastD_el hp, headD_el] at h0
      exact ⟨rfl, hn, hlt, ha, h0⟩
  | succ k ih =>
    intro p q h hp hn hlt ha
    unfold ext at h
    obtain ⟨d, hd, hf⟩ := List.exists_of_findSome?_eq_some h
    split at hf
    · cases hf
    · rename_i hc
      have hdp : d ∉ p := fun h => hc (.inl h)
      have harc : at2 T (p.getLastD 0) d ≠ 0 := fun h => hc (.inr h)
      rw [List.mem_range'_1] at hd
      have hl := List.length_pos_iff.2 hp
      obtain ⟨h1, h2, h3, h4, h5⟩ := ih hf (by simp) (by
        rw [List.nodup_append]
        exact ⟨hn, by simp, fun a ha b hb e => by simp at hb; subst hb; subst e; exact hdp ha⟩) (fun y hy => by
        rcases List.mem_append.1 hy with hy | hy
        · exact hlt y hy
        · have : y = d := by simpa using hy
          omega) (fun i hi => by
        rw [List.length_append] at hi
        simp at hi
        rw [elC_append hi]
        by_cases e : i + 1 < p.length
        · rw [elC_append e]; exact ha i e
        · have e2 : i + 1 = p.length := by omega
          rw [e2, elC_last, show i = p.length - 1 by omega, ← getLastD_el hp]
          exact harc)
      rw [List.length_append] at h1
      exact ⟨by simp at h1; omega, h2, h3, h4, h5⟩
theorem cycF_is {T : Tab} {c : List Nat} (h : cycF T = some c) : IsCyc T c ∧ c.length ≤ T.length := by
  obtain ⟨len, hl, h1⟩ := List.exists_of_findSome?_eq_some h
  obtain ⟨f, hf, h2⟩ := List.exists_of_findSome?_eq_some h1
  rw [List.mem_range'_1] at hl hf
  obtain ⟨k1, k2, k3, k4, k5⟩ := ext_is (len - 1) h2 (by simp) (by simp) (by simp; omega) (by simp)
  simp at k1
  refine ⟨⟨by omega, k2, k3, fun i hi => ?_⟩, by omega⟩
  unfold nxt
  by_cases e : i + 1 < c.length
  · rw [Nat.mod_eq_of_lt e]
    exact k4 i e
  · have e2 : i + 1 = c.length := by omega
    rw [e2, Nat.mod_self]
    have e3 : i = c.length - 1 := by omega
    rw [e3]; exact k5
theorem put2_length (T : Tab) (i j : Nat) (x : Int) : (put2 T i j x).length = T.length := by unfold put2; rw [List.length_set]
theorem put2_row {T : Tab} {i : Nat} (hi : i < T.length) (j : Nat) (x : Int) (a : Nat) : (put2 T i j x).getD a [] = if a = i then (T.getD i []).set j x else T.getD a [] := by
  unfold put2
  rw [List.getD_eq_getElem?_getD, List.getElem?_set]
  by_cases e : i = a
  · subst e
    rw [if_pos rfl, if_pos hi, if_pos rfl]; rfl
  · rw [if_neg e, if_neg (fun h => e h.symm), List.getD_eq_getElem?_getD (l := T) (i := a)]
theorem put2_at {T : Tab} {i j : Nat} (hi : i < T.length) (hj : j < (T.getD i []).length) (x : Int) (a b : Nat) : at2 (put2 T i j x) a b = if a = i ∧ b = j then x else at2 T a b := by
  unfold at2
  rw [put2_row hi]
  by_cases e : a = i
  · rw [if_pos e]
    subst e
    rw [List.getD_eq_getElem?_getD, List.getElem?_set]
    by_cases e2 : j = b
    · subst e2
      rw [if_pos rfl, if_pos hj, if_pos ⟨rfl, rfl⟩]; rfl
    · rw [if_neg e2, if_neg (fun h => e2 h.2.symm), List.getD_eq_getElem?_getD (i := b)]
  · rw [if_neg e, if_neg (fun h => e h.1)]
theorem put2_rowlen {T : Tab} {i : Nat} (hi : i < T.length) (j : Nat) (x : Int) (a : Nat) : ((put2 T i j x).getD a []).length = (T.getD a []).length := by
  rw [put2_row hi]
  by_cases e : a = i
  · rw [if_pos e, List.length_set, e]
  · rw [if_neg e]
/-- A square table. -/
def Sq (T : Tab) : Prop := ∀ i, i < T.length → (T.getD i []).length = T.length
theorem VT.sq {T : Tab} (h : VT T) : Sq T := fun i hi => (h.2 i hi).1
theorem vt_of {T : Tab} (h12 : T.length ≤ 12) (hs : Sq T) (h0 : ∀ i, i < T.length → at2 T i i = 0) (hc : ∀ i j, i < T.length → j < T.length → 0 ≤ at2 T i j ∧ at2 T i j ≤ maxC) : VT T := by
  refine ⟨h12, fun i hi => ⟨hs i hi, ?_, fun x hx => ?_⟩⟩
  · have := get_some (show i < (T.getD i []).length by rw [hs i hi]; exact hi) 0
    rw [this]
    exact congrArg some (h0 i hi)
  · obtain ⟨j, hj⟩ := List.mem_iff_getElem?.1 hx
    have hjl := (List.getElem?_eq_some_iff.1 hj).1
    rw [hs i hi] at hjl
    have := hc i j hi hjl
    unfold at2 at this
    rw [List.getD_eq_getElem?_getD (i := j), hj] at this
    exact this
theorem VT.diag {T : Tab} (h : VT T) {i : Nat} (hi : i < T.length) : at2 T i i = 0 := by
  unfold at2
  have := (h.2 i hi).2.1
  exact getD_of this
theorem VT.bound {T : Tab} (h : VT T) {i j : Nat} (hi : i < T.length) (hj : j < T.length) : 0 ≤ at2 T i j ∧ at2 T i j ≤ maxC := by
  obtain ⟨_, _, _, _, h1, h2⟩ := h.cell hi hj
  exact ⟨h1, h2⟩
section
variable {T : Tab} {c : List Nat} {x : Int}
theorem cutF_sq (hs : Sq T) (hlt : ∀ d ∈ c, d < T.length) : ∀ j, j ≤ c.length → (cutF T c x j).length = T.length ∧ Sq (cutF T c x j) := by
  intro j
  induction j with
  | zero => exact fun _ => ⟨rfl, hs⟩
  | succ j ih =>
    intro hj
    obtain ⟨h1, h2⟩ := ih (by omega)
    have hi := hlt _ (elC_mem (show j < c.length by omega))
    unfold cutF
    refine ⟨by rw [put2_length]; exact h1, fun a ha => ?_⟩
    rw [put2_length] at ha
    rw [put2_rowlen (by omega), put2_length]
    exact h2 a ha
theorem cutF_at (hs : Sq T) (hc : IsCyc T c) : ∀ j, j ≤ c.length → ∀ a b, at2 (cutF T c x j) a b = if ∃ i, i < j ∧ a = elC c i ∧ b = nxt c i then at2 T a b - x else at2 T a b := by
  intro j
  induction j with
  | zero => intro _ a b; rw [if_neg (by rintro ⟨i, hi, _⟩; omega)]; rfl
  | succ j ih =>
    intro hj a b
    have hsq := cutF_sq (x := x) hs hc.lt j (by omega)
    have hi := hc.lt _ (elC_mem (show j < c.length by omega))
    have hn := hc.lt _ (nxt_mem (show j < c.length by omega))
    unfold cutF
    have hrl := hsq.2 (elC c j) (by rw [hsq.1]; exact hi)
    rw [hsq.1] at hrl
    rw [put2_at (by rw [hsq.1]; exact hi) (by rw [hrl]; exact hn)]
    by_cases e : a = elC c j ∧ b = nxt c j
    · obtain ⟨rfl, rfl⟩ := e
      rw [if_pos ⟨rfl, rfl⟩, if_pos ⟨j, by omega, rfl, rfl⟩, ih (by omega), if_neg]
      rintro ⟨i, hij, h1, _⟩
      have := elC_inj hc.nodup (by omega) (by omega) h1
      omega
    · rw [if_neg e, ih (by omega)]
      by_cases e2 : ∃ i, i < j ∧ a = elC c i ∧ b = nxt c i
      · obtain ⟨i, h1, h2⟩ := e2
        rw [if_pos ⟨i, h1, h2⟩, if_pos ⟨i, by omega, h2⟩]
      · rw [if_neg e2, if_neg]
        rintro ⟨i, h1, h2⟩
        by_cases e3 : i = j
        · subst e3; exact e h2
        · exact e2 ⟨i, by omega, h2⟩
theorem leastF_le : ∀ j, leastF T c j ≤ maxC ∧ ∀ i, i < j → leastF T c j ≤ at2 T (elC c i) (nxt c i) := by
  intro j
  induction j with
  | zero => exact ⟨Int.le_refl _, fun i hi => by omega⟩
  | succ j ih =>
    unfold leastF
    refine ⟨by omega, fun i hi => ?_⟩
    by_cases e : i = j
    · subst e; omega
    · have := ih.2 i (by omega); omega
theorem leastF_eq (hb : ∀ i, i < c.length → at2 T (elC c i) (nxt c i) ≤ maxC) : ∀ j, j ≤ c.length → leastF T c j = maxC ∧ (∀ i, i < j → at2 T (elC c i) (nxt c i) = maxC) ∨ ∃ i, i < j ∧ leastF T c j = at2 T (elC c i) (nxt c i) := by
  intro j
  induction j with
  | zero => exact fun _ => .inl ⟨rfl, fun i hi => by omega⟩
  | succ j ih =>
    intro hj
    have h1 := hb j (by omega)
    unfold leastF
    right
    rcases ih (by omega) with ⟨h2, _⟩ | ⟨i, h2, h3⟩
    · exact ⟨j, by omega, by omega⟩
    · by_cases e : at2 T (elC c i) (nxt c i) ≤ at2 T (elC c j) (nxt c j)
      · exact ⟨i, by omega, by omega⟩
      · exact ⟨j, by omega, by omega⟩
end
theorem IsCyc.pos {T : Tab} {c : List Nat} (h : VT T) (hc : IsCyc T c) {i : Nat} (hi : i < c.length) : 0 < at2 T (elC c i) (nxt c i) ∧ at2 T (elC c i) (nxt c i) ≤ maxC := by
  have h1 := h.bound (hc.lt _ (elC_mem hi)) (hc.lt _ (nxt_mem hi))
  have h2 := hc.arc i hi
  omega
theorem least_pos {T : Tab} {c : List Nat} (h : VT T) (hc : IsCyc T c) : ∀ j, j ≤ c.length → 0 < leastF T c j := by
  intro j
  induction j with
  | zero => intro _; show 0 < maxC; unfold maxC; omega
  | succ j ih =>
    intro hj
    have := ih (by omega)
    have := hc.pos h (show j < c.length by omega)
    unfold leastF
    omega
theorem least_hit {T : Tab} {c : List Nat} (h : VT T) (hc : IsCyc T c) : ∃ i, i < c.length ∧ leastF T c c.length = at2 T (elC c i) (nxt c i) := by
  rcases leastF_eq (fun i hi => (hc.pos h hi).2) c.length (Nat.le_refl _) with ⟨h1, h2⟩ | h1
  · exact ⟨0, by have := hc.two; omega, by rw [h1, h2 0 (by have := hc.two; omega)]⟩
  · exact h1
theorem cutC_length {T : Tab} {c : List Nat} (h : VT T) (hc : IsCyc T c) : (cutC T c).length = T.length := (cutF_sq h.sq hc.lt _ (Nat.le_refl _)).1
theorem cutC_at {T : Tab} {c : List Nat} (h : VT T) (hc : IsCyc T c) (a b : Nat) : at2 (cutC T c) a b = if ∃ i, i < c.length ∧ a = elC c i ∧ b = nxt c i then at2 T a b - leastF T c c.length else at2 T a b := cutF_at h.sq hc _ (Nat.le_refl _) a b
theorem cutF_vt {T : Tab} {c : List Nat} (h : VT T) (hc : IsCyc T c) : ∀ j, j ≤ c.length → VT (cutF T c (leastF T c c.length) j) := by
  intro j hj
  have hsq := cutF_sq (x := leastF T c c.length) h.sq hc.lt j hj
  have hpos := least_pos h hc c.length (Nat.le_refl _)
  refine vt_of (by rw [hsq.1]; exact h.1) hsq.2 (fun i hi => ?_) (fun a b ha hb => ?_)
  · rw [hsq.1] at hi
    rw [cutF_at h.sq hc j hj, if_neg]
    · exact h.diag hi
    · rintro ⟨t, ht, h1, h2⟩
      have := hc.arc t (by omega)
      rw [← h1, ← h2] at this
      exact this (h.diag hi)
  · rw [hsq.1] at ha hb
    have h1 := h.bound ha hb
    rw [cutF_at h.sq hc j hj]
    split
    · rename_i hx
      obtain ⟨t, ht, rfl, rfl⟩ := hx
      have := (leastF_le (T := T) (c := c) c.length).2 t (by omega)
      omega
    · exact h1
theorem cutC_vt {T : Tab} {c : List Nat} (h : VT T) (hc : IsCyc T c) : VT (cutC T c) := cutF_vt h hc _ (Nat.le_refl _)
/-- How many numbers of the table are not 0. -/
def nz (T : Tab) : Nat := ((List.range T.length).flatMap fun i => (List.range T.length).map fun j => (i, j)).countP fun p => decide (at2 T p.1 p.2 ≠ 0)
theorem cutC_nz {T : Tab} {c : List Nat} (h : VT T) (hc : IsCyc T c) : nz (cutC T c) < nz T := by
  unfold nz
  rw [cutC_length h hc]
  obtain ⟨i, hi, he⟩ := least_hit h hc
  have hmem : (elC c i, nxt c i) ∈ ((List.range T.length).flatMap fun i => (List.range T.length).map fun j => (i, j)) := by
    rw [List.mem_flatMap]
    exact ⟨elC c i, by simpa using hc.lt _ (elC_mem hi), by rw [List.mem_map]; exact ⟨nxt c i, by simpa using hc.lt _ (nxt_mem hi), rfl⟩⟩
  have hle : ∀ p ∈ ((List.range T.length).flatMap fun i => (List.range T.length).map fun j => (i, j)), decide (at2 (cutC T c) p.1 p.2 ≠ 0) = true → decide (at2 T p.1 p.2 ≠ 0) = true := by
    intro p _ hp
    rw [decide_eq_true_eq] at hp ⊢
    rw [cutC_at h hc] at hp
    split at hp
    · rename_i hx
      obtain ⟨t, ht, h1, h2⟩ := hx
      rw [h1, h2]
      exact hc.arc t ht
    · exact hp
  have key : ∀ (l : List (Nat × Nat)), (∀ p ∈ l, decide (at2 (cutC T c) p.1 p.2 ≠ 0) = true → decide (at2 T p.1 p.2 ≠ 0) = true) → (elC c i, nxt c i) ∈ l → l.countP (fun p => decide (at2 (cutC T c) p.1 p.2 ≠ 0)) < l.countP (fun p => decide (at2 T p.1 p.2 ≠ 0)) := by
    intro l
    induction l with
    | nil => intro _ hm; simp at hm
    | cons p l ih =>
      intro hl hm
      rw [List.countP_cons, List.countP_cons]
      have hmono : l.countP (fun p => decide (at2 (cutC T c) p.1 p.2 ≠ 0)) ≤ l.countP (fun p => decide (at2 T p.1 p.2 ≠ 0)) := List.countP_mono_left fun q hq h => hl q (List.mem_cons_of_mem _ hq) h
      rcases List.mem_cons.1 hm with e | e
      · have h1 : decide (at2 (cutC T c) p.1 p.2 ≠ 0) = false := by
          rw [← e, decide_eq_false_iff_not, Decidable.not_not, cutC_at h hc, if_pos ⟨i, hi, rfl, rfl⟩, he]; exact Int.sub_self _
        have h2 : decide (at2 T p.1 p.2 ≠ 0) = true := by
          rw [← e, decide_eq_true_eq]; exact hc.arc i hi
        rw [h1, h2, if_neg (by decide), if_pos rfl]; omega
      · have := ih (fun q hq h => hl q (List.mem_cons_of_mem _ hq) h) e
        have h1 := hl p (List.mem_cons_self ..)
        by_cases e1 : decide (at2 (cutC T c) p.1 p.2 ≠ 0) = true
        · rw [e1, h1 e1]; omega
        · rw [if_neg e1]
          split <;> omega
  exact key _ hle hmem
/-- Cancelling ends. -/
theorem canc_ends {T : Tab} (h : VT T) : ∃ T', Canc T T' ∧ VT T' ∧ cycF T' = none ∧ T'.length = T.length := by
  generalize hk : nz T = k
  induction k using Nat.strongRecOn generalizing T with
  | ind k ih =>
    cases hc : cycF T with
    | none => exact ⟨T, .done hc, h, hc, rfl⟩
    | some c =>
      have h1 := (cycF_is hc).1
      obtain ⟨T', h2, h3, h4, h5⟩ := ih (nz (cutC T c)) (by rw [← hk]; exact cutC_nz h h1) (cutC_vt h h1) rfl
      exact ⟨T', .step hc h2, h3, h4, by rw [h5, cutC_length h h1]⟩
end Quo
