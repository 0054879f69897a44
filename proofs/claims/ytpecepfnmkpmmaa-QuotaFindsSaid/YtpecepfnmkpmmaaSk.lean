/- Moving greedily, plain: if it relieves all devices, then there is a relief of all. -/
import Derived.Test.YtpecepfnmkpmmaaSm
namespace Quo
set_option linter.unusedVariables false
/-- M is what was moved so far (from, owner, to), A what lies where, B what is held. -/
structure Greedy (T : Tab) (q : List Int) (M : Nat → Nat → Nat → Int) (A : Nat → Nat → Int) (B : Nat → Int) : Prop where
  nn : ∀ i o t, 0 ≤ M i o t
  dom : ∀ i o t, M i o t ≠ 0 → over T q i ∧ okT T q o t
  now : ∀ i o, i < T.length → o < T.length → A i o = at2 T i o - sumR T.length fun t => M i o t
  held : ∀ d, d < T.length → B d = loadOf T d - (sumR T.length fun o => sumR T.length fun t => M d o t) + sumR T.length fun i => sumR T.length fun o => M i o d
  pos : ∀ i o, i < T.length → o < T.length → 0 ≤ A i o
  give : ∀ d, d < T.length → over T q d → q.getD d 0 ≤ B d
  take : ∀ d, d < T.length → ¬ over T q d → B d ≤ q.getD d 0
theorem Greedy.start {T : Tab} {q : List Int} (hT : VT T) : Greedy T q (fun _ _ _ => 0) (at2 T) (loadOf T) := by
  have z : ∀ n, sumR n (fun _ => (0 : Int)) = 0 := fun n => sumR_zero fun _ _ => rfl
  refine ⟨fun _ _ _ => Int.le_refl _, fun _ _ _ h => absurd rfl h, fun i o _ _ => ?_, fun d _ => ?_, fun i o _ _ => at2_nonneg hT i o, fun d _ h => ?_, fun d _ h => ?_⟩
  · rw [z]; omega
  · simp only [z]; omega
  · unfold over at h; omega
  · unfold over at h; omega
/-- The relief that was moved. -/
def gFlow (n : Nat) (M : Nat → Nat → Nat → Int) (κ : Key) : Int :=
  if κ.1 = 0 then sumR n fun o => sumR n fun t => M κ.2.1 o t else if κ.1 = 1 then sumR n fun i => sumR n fun o => M i o κ.2.1 else if κ.1 = 2 then sumR n fun t => M κ.2.1 κ.2.2.1 t else M κ.2.1 κ.2.2.1 κ.2.2.2
theorem sumR_ge {n : Nat} {f : Nat → Int} (h : ∀ i, i < n → 0 ≤ f i) {k : Nat} (hk : k < n) : f k ≤ sumR n f := by
  rw [← sumR_pick hk f]
  refine sumR_le fun i hi => ?_
  by_cases e : i = k
  · rw [if_pos e]; exact Int.le_refl _
  · rw [if_neg e]; exact h i hi
section
variable {T : Tab} {q : List Int} {M : Nat → Nat → Nat → Int} {A : Nat → Nat → Int} {B : Nat → Int}
theorem Greedy.le (h : Greedy T q M A B) {i o t : Nat} (hi : i < T.length) (ho : o < T.length) (ht : t < T.length) : M i o t ≤ sumR T.length fun t => M i o t :=
  sumR_ge (f := fun t => M i o t) (fun t _ => h.nn i o t) ht
theorem Greedy.tot (h : Greedy T q M A B) {i o : Nat} (hi : i < T.length) (ho : o < T.length) : (sumR T.length fun t => M i o t) ≤ at2 T i o := by
  have := h.now i o hi ho; have := h.pos i o hi ho; omega
theorem Greedy.mv (h : Greedy T q M A B) {i o t : Nat} (hi : i < T.length) (ho : o < T.length) (ht : t < T.length) : mvs T q (gFlow T.length M) i o t = M i o t := by
  unfold mvs
  split
  · rfl
  · rename_i hn
    refine (Classical.byContradiction fun hz => hn ?_)
    have hz : M i o t ≠ 0 := fun e => hz e.symm
    obtain ⟨h1, h2⟩ := h.dom i o t hz
    have := h.le hi ho ht; have := h.tot hi ho; have := h.nn i o t
    exact ⟨⟨h1, by omega⟩, h2⟩
theorem Greedy.out0 (h : Greedy T q M A B) {i o : Nat} (hi : i < T.length) (ho : o < T.length) (hk : ¬ okO T q i o) : (sumR T.length fun t => M i o t) = 0 :=
  sumR_zero fun t ht => by
    refine Classical.byContradiction fun hz => hk ?_
    obtain ⟨h1, h2⟩ := h.dom i o t hz
    have := h.le hi ho ht; have := h.tot hi ho; have := h.nn i o t
    exact ⟨h1, by omega⟩
theorem Greedy.feas (h : Greedy T q M A B) : Feas T q (gFlow T.length M) := by
  intro κ hκ
  rcases mem_keys.1 hκ with ⟨d, hd, rfl⟩ | ⟨i, o, hi, ho, hk, rfl | ⟨t, ht, hkt, rfl⟩⟩
  · by_cases hv : over T q d
    · rw [keyA_over hv]
      have e : gFlow T.length M (0, d, 0, 0) = sumR T.length fun o => sumR T.length fun t => M d o t := rfl
      have e2 : kr T q (0, d, 0, 0) = loadOf T d - q.getD d 0 := rfl
      rw [e, e2]
      refine ⟨sumR_nonneg fun o _ => sumR_nonneg fun t _ => h.nn d o t, ?_⟩
      have h1 := h.held d hd
      have h2 : (sumR T.length fun i => sumR T.length fun o => M i o d) = 0 := sumR_zero fun i _ => sumR_zero fun o _ => Classical.byContradiction fun hz => (h.dom i o d hz).2.1 hv
      have h3 := h.give d hd hv
      omega
    · rw [keyA_under hv]
      have e : gFlow T.length M (1, d, 0, 0) = sumR T.length fun i => sumR T.length fun o => M i o d := rfl
      have e2 : kr T q (1, d, 0, 0) = q.getD d 0 - loadOf T d := rfl
      rw [e, e2]
      refine ⟨sumR_nonneg fun i _ => sumR_nonneg fun o _ => h.nn i o d, ?_⟩
      have h1 := h.held d hd
      have h2 : (sumR T.length fun o => sumR T.length fun t => M d o t) = 0 := sumR_zero fun o _ => sumR_zero fun t _ => Classical.byContradiction fun hz => hv (h.dom d o t hz).1
      have h3 := h.take d hd hv
      omega
  · exact ⟨sumR_nonneg fun t _ => h.nn i o t, h.tot hi ho⟩
  · exact ⟨h.nn i o t, Int.le_trans (h.le hi ho ht) (h.tot hi ho)⟩
theorem Greedy.flow (h : Greedy T q M A B) : Flow T q (gFlow T.length M) := by
  have hs : ∀ i o, i < T.length → o < T.length → okO T q i o → dv T q (gFlow T.length M) (stockOf T.length i o) = 0 := fun i o hi ho hk => by
    rw [dv_stock hi ho hk, sumR_congr fun t ht => h.mv hi ho ht]
    exact Int.sub_self _
  have hg : ∀ i, i < T.length → over T q i → dv T q (gFlow T.length M) (2 + i) = 0 := fun i hi hv => by
    rw [dv_give hi hv]
    have e : (sumR T.length fun o => if okO T q i o then gFlow T.length M (2, i, o, 0) else 0) = sumR T.length fun o => sumR T.length fun t => M i o t := sumR_congr fun o ho => by
      by_cases hk : okO T q i o
      · rw [if_pos hk]; rfl
      · rw [if_neg hk, h.out0 hi ho hk]
    rw [e]
    exact Int.sub_self _
  have ht : ∀ t, t < T.length → ¬ over T q t → dv T q (gFlow T.length M) (2 + T.length + t) = 0 := fun t ht hv => by
    rw [dv_take ht hv, sumR_congr fun i hi => sumR_congr fun o ho => h.mv hi ho ht]
    exact Int.sub_self _
  refine ⟨h.feas, fun v h0 h1 => ?_⟩
  by_cases hx : ∃ κ ∈ keys T q, kf T.length κ = v ∨ kt T.length κ = v
  · obtain ⟨κ, hκ, hv⟩ := hx
    rcases mem_keys.1 hκ with ⟨d, hd, rfl⟩ | ⟨i, o, hi, ho, hk, rfl | ⟨t, htt, hkt, rfl⟩⟩
    · by_cases hov : over T q d
      · rw [keyA_over hov, kf0, kt0] at hv
        rcases hv with rfl | rfl
        · exact absurd rfl h0
        · exact hg d hd hov
      · rw [keyA_under hov, kf1, kt1] at hv
        rcases hv with rfl | rfl
        · exact ht d hd hov
        · exact absurd rfl h1
    · rw [kf2, kt2] at hv
      rcases hv with rfl | rfl
      · exact hg i hi hk.1
      · exact hs i o hi ho hk
    · rw [kf3, kt3] at hv
      rcases hv with rfl | rfl
      · exact hs i o hi ho hk
      · exact ht t htt hkt.1
  · unfold dv
    refine sumK_zero fun κ hκ => ?_
    rw [ind_f fun e => hx ⟨κ, hκ, .inl e⟩, ind_f fun e => hx ⟨κ, hκ, .inr e⟩]
    simp
theorem Greedy.ends (h : Greedy T q M A B) (hf : Full T q) (he : ∀ d, d < T.length → B d ≤ q.getD d 0) : False := by
  have h1 := hf _ h.flow
  rw [dv_all, relief_excess] at h1
  have e : (sumR T.length fun d => if over T q d then gFlow T.length M (0, d, 0, 0) else 0) = sumR T.length fun d => if over T q d then loadOf T d - q.getD d 0 else 0 := sumR_congr fun d hd => by
    by_cases hv : over T q d
    · rw [if_pos hv, if_pos hv]
      have e : gFlow T.length M (0, d, 0, 0) = sumR T.length fun o => sumR T.length fun t => M d o t := rfl
      rw [e]
      have h1 := h.held d hd
      have h2 : (sumR T.length fun i => sumR T.length fun o => M i o d) = 0 := sumR_zero fun i _ => sumR_zero fun o _ => Classical.byContradiction fun hz => (h.dom i o d hz).2.1 hv
      have h3 := h.give d hd hv
      have h4 := he d hd
      omega
    · rw [if_neg hv, if_neg hv]
  rw [e] at h1
  exact absurd h1 (Int.lt_irrefl _)
theorem Greedy.step (h : Greedy T q M A B) {a o t : Nat} {x : Int} (ha : a < T.length) (ho : o < T.length) (ht : t < T.length) (hto : t ≠ o) (hta : t ≠ a) (hx : 0 < x) (h1 : x ≤ B a - q.getD a 0) (h2 : x ≤ A a o) (h3 : x ≤ q.getD t 0 - B t) :
    Greedy T q (fun i o' t' => M i o' t' + if i = a then (if o' = o then (if t' = t then x else 0) else 0) else 0) (fun i o' => if i = a ∧ o' = o then A a o - x else A i o') (fun d => if d = a then B a - x else if d = t then B t + x else B d) := by
  have hva : over T q a := Classical.byContradiction fun hn => by have := h.take a ha hn; omega
  have hvt : ¬ over T q t := fun hn => by have := h.give t ht hn; omega
  have z : ∀ n, sumR n (fun _ => (0 : Int)) = 0 := fun n => sumR_zero fun _ _ => rfl
  have s1 : ∀ i o', sumR T.length (fun t' => if i = a then (if o' = o then (if t' = t then x else 0) else 0) else (0 : Int)) = if i = a then (if o' = o then x else 0) else 0 := fun i o' => by
    by_cases e : i = a
    · by_cases e' : o' = o
      · simp only [if_pos e, if_pos e']; exact sumR_pick ht fun _ => x
      · simp only [if_pos e, if_neg e', z]
    · simp only [if_neg e, z]
  refine ⟨fun i o' t' => ?_, fun i o' t' hz => ?_, fun i o' hi ho' => ?_, fun d hd => ?_, fun i o' hi ho' => ?_, fun d hd hv => ?_, fun d hd hv => ?_⟩
  · have := h.nn i o' t'
    try dsimp only
    split <;> (try split) <;> (try split) <;> omega
  · by_cases hm : M i o' t' = 0
    · try dsimp only at hz
      rw [hm] at hz
      by_cases e : i = a
      · by_cases e' : o' = o
        · by_cases e2 : t' = t
          · subst e; subst e'; subst e2; exact ⟨hva, hvt, hto⟩
          · simp [e2] at hz
        · simp [e'] at hz
      · simp [e] at hz
    · exact h.dom i o' t' hm
  · try dsimp only
    have g0 : (sumR T.length fun t' => M i o' t' + if i = a then (if o' = o then (if t' = t then x else 0) else 0) else 0) = (sumR T.length fun t' => M i o' t') + if i = a then (if o' = o then x else 0) else 0 := by rw [sumR_add, s1]
    rw [g0]
    have := h.now i o' hi ho'
    by_cases e : i = a
    · by_cases e' : o' = o
      · subst e; subst e'; rw [if_pos ⟨rfl, rfl⟩, if_pos rfl, if_pos rfl]; omega
      · rw [if_neg (fun c => e' c.2), if_pos e, if_neg e']; omega
    · rw [if_neg (fun c => e c.1), if_neg e]; omega
  · have hh := h.held d hd
    have g1 : (sumR T.length fun o' => sumR T.length fun t' => M d o' t' + if d = a then (if o' = o then (if t' = t then x else 0) else 0) else 0) = (sumR T.length fun o' => sumR T.length fun t' => M d o' t') + if d = a then x else 0 := by
      rw [sumR_congr fun o' _ => sumR_add T.length (fun t' => M d o' t') _, sumR_add, sumR_congr fun o' _ => s1 d o']
      congr 1
      by_cases e : d = a
      · simp only [if_pos e]; exact sumR_pick ho fun _ => x
      · simp only [if_neg e, z]
    have g2 : (sumR T.length fun i => sumR T.length fun o' => M i o' d + if i = a then (if o' = o then (if d = t then x else 0) else 0) else 0) = (sumR T.length fun i => sumR T.length fun o' => M i o' d) + if d = t then x else 0 := by
      rw [sumR_congr fun i _ => sumR_add T.length (fun o' => M i o' d) _, sumR_add]
      congr 1
      have : ∀ i, i < T.length → (sumR T.length fun o' => if i = a then (if o' = o then (if d = t then x else 0) else 0) else (0 : Int)) = if i = a then (if d = t then x else 0) else 0 := fun i _ => by
        by_cases e : i = a
        · simp only [if_pos e]; exact sumR_pick ho fun _ => if d = t then x else 0
        · simp only [if_neg e, z]
      rw [sumR_congr this]
      exact sumR_pick ha fun _ => if d = t then x else 0
    rw [g1, g2]
    by_cases e : d = a
    · subst e
      have e2 : ¬ d = t := fun c => hta c.symm
      rw [if_pos rfl, if_pos rfl, if_neg e2]; omega
    · by_cases e2 : d = t
      · subst e2; rw [if_neg e, if_pos rfl, if_neg e, if_pos rfl]; omega
      · rw [if_neg e, if_neg e2, if_neg e, if_neg e2]; omega
  · try dsimp only
    by_cases e : i = a ∧ o' = o
    · rw [if_pos e]; omega
    · rw [if_neg e]; exact h.pos i o' hi ho'
  · try dsimp only
    have := h.give d hd hv
    by_cases e : d = a
    · subst e; rw [if_pos rfl]; omega
    · by_cases e2 : d = t
      · subst e2; exact absurd hv hvt
      · rw [if_neg e, if_neg e2]; exact this
  · try dsimp only
    have := h.take d hd hv
    by_cases e : d = a
    · subst e; exact absurd hva hv
    · by_cases e2 : d = t
      · subst e2; rw [if_neg e, if_pos rfl]; omega
      · rw [if_neg e, if_neg e2]; exact this
end
end Quo
