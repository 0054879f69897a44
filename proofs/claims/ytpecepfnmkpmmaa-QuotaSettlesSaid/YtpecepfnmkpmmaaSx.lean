/- Moving greedily, plain: if it relieves all devices, then there is a relief of all. -/
import Derived.Test.YtpecepfnmkpmmaaSm
namespace Quo
set_option linter.unusedVariables false
/-- M is what was moved so far (from, owner, to), A what lies where, B what is held. -/
structure Greedy (T : Tab) (q : List Int) (M : Nat → Nat → Nat → Int) (A : Nat → Nat → Int) (B : Nat → Int) : Prop where
  nn : ∀ i o t, 0 ≤ M i o t
  dom : ∀ i o t, M i o t ≠ 0 → over T q i ∧ okT T q o t
  now : ∀ i o, i < T.length → o < T.length → A i o = at2 T i o - sumR T.length fun t => M i o t
  held : ∀ d, d < T.length → B d = loadOf T d - (sumR T.length fun o => sumR T.length fun t => M d o t) + sumR T.length fun i => sumR T.length fun o => M i o d
  pos : ∀ i o, i < T.length → o < T.length → 0 ≤ A i o
  give : ∀ d, d < T.length → over T q d → q.getD d 0 ≤ B d
  take : ∀ d, d < T.length → ¬ over T q d → B d ≤ q.getD d 0
theorem Greedy.start {T : Tab} {q : List Int} (hT : VT T) : Greedy T q (fun _ _ _ => 0) (at2 T) (loadOf T) := by
  have z : ∀ n, sumR n (fun _ => (0 : Int)) = 0 := fun n => sumR_zero fun _ _ => rfl
  refine ⟨fun _ _ _ => Int.le_refl _, fun _ _ _ h => absurd rfl h, fun i o _ _ => ?_, fun d _ => ?_, fun i o _ _ => at2_nonneg hT i o, fun d _ h => ?_, fun d _ h => ?_⟩
  · rw [z]; omega
  · simp only [z]; omega
  · unfold over at h; omega
  · unfold over at h; omega
/-- The relief that was moved. -/
def gFlow (n : Nat) (M : Nat → Nat → Nat → Int) (κ : Key) : Int :=
  if κ.1 = 0 then sumR n fun o => sumR n fun t => M κ.2.1 o t else if κ.1 = 1 then sumR n fun i => sumR n fun o => M i o κ.2.1 else if κ.1 = 2 then sumR n fun t => M κ.2.1 κ.2.2.1 t else M κ.2.1 κ.2.2.1 κ.2.2.2
theorem sumR_ge {n : Nat} {f : Nat → Int} (h : ∀ i, i < n → 0 ≤ f i) {k : Nat} (hk : k < n) : f k ≤ sumR n f := by
  rw [← sumR_pick hk f]
  refine sumR_le fun i hi => ?_
  by_cases e : i = k
  · rw [if_pos e]; exact Int.le_refl _
  · rw [if_neg e]; exact h i hi
section
variable {T : Tab} {q : List Int} {M : Nat → Nat → Nat → Int} {A : Nat → Nat → Int} {B : Nat → Int}
theorem Greedy.le (h : Greedy T q M A B) {i o t : Nat} (hi : i < T.length) (ho : o < T.length) (ht : t < T.length) : M i o t ≤ sumR T.length fun t => M i o t :=
  sumR_ge (f := fun t => M i o t) (fun t _ => h.nn i o t) ht
theorem Greedy.tot (h : Greedy T q M A B) {i o : Nat} (hi : i < T.length) (ho : o < T.length) : (sumR T.length fun t => M i o t) ≤ at2 T i o := by
  have := h.now i o hi ho; have := h.pos i o hi ho; omega
theorem Greedy.mv (h : Greedy T q M A B) {i o t : Nat} (hi : i < T.length) (ho : o < T.length) (ht : t < T.length) : mvs T q (gFlow T.length M) i o t = M i o t := by
  unfold mvs
  split
  · rfl
  · rename_i hn
    refine (Classical.byContradiction fun hz => hn ?_)
    have hz : M i o t ≠ 0 := fun e => hz e.symm
    obtain ⟨h1, h2⟩ := h.dom i o t hz
    have := h.le hi ho ht; have := h.tot hi ho; have := h.nn i o t
    exact ⟨⟨h1, by omega⟩, h2⟩
theorem Greedy.out0 (h : Greedy T q M A B) {i o : Nat} (hi : i < T.length) (ho : o < T.length) (hk : ¬ okO T q i o) : (sumR T.length fun t => M i o t) = 0 :=
  sumR_zero fun t ht => by
    refine Classical.byContradiction fun hz => hk ?_
    obtain ⟨h1, h2⟩ := h.dom i o t hz
    have := h.le hi ho ht; have := h.tot hi ho; have := h.nn i o t
    exact ⟨h1, by omega⟩
theorem Greedy.feas (h : Greedy T q M A B) : Feas T q (gFlow T.length M) := by
  intro κ hκ
  rcases mem_keys.1 hκ with ⟨d, hd, rfl⟩ | ⟨i, o, hi, ho, hk, rfl | ⟨t, ht, hkt, rfl⟩⟩
  · by_cases hv : over T q d
    · rw [keyA_over hv]
      have e : gFlow T.length M (0, d, 0, 0) = sumR T.length fun o => sumR T.length fun t => M d o t := rfl
      have e2 : kr T q (0, d, 0, 0) = loadOf T d - q.getD d 0 := rfl
      rw [e, e2]
      refine ⟨sumR_nonneg fun o _ => sumR_nonneg fun t _ => h.nn d o t, ?_⟩
      have h1 := h.held d hd
      have h2 : (sumR T.length fun i => sumR T.length fun o => M i o d) = 0 := sumR_zero fun i _ => sumR_zero fun o _ => Classical.byContradiction fun hz => (h.dom i o d hz).2.1 hv
      have h3 := h.give d hd hv
      omega
    · rw [keyA_under hv]
      have e : gFlow T.length M (1, d, 0, 0) = sumR T.length fun i => sumR T.length fun o => M i o d := rfl
      have e2 : kr T q (1, d, 0, 0) = q.getD d 0 - loadOf T d := rfl
      rw [e, e2]
      refine ⟨sumR_nonneg fun i _ => sumR_nonneg fun o _ => h.nn i o d, ?_⟩
      have h1 := h.held d hd
      have h2 : (sumR T.length fun o => sumR T.length fun t => M d o t) = 0 := sumR_zero fun o _ => sumR_zero fun t _ => Classical.byContradiction fun hz => hv (h.dom d o t hz).1
      have h3 := h.take d hd hv
      omega
  · exact ⟨sumR_nonneg fun t _ => h.nn i o t, h.tot hi ho⟩
  · exact ⟨h.nn i o t, Int.le_trans (h.le hi ho ht) (h.tot hi ho)⟩
theorem Greedy.flow (h : Greedy T q M A B) : Flow T q (gFlow T.length M) := by
  have hs : ∀ i o, i < T.length → o < T.length → okO T q i o → dv T q (gFlow T.length M) (stockOf T.length i o) = 0 := fun i o hi ho hk => by
    rw [dv_stock hi ho hk, sumR_congr fun t ht => h.mv hi ho ht]
    exact Int.sub_self _
  have hg : ∀ i, i < T.length → over T q i → dv T q (gFlow T.length M) (2 + i) = 0 := fun i hi hv => by
    rw [dv_give hi hv]
    have e : (sumR T.length fun o => if okO T q i o then gFlow T.length M (2, i, o, 0) else 0) = sumR T.length fun o => sumR T.length fun t => M i o t := sumR_congr fun o ho => by
      by_cases hk : okO T q i o
      · rw [if_pos hk]; rfl
      · rw [if_neg hk, h.out0 hi ho hk]
    rw [e]
    exact Int.sub_self _
  have ht : ∀ t, t < T.length → ¬ over T q t → dv T q (gFlow T.length M) (2 + T.length + t) = 0 := fun t ht hv => by
    rw [dv_take ht hv, sumR_congr fun i hi => sumR_congr fun o ho => h.mv hi ho ht]
    exact Int.sub_self _
  refine ⟨h.feas, fun v h0 h1 => ?_⟩
  by_cases hx : ∃ κ ∈ keys T q, kf T.length κ = v ∨ kt T.length κ = v
  · obtain ⟨κ, hκ, hv⟩ := hx
    rcases mem_keys.1 hκ with ⟨d, hd, rfl⟩ | ⟨i, o, hi, ho, hk, rfl | ⟨t, htt, hkt, rfl⟩⟩
    · by_cases hov : over T q d
      · rw [keyA_over hov, kf0, kt0] at hv
        rcases hv with rfl | rfl
        · exact absurd rfl h0
        · exact hg d hd hov
      · rw [keyA_under hov, kf1, kt1] at hv
        rcases hv with rfl | rfl
        · exact ht d hd hov
        · exact absurd rfl h1
    · rw [kf2, kt2] at hv
      rcases hv with rfl | rfl
      · exact hg i hi hk.1
      · exact hs i o hi ho hk
    · rw [kf3, kt3] at hv
      rcases hv with rfl | rfl
      · exact hs i o hi ho hk
      · exact ht t htt hkt.1
  · unfold dv
    refine sumK_zero fun κ hκ => ?_
    rw [ind_f fun e => hx ⟨κ, hκ, .inl e⟩, ind_f fun e => hx ⟨κ, hκ, .inr e⟩]
    simp
theorem Greedy.ends (h : Greedy T q M A B) (hf : Full T q) (he : ∀ d, d < T.length → B d ≤ q.getD d 0) : False := by
  have h1 := hf _ h.flow
  rw [dv_all, relief_excess] at h1
  have e : (sumR T.length fun d => if over T q d then gFlow T.length M (0, d, 0, 0) else 0) = sumR T.length fun d => if over T q d then loadOf T d - q.getD d 0 else 0 := sumR_congr fun d hd => by
    by_cases hv : over T q d
    · rw [if_pos hv, if_pos hv]
      have e : gFlow T.length M (0, d, 0, 0) = sumR T.length fun o => sumR T.length fun t => M d o t := rfl
      rw [e]
      have h1 := h.held d hd
      have h2 : (sumR T.length fun i => sumR T.length fun o => M i o d) = 0 := sumR_zero fun i _ => sumR_zero fun o _ => Classical.byContradiction fun hz => (h.dom i o d hz).2.1 hv
      have h3 := h.give d hd hv
      have h4 := he d hd
      omega
    · rw [if_neg hv, if_neg hv]
  rw [e] at h1
  exact absurd h1 (Int.lt_irrefl _)
theorem Greedy.step (h : Greedy T q M A B) {a o t : Nat} {x : Int} (ha : a < T.length) (ho : o < T.length) (ht : t < T.length) (hto : t ≠ o) (hta : t ≠ a) (hx : 0 < x) (h1 : x ≤ B a - q.getD a 0) (h2 : x ≤ A a o) (h3 : x ≤ q.getD t 0 - B t) :
    Greedy T q (fun i o' t' => M i o' t' + if i = a then (if o' = o then (if t' = t then x else 0) else 0) else 0) (fun i o' => if i = a ∧ o' = o then A a o - x else A i o') (fun d => if d = a then B a - x else if d = t then B t + x else B d) := by
  have hva : over T q a := Classical.byContradiction fun hn => by have := h.take a ha hn; omega
  have hvt : ¬ over T q t := fun hn => by have := h.give t ht hn; omega
  have z : ∀ n, sumR n (fun _ => (0 : Int)) = 0 := fun n => sumR_zero fun _ _ => rfl
  have s1 : ∀ i o', sumR T.length (fun t' => if i = a then (if o' = o then (if t' = t then x else 0) else 0) else (0 : Int)) = if i = a then (if o' = o then x else 0) else 0 := fun i o' => by
    by_cases e : i = a
    · by_cases e' : o' = o
      · simp only [if_pos e, if_pos e']; exact sumR_pick ht fun _ => x
      · simp only [if_pos e, if_neg e', z]
    · simp only [if_neg e, z]
  refine ⟨fun i o' t' => ?_, fun i o' t' hz => ?_, fun i o' hi ho' => ?_, fun d hd => ?_, fun i o' hi ho' => ?_, fun d hd hv => ?_, fun d hd hv => ?_⟩
  · have := h.nn i o' t'
    try dsimp only
    split <;> (try split) <;> (try split) <;> omega
  · by_cases hm : M i o' t' = 0
    · try dsimp only at hz
      rw [hm] at hz
      by_cases e : i = a
      · by_cases e' : o' = o
        · by_cases e2 : t' = t
          · subst e; subst e'; subst e2; exact ⟨hva, hvt, hto⟩
          · simp [e2] at hz
        · simp [e'] at hz
      · simp [e] at hz
    · exact h.dom i o' t' hm
  · try dsimp only
    have g0 : (sumR T.length fun t' => M i o' t' + if i = a then (if o' = o then (if t' = t then x else 0) else 0) else 0) = (sumR T.length fun t' => M i o' t') + if i = a then (if o' = o then x else 0) else 0 := by rw [sumR_add, s1]
    rw [g0]
    have := h.now i o' hi ho'
    by_cases e : i = a
    · by_cases e' : o' = o
      · subst e; subst e'; rw [if_pos ⟨rfl, rfl⟩, if_pos rfl, if_pos rfl]; omega
      · rw [if_neg (fun c => e' c.2), if_pos e, if_neg e']; omega
    · rw [if_neg (fun c => e c.1), if_neg e]; omega
  · have hh := h.held d hd
    have g1 : (sumR T.length fun o' => sumR T.length fun t' => M d o' t' + if d = a then (if o' = o then (if t' = t then x else 0) else 0) else 0) = (sumR T.length fun o' => sumR T.length fun t' => M d o' t') + if d = a then x else 0 := by
      rw [sumR_congr fun o' _ => sumR_add T.length (fun t' => M d o' t') _, sumR_add, sumR_congr fun o' _ => s1 d o']
      congr 1
      by_cases e : d = a
      · simp only [if_pos e]; exact sumR_pick ho fun _ => x
      · simp only [if_neg e, z]
    have g2 : (sumR T.length fun i => sumR T.length fun o' => M i o' d + if i = a then (if o' = o then (if d = t then x else 0) else 0) else 0) = (sumR T.length fun i => sumR T.length fun o' => M i o' d) + if d = t then x else 0 := by
      rw [sumR_congr fun i _ => sumR_add T.length (fun o' => M i o' d) _, sumR_add]
      congr 1
      have : ∀ i, i < T.length → (sumR T.length fun o' => if i = a then (if o' = o then (if d = t then x else 0) else 0) else (0 : Int)) = if i = a then (if d = t then x else 0) else 0 := fun i _ => by
        by_cases e : i = a
        · simp only [if_pos e]; exact sumR_pick ho fun _ => if d = t then x else 0
        · simp only [if_neg e, z]
      rw [sumR_congr this]
      exact sumR_pick ha fun _ => if d = t then x else 0
    rw [g1, g2]
    by_cases e : d = a
    · subst e
      have e2 : ¬ d = t := fun c => hta c.symm
      rw [if_pos rfl, if_pos rfl, if_neg e2]; omega
    · by_cases e2 : d = t
      · subst e2; rw [if_neg e, if_pos rfl, if_neg e, if_pos rfl]; omega
      · rw [if_neg e, if_neg e2, if_neg e, if_neg e2]; omega
  · try dsimp only
    by_cases e : i = a ∧ o' = o
    · rw [if_pos e]; omega
    · rw [if_neg e]; exact h.pos i o' hi ho'
  · try dsimp only
    have := h.give d hd hv
    by_cases e : d = a
    · subst e; rw [if_pos rfl]; omega
    · by_cases e2 : d = t
      · subst e2; exact absurd hv hvt
      · rw [if_neg e, if_neg e2]; exact this
  · try dsimp only
    have := h.take d hd hv
    by_cases e : d = a
    · subst e; exact absurd hva hv
    · by_cases e2 : d = t
      · subst e2; rw [if_neg e, if_pos rfl]; omega
      · rw [if_neg e, if_neg e2]; exact this
end
end Quo
/- Reliefs, plain: what is moved from whom for whom to whom; sets of devices that cannot take more; the relief that is taken first. -/
namespace Quo
set_option linter.unusedVariables false
/-- A relief: x i o t bytes of owner o move from i to t. -/
structure Relx (n : Nat) (gv : Nat → Int) (hs : Nat → Nat → Int) (tk : Nat → Int) (x : Nat → Nat → Nat → Int) : Prop where
  nn : ∀ i o t, i < n → o < n → t < n → 0 ≤ x i o t
  dom : ∀ i o t, i < n → o < n → t < n → x i o t ≠ 0 → t ≠ i ∧ t ≠ o
  out : ∀ i o, i < n → o < n → (sumR n fun t => x i o t) ≤ hs i o
  give : ∀ i, i < n → (sumR n fun o => sumR n fun t => x i o t) = gv i
  take : ∀ t, t < n → (sumR n fun i => sumR n fun o => x i o t) ≤ tk t
/-- Somebody outside the set can take bytes of owner o from h. -/
def opn (n : Nat) (A : Nat → Bool) (h o : Nat) : Bool := (List.range n).any fun t => decide (t ≠ h) && decide (t ≠ o) && !A t
theorem opn_iff {n : Nat} {A : Nat → Bool} {h o : Nat} : opn n A h o = true ↔ ∃ t, t < n ∧ t ≠ h ∧ t ≠ o ∧ A t = false := by
  unfold opn
  rw [List.any_eq_true]
  constructor
  · rintro ⟨t, ht, hp⟩
    simp at hp ht
    exact ⟨t, ht, hp.1.1, hp.1.2, hp.2⟩
  · rintro ⟨t, ht, h1, h2, h3⟩
    exact ⟨t, by simpa using ht, by simp [h1, h2, h3]⟩
def canV (n : Nat) (hs : Nat → Nat → Int) (A : Nat → Bool) (h : Nat) : Int := sumR n fun o => if opn n A h o = true then hs h o else 0
def cutV (n : Nat) (gv : Nat → Int) (hs : Nat → Nat → Int) (tk : Nat → Int) (A : Nat → Bool) : Int := (sumR n fun t => if A t = true then tk t else 0) + sumR n fun h => min (gv h) (canV n hs A h)
theorem sumR2_congr {n : Nat} {f g : Nat → Nat → Int} (h : ∀ i j, i < n → j < n → f i j = g i j) : (sumR n fun i => sumR n fun j => f i j) = sumR n fun i => sumR n fun j => g i j := sumR_congr fun i hi => sumR_congr fun j hj => h i j hi hj
theorem sumR_term0 {n : Nat} {f : Nat → Int} (h : ∀ i, i < n → 0 ≤ f i) (hz : sumR n f ≤ 0) {k : Nat} (hk : k < n) : f k = 0 := by
  have h1 := sumR_ge h hk
  have h2 := h k hk
  omega
/-- No set is smaller than a relief. -/
theorem relx_weak {n : Nat} {gv : Nat → Int} {hs : Nat → Nat → Int} {tk : Nat → Int} {x : Nat → Nat → Nat → Int} (h : Relx n gv hs tk x) (A : Nat → Bool) : sumR n gv ≤ cutV n gv hs tk A := by
  have e0 : sumR n gv = sumR n fun i => sumR n fun o => sumR n fun t => x i o t := sumR_congr fun i hi => (h.give i hi).symm
  have e1 : (sumR n fun i => sumR n fun o => sumR n fun t => x i o t) = (sumR n fun i => sumR n fun o => sumR n fun t => if A t = true then x i o t else 0) + sumR n fun i => sumR n fun o => sumR n fun t => if A t = true then 0 else x i o t := by
    rw [← sumR_add]
    refine sumR_congr fun i _ => ?_
    rw [← sumR_add]
    refine sumR_congr fun o _ => ?_
    rw [← sumR_add]
    refine sumR_congr fun t _ => ?_
    by_cases e : A t = true
    · rw [if_pos e, if_pos e]; omega
    · rw [if_neg e, if_neg e]; omega
  have e2 : (sumR n fun i => sumR n fun o => sumR n fun t => if A t = true then x i o t else 0) = sumR n fun t => if A t = true then (sumR n fun i => sumR n fun o => x i o t) else 0 := by
    rw [sumR_congr fun i _ => sumR_swap n n fun o t => if A t = true then x i o t else 0, sumR_swap]
    refine sumR_congr fun t _ => ?_
    by_cases e : A t = true
    · simp only [if_pos e]
    · simp only [if_neg e]
      exact sumR_zero fun i _ => sumR_zero fun o _ => rfl
  have l1 : (sumR n fun t => if A t = true then (sumR n fun i => sumR n fun o => x i o t) else 0) ≤ sumR n fun t => if A t = true then tk t else 0 := sumR_le fun t ht => by
    by_cases e : A t = true
    · rw [if_pos e, if_pos e]; exact h.take t ht
    · rw [if_neg e, if_neg e]; exact Int.le_refl _
  have l2 : (sumR n fun i => sumR n fun o => sumR n fun t => if A t = true then 0 else x i o t) ≤ sumR n fun i => min (gv i) (canV n hs A i) := sumR_le fun i hi => by
    have a1 : (sumR n fun o => sumR n fun t => if A t = true then 0 else x i o t) ≤ gv i := by
      rw [← h.give i hi]
      refine sumR_le fun o ho => sumR_le fun t ht => ?_
      have := h.nn i o t hi ho ht
      by_cases e : A t = true
      · rw [if_pos e]; exact this
      · rw [if_neg e]; exact Int.le_refl _
    have a2 : (sumR n fun o => sumR n fun t => if A t = true then 0 else x i o t) ≤ canV n hs A i := by
      unfold canV
      refine sumR_le fun o ho => ?_
      by_cases e : opn n A i o = true
      · rw [if_pos e]
        refine Int.le_trans (sumR_le fun t ht => ?_) (h.out i o hi ho)
        have := h.nn i o t hi ho ht
        by_cases e : A t = true
        · rw [if_pos e]; exact this
        · rw [if_neg e]; exact Int.le_refl _
      · rw [if_neg e]
        refine Int.le_of_eq (sumR_zero fun t ht => ?_)
        by_cases e3 : A t = true
        · rw [if_pos e3]
        · rw [if_neg e3]
          refine Classical.byContradiction fun hz => e (opn_iff.2 ?_)
          obtain ⟨d1, d2⟩ := h.dom i o t hi ho ht hz
          exact ⟨t, ht, d1, d2, by simpa using e3⟩
    omega
  unfold cutV
  omega
/-- What a device has to give, and what it can take. -/
def gvT (T : Tab) (q : List Int) (d : Nat) : Int := max 0 (loadOf T d - q.getD d 0)
def tkT (T : Tab) (q : List Int) (d : Nat) : Int := max 0 (q.getD d 0 - loadOf T d)
theorem gv_over {T : Tab} {q : List Int} {d : Nat} (h : over T q d) : gvT T q d = loadOf T d - q.getD d 0 ∧ tkT T q d = 0 := by unfold over at h; unfold gvT tkT; omega
theorem gv_under {T : Tab} {q : List Int} {d : Nat} (h : ¬ over T q d) : gvT T q d = 0 ∧ tkT T q d = q.getD d 0 - loadOf T d := by unfold over at h; unfold gvT tkT; omega
theorem gv_sum (T : Tab) (q : List Int) : sumR T.length (gvT T q) = (relief T q).2.2 := by
  rw [relief_excess]
  refine sumR_congr fun d _ => ?_
  by_cases h : over T q d
  · rw [if_pos h, (gv_over h).1]
  · rw [if_neg h, (gv_under h).1]
/-- A flow that relieves all is a relief. -/
theorem flow_relx {T : Tab} {q : List Int} {φ : Key → Int} (hT : VT T) (h : Flow T q φ) (hx : ¬ dv T q φ 0 < (relief T q).2.2) : Relx T.length (gvT T q) (at2 T) (tkT T q) (mvs T q φ) := by
  refine ⟨fun i o t hi ho ht => mvs_nn h.feas hi ho ht, fun i o t hi ho ht hz => ?_, fun i o hi ho => h.hold hT hi ho, fun i hi => ?_, fun t ht => ?_⟩
  · have hk : okO T q i o ∧ okT T q o t := Classical.byContradiction fun hn => hz (if_neg hn)
    exact ⟨fun e => hk.2.1 (by rw [e]; exact hk.1.1), hk.2.2⟩
  · rw [h.give hi]
    by_cases hv : over T q i
    · rw [if_pos hv, (gv_over hv).1]
      exact (excess_le h.feas).2 hx i hi hv
    · rw [if_neg hv, (gv_under hv).1]
  · rw [h.take ht]
    by_cases hv : over T q t
    · rw [if_pos hv, (gv_over hv).2]; exact Int.le_refl _
    · rw [if_neg hv, (gv_under hv).2]; exact (h.takeLe ht hv).2
/-- A relief is a flow that relieves all. -/
theorem relx_flow {T : Tab} {q : List Int} {x : Nat → Nat → Nat → Int} (hT : VT T) (h : Relx T.length (gvT T q) (at2 T) (tkT T q) x) : ∃ ψ, Flow T q ψ ∧ ¬ dv T q ψ 0 < (relief T q).2.2 ∧ ∀ i o t, i < T.length → o < T.length → t < T.length → mvs T q ψ i o t = x i o t := by
  obtain ⟨M, hM⟩ : ∃ M : Nat → Nat → Nat → Int, M = fun i o t => if i < T.length ∧ o < T.length ∧ t < T.length then x i o t else 0 := ⟨_, rfl⟩
  have hin : ∀ i o t, i < T.length → o < T.length → t < T.length → M i o t = x i o t := fun i o t hi ho ht => by rw [hM]; exact if_pos ⟨hi, ho, ht⟩
  have so : ∀ i o, i < T.length → o < T.length → (sumR T.length fun t => M i o t) = sumR T.length fun t => x i o t := fun i o hi ho => sumR_congr fun t ht => hin i o t hi ho ht
  have sg : ∀ i, i < T.length → (sumR T.length fun o => sumR T.length fun t => M i o t) = sumR T.length fun o => sumR T.length fun t => x i o t := fun i hi => sumR2_congr fun o t ho ht => hin i o t hi ho ht
  have st : ∀ t, t < T.length → (sumR T.length fun i => sumR T.length fun o => M i o t) = sumR T.length fun i => sumR T.length fun o => x i o t := fun t ht => sumR2_congr fun i o hi ho => hin i o t hi ho ht
  have n1 : ∀ i, i < T.length → 0 ≤ sumR T.length fun o => sumR T.length fun t => x i o t := fun i hi => sumR_nonneg fun o ho => sumR_nonneg fun t ht => h.nn i o t hi ho ht
  have n2 : ∀ t, t < T.length → 0 ≤ sumR T.length fun i => sumR T.length fun o => x i o t := fun t ht => sumR_nonneg fun i hi => sumR_nonneg fun o ho => h.nn i o t hi ho ht
  have z1 : ∀ i o t, i < T.length → o < T.length → t < T.length → ¬ over T q i → x i o t = 0 := fun i o t hi ho ht hv => by
    have h1 := h.give i hi
    rw [(gv_under hv).1] at h1
    have h2 := sumR_term0 (f := fun o => sumR T.length fun t => x i o t) (fun o ho => sumR_nonneg fun t ht => h.nn i o t hi ho ht) (by rw [h1]; exact Int.le_refl _) ho
    exact sumR_term0 (f := fun t => x i o t) (fun t ht => h.nn i o t hi ho ht) (Int.le_of_eq h2) ht
  have z2 : ∀ i o t, i < T.length → o < T.length → t < T.length → over T q t → x i o t = 0 := fun i o t hi ho ht hv => by
    have h1 := h.take t ht
    rw [(gv_over hv).2] at h1
    have h2 := sumR_term0 (f := fun i => sumR T.length fun o => x i o t) (fun i hi => sumR_nonneg fun o ho => h.nn i o t hi ho ht) h1 hi
    exact sumR_term0 (f := fun o => x i o t) (fun o ho => h.nn i o t hi ho ht) (Int.le_of_eq h2) ho
  have G : Greedy T q M (fun i o => at2 T i o - sumR T.length fun t => M i o t) (fun d => loadOf T d - (sumR T.length fun o => sumR T.length fun t => M d o t) + sumR T.length fun i => sumR T.length fun o => M i o d) := by
    refine ⟨fun i o t => ?_, fun i o t hz => ?_, fun i o _ _ => rfl, fun d _ => rfl, fun i o hi ho => ?_, fun d hd hv => ?_, fun d hd hv => ?_⟩
    · rw [hM]
      dsimp only
      split
      · rename_i c; exact h.nn i o t c.1 c.2.1 c.2.2
      · exact Int.le_refl _
    · have c : i < T.length ∧ o < T.length ∧ t < T.length := Classical.byContradiction fun hn => hz (by rw [hM]; exact if_neg hn)
      rw [hin i o t c.1 c.2.1 c.2.2] at hz
      refine ⟨Classical.byContradiction fun hv => hz (z1 i o t c.1 c.2.1 c.2.2 hv), fun hv => hz (z2 i o t c.1 c.2.1 c.2.2 hv), (h.dom i o t c.1 c.2.1 c.2.2 hz).2⟩
    · try dsimp only
      rw [so i o hi ho]
      have := h.out i o hi ho
      omega
    · try dsimp only
      rw [sg d hd, st d hd, h.give d hd, (gv_over hv).1]
      have := n2 d hd
      omega
    · try dsimp only
      rw [sg d hd, st d hd, h.give d hd, (gv_under hv).1]
      have := h.take d hd
      rw [(gv_under hv).2] at this
      omega
  refine ⟨_, G.flow, ?_, fun i o t hi ho ht => by rw [G.mv hi ho ht, hin i o t hi ho ht]⟩
  rw [dv_all, relief_excess]
  have e : (sumR T.length fun d => if over T q d then gFlow T.length M (0, d, 0, 0) else 0) = sumR T.length fun d => if over T q d then loadOf T d - q.getD d 0 else 0 := sumR_congr fun d hd => by
    by_cases hv : over T q d
    · rw [if_pos hv, if_pos hv]
      have e : gFlow T.length M (0, d, 0, 0) = sumR T.length fun o => sumR T.length fun t => M d o t := rfl
      rw [e, sg d hd, h.give d hd, (gv_over hv).1]
    · rw [if_neg hv, if_neg hv]
  rw [e]
  exact Int.lt_irrefl _
/-- Either there is a relief, or some set of devices is too small. -/
theorem relx_strong {T : Tab} {q : List Int} (hT : VT T) (hq : Cnt q) (hn : ∀ x, ¬ Relx T.length (gvT T q) (at2 T) (tkT T q) x) : ∃ A : Nat → Bool, cutV T.length (gvT T q) (at2 T) (tkT T q) A < sumR T.length (gvT T q) := by
  obtain ⟨f, g1, tot, φ, _, C, hd, h0, hmax, S, s1, s2, s3⟩ := first_spec hT hq
  have hfl : Flow T q φ := ⟨C.feas (fun κ h => by simp at h) (fun v h0 h1 => by rw [hd v, Dfl_in h0 h1]), fun v h0 h1 => by rw [hd v, Dfl_in h0 h1]⟩
  have htot : tot < sumR T.length (gvT T q) := by
    rw [gv_sum]
    refine Classical.byContradiction fun hc => hn _ (flow_relx hT hfl ?_)
    rw [hd 0, Dfl_zero]; exact hc
  refine ⟨fun t => decide (2 + T.length + t ∈ S) || decide (over T q t), Int.lt_of_le_of_lt ?_ htot⟩
  -- the flow over the cut
  have e1 : dS T q S φ = tot := by
    unfold dS
    have : ∀ v, v < nodesN T.length → (if v ∈ S then dv T q φ v else 0) = if v = 0 then tot else 0 := by
      intro v _
      by_cases h0 : v = 0
      · subst h0; rw [if_pos s1, if_pos rfl, hd, Dfl_zero]
      · rw [if_neg h0]
        by_cases h1 : v = 1
        · subst h1; rw [if_neg s2]
        · rw [hd v, Dfl_in h0 h1]; split <;> rfl
    rw [sumR_congr this, sumR_pick (show 0 < nodesN T.length by unfold nodesN; omega) (fun _ => tot)]
  rw [dS_keys] at e1
  have e2 : sumK (keys T q) (fun κ => (ind (kf T.length κ ∈ S) - ind (kt T.length κ ∈ S)) * φ κ) = sumK (keys T q) fun κ => if kf T.length κ ∈ S ∧ kt T.length κ ∉ S then kr T q κ else 0 := by
    refine sumK_congr fun κ hκ => ?_
    obtain ⟨h1, h2⟩ := C.free κ hκ (by simp)
    obtain ⟨t1, t2⟩ := C.like.tails hκ
    obtain ⟨l1, l2⟩ := idx_lt C.like hκ
    obtain ⟨b1, b2⟩ := hfl.feas κ hκ
    have p1 : g1.tip (2 * idxK T q κ) = kt T.length κ := by rw [← t2]; unfold tailA; rw [xor_odd]
    have p2 : g1.tip (2 * idxK T q κ + 1) = kf T.length κ := by rw [← t1]; unfold tailA; rw [xor_even]
    by_cases c1 : kf T.length κ ∈ S
    · by_cases c2 : kt T.length κ ∈ S
      · rw [ind_t c1, ind_t c2, if_neg (fun c => c.2 c2)]; simp
      · have : ¬ 0 < roomE T q g1 κ := fun z => c2 (by rw [← p1]; exact s3 _ c1 _ l1 t1 z)
        rw [ind_t c1, ind_f c2, if_pos ⟨c1, c2⟩]; omega
    · rw [if_neg (fun c => c1 c.1)]
      by_cases c2 : kt T.length κ ∈ S
      · have : ¬ 0 < roomO T q g1 κ := fun z => c1 (by rw [← p2]; exact s3 _ c2 _ l2 t2 z)
        rw [ind_f c1, ind_t c2]; omega
      · rw [ind_f c1, ind_f c2]; simp
  rw [e2, sumK_keys] at e1
  rw [← e1]
  unfold cutV
  -- the devices
  have hkr0 : ∀ d, over T q d → kr T q (0, d, 0, 0) = loadOf T d - q.getD d 0 := fun d _ => rfl
  have hkr1 : ∀ d, kr T q (1, d, 0, 0) = q.getD d 0 - loadOf T d := fun d => rfl
  have a1 : (sumR T.length fun t => if (decide (2 + T.length + t ∈ S) || decide (over T q t)) = true then tkT T q t else 0) ≤ sumR T.length fun d => if ¬ over T q d ∧ 2 + T.length + d ∈ S then q.getD d 0 - loadOf T d else 0 := sumR_le fun d _ => by
    by_cases hv : over T q d
    · rw [(gv_over hv).2, if_neg (show ¬ (¬ over T q d ∧ 2 + T.length + d ∈ S) from fun c => c.1 hv)]; split <;> exact Int.le_refl _
    · by_cases hs : 2 + T.length + d ∈ S
      · rw [if_pos (by simp [hs]), if_pos ⟨hv, hs⟩, (gv_under hv).2]; exact Int.le_refl _
      · rw [if_neg (by simp [hs, hv]), if_neg (fun c => hs c.2)]; exact Int.le_refl _
  have a2 : ∀ d, d < T.length → (if kf T.length (keyA T q d) ∈ S ∧ kt T.length (keyA T q d) ∉ S then kr T q (keyA T q d) else 0) = (if ¬ over T q d ∧ 2 + T.length + d ∈ S then q.getD d 0 - loadOf T d else 0) + if over T q d ∧ 2 + d ∉ S then loadOf T d - q.getD d 0 else 0 := by
    intro d hdl
    by_cases hv : over T q d
    · rw [keyA_over hv, kf0, kt0, if_neg (show ¬ (¬ over T q d ∧ _) from fun c => c.1 hv)]
      by_cases hs : 2 + d ∈ S
      · rw [if_neg (fun c => c.2 hs), if_neg (fun c => c.2 hs)]; rfl
      · rw [if_pos ⟨s1, hs⟩, if_pos ⟨hv, hs⟩, hkr0 d hv]; omega
    · rw [keyA_under hv, kf1, kt1, if_neg (show ¬ (over T q d ∧ _) from fun c => hv c.1)]
      by_cases hs : 2 + T.length + d ∈ S
      · rw [if_pos ⟨hs, s2⟩, if_pos ⟨hv, hs⟩, hkr1]; omega
      · rw [if_neg (fun c => hs c.1), if_neg (fun c => hs c.2)]; rfl
  rw [sumR_congr a2, sumR_add]
  -- who gives
  refine Int.le_trans (Int.add_le_add_right a1 _) ?_
  rw [Int.add_assoc]
  refine Int.add_le_add_left ?_ _
  rw [← sumR_add]
  refine sumR_le fun h hh => ?_
  have hT2 : ∀ o, 0 ≤ at2 T h o := fun o => at2_nonneg hT h o
  have nn2 : 0 ≤ sumR T.length fun o => if okO T q h o then (if kf T.length (2, h, o, 0) ∈ S ∧ kt T.length (2, h, o, 0) ∉ S then kr T q (2, h, o, 0) else 0) + sumR T.length (fun t => if okT T q o t then (if kf T.length (3, h, o, t) ∈ S ∧ kt T.length (3, h, o, t) ∉ S then kr T q (3, h, o, t) else 0) else 0) else 0 := by
    refine sumR_nonneg fun o _ => ?_
    split
    · refine Int.add_nonneg ?_ (sumR_nonneg fun t _ => ?_)
      · split
        · exact hT2 o
        · exact Int.le_refl _
      · split
        · split
          · exact hT2 o
          · exact Int.le_refl _
        · exact Int.le_refl _
    · exact Int.le_refl _
  by_cases hv : over T q h
  · by_cases hs : 2 + h ∈ S
    · rw [if_neg (fun c => c.2 hs)]
      refine Int.le_trans (Int.min_le_right _ _) ?_
      rw [Int.zero_add]
      unfold canV
      refine sumR_le fun o ho => ?_
      by_cases hop : opn T.length (fun t => decide (2 + T.length + t ∈ S) || decide (over T q t)) h o = true
      · rw [if_pos hop]
        by_cases hk : okO T q h o
        · rw [if_pos hk]
          by_cases hst : stockOf T.length h o ∈ S
          · obtain ⟨t, ht, h1, h2, h3⟩ := opn_iff.1 hop
            simp at h3
            have hge := sumR_ge (f := fun t => if okT T q o t then (if kf T.length (3, h, o, t) ∈ S ∧ kt T.length (3, h, o, t) ∉ S then kr T q (3, h, o, t) else 0) else 0) (fun t _ => by
              split
              · split
                · exact hT2 o
                · exact Int.le_refl _
              · exact Int.le_refl _) ht
            rw [if_pos (show okT T q o t from ⟨h3.2, h2⟩), if_pos (show kf T.length (3, h, o, t) ∈ S ∧ kt T.length (3, h, o, t) ∉ S from ⟨hst, h3.1⟩)] at hge
            have e3 : kr T q (3, h, o, t) = at2 T h o := rfl
            rw [e3] at hge
            refine Int.le_trans hge ?_
            have : 0 ≤ if kf T.length (2, h, o, 0) ∈ S ∧ kt T.length (2, h, o, 0) ∉ S then kr T q (2, h, o, 0) else 0 := by
              split
              · exact hT2 o
              · exact Int.le_refl _
            omega
          · have : 0 ≤ sumR T.length (fun t => if okT T q o t then (if kf T.length (3, h, o, t) ∈ S ∧ kt T.length (3, h, o, t) ∉ S then kr T q (3, h, o, t) else 0) else 0) := sumR_nonneg fun t _ => by
              split
              · split
                · exact hT2 o
                · exact Int.le_refl _
              · exact Int.le_refl _
            rw [if_pos (show kf T.length (2, h, o, 0) ∈ S ∧ kt T.length (2, h, o, 0) ∉ S from ⟨hs, hst⟩)]
            have e3 : kr T q (2, h, o, 0) = at2 T h o := rfl
            rw [e3]; omega
        · rw [if_neg hk]
          have : at2 T h o = 0 := Classical.byContradiction fun hz => hk ⟨hv, hz⟩
          rw [this]; exact Int.le_refl _
      · rw [if_neg hop]
        split
        · refine Int.add_nonneg ?_ (sumR_nonneg fun t _ => ?_)
          · split
            · exact hT2 o
            · exact Int.le_refl _
          · split
            · split
              · exact hT2 o
              · exact Int.le_refl _
            · exact Int.le_refl _
        · exact Int.le_refl _
    · rw [if_pos ⟨hv, hs⟩]
      have := (gv_over hv).1
      have h3 := Int.min_le_left (gvT T q h) (canV T.length (at2 T) (fun t => decide (2 + T.length + t ∈ S) || decide (over T q t)) h)
      omega
  · rw [if_neg (fun c => hv c.1)]
    have := (gv_under hv).1
    have h3 := Int.min_le_left (gvT T q h) (canV T.length (at2 T) (fun t => decide (2 + T.length + t ∈ S) || decide (over T q t)) h)
    omega
end Quo
/- The relief that is taken first, plain: what is moved one after the other, each as much as leaves a relief of the rest. -/
namespace Quo
set_option linter.unusedVariables false
/-- (i, o, t) comes ahead of (a, b, c). -/
def Ahead (a b c i o t : Nat) : Prop := i < a ∨ (i = a ∧ (o < b ∨ (o = b ∧ t < c)))
instance (a b c i o t : Nat) : Decidable (Ahead a b c i o t) := by unfold Ahead; infer_instance
/-- A relief of all, taken first where there is a choice. -/
structure BestX (T : Tab) (q : List Int) (x : Nat → Nat → Nat → Int) : Prop where
  relx : Relx T.length (gvT T q) (at2 T) (tkT T q) x
  best : ∀ y, Relx T.length (gvT T q) (at2 T) (tkT T q) y → ∀ i o t, i < T.length → o < T.length → t < T.length → (∀ i' o' t', i' < T.length → o' < T.length → t' < T.length → Ahead i o t i' o' t' → y i' o' t' = x i' o' t') → y i o t ≤ x i o t
theorem Best.x {T : Tab} {q : List Int} {φ : Key → Int} (hT : VT T) (h : Best T q φ) : BestX T q (mvs T q φ) := by
  refine ⟨flow_relx hT h.flow h.all, fun y hy i o t hi ho ht he => ?_⟩
  obtain ⟨ψ, f1, f2, f3⟩ := relx_flow hT hy
  by_cases hk : okO T q i o ∧ okT T q o t
  · have hm : (3, i, o, t) ∈ keys T q := mem_keys.2 (.inr ⟨i, o, hi, ho, hk.1, .inr ⟨t, ht, hk.2, rfl⟩⟩)
    obtain ⟨a, b, hab⟩ := List.append_of_mem hm
    have hb := h.best a (3, i, o, t) b hab rfl ψ f1 f2 (fun κ hκ h3 => ?_)
    · rw [← f3 i o t hi ho ht, mvs_yes hk.1 hk.2, mvs_yes hk.1 hk.2]; exact hb
    · have hκk : κ ∈ keys T q := by rw [hab]; exact List.mem_append_left _ hκ
      rcases mem_keys.1 hκk with ⟨d, hd, rfl⟩ | ⟨i', o', hi', ho', hk', rfl | ⟨t', ht', hkt', rfl⟩⟩
      · have := (keyA_dev T q d).2; omega
      · cases h3
      · have hs := rel_sorted T q (fun _ => 1)
        unfold relMoves at hs
        rw [hab, List.flatMap_append, List.pairwise_append] at hs
        have h5 := hs.2.2 ⟨i', t', o', 1⟩ (List.mem_flatMap.2 ⟨_, hκ, by simp [movK]⟩) ⟨i, t, o, 1⟩ (List.mem_flatMap.2 ⟨_, List.mem_cons_self, by simp [movK]⟩)
        have h6 := f3 i' o' t' hi' ho' ht'
        rw [he i' o' t' hi' ho' ht' h5, mvs_yes hk' hkt', mvs_yes hk' hkt'] at h6
        exact h6
  · have e : y i o t = mvs T q ψ i o t := (f3 i o t hi ho ht).symm
    have e1 : mvs T q ψ i o t = 0 := if_neg hk
    have e2 : mvs T q φ i o t = 0 := if_neg hk
    rw [e, e1, e2]; exact Int.le_refl _
/-- A relief that gives at least what the first one gives ahead of a place gives just that. -/
theorem BestX.agree {T : Tab} {q : List Int} {x w : Nat → Nat → Nat → Int} (h : BestX T q x) (hw : Relx T.length (gvT T q) (at2 T) (tkT T q) w) {a b c : Nat} (hge : ∀ i o t, i < T.length → o < T.length → t < T.length → Ahead a b c i o t → x i o t ≤ w i o t) :
    ∀ i o t, i < T.length → o < T.length → t < T.length → Ahead a b c i o t → w i o t = x i o t := by
  intro i
  induction i using Nat.strongRecOn with
  | _ i ihi =>
    intro o
    induction o using Nat.strongRecOn with
    | _ o iho =>
      intro t
      induction t using Nat.strongRecOn with
      | _ t iht =>
        intro hi ho ht hA
        have h1 := h.best w hw i o t hi ho ht fun i' o' t' hi' ho' ht' hB => by
          rcases hB with hB | ⟨rfl, hB | ⟨rfl, hB⟩⟩
          · exact ihi i' hB o' t' hi' ho' ht' (by unfold Ahead at hA ⊢; omega)
          · exact iho o' hB t' hi' ho' ht' (by unfold Ahead at hA ⊢; omega)
          · exact iht t' hB hi' ho' ht' (by unfold Ahead at hA ⊢; omega)
        have h2 := hge i o t hi ho ht hA
        omega
/-- What is still to be relieved when z was moved. -/
structure RS (T : Tab) (q : List Int) (z : Nat → Nat → Nat → Int) (G : List Int) (N : Tab) (K : List Int) : Prop where
  vt : VT T
  cnt : Cnt q
  ql : q.length = T.length
  gl : G.length = T.length
  nl : N.length = T.length
  kl : K.length = T.length
  sq : Sq N
  nn : ∀ i o t, i < T.length → o < T.length → t < T.length → 0 ≤ z i o t
  dom : ∀ i o t, i < T.length → o < T.length → t < T.length → z i o t ≠ 0 → t ≠ i ∧ t ≠ o
  give : ∀ i, i < T.length → G.getD i 0 = gvT T q i - sumR T.length fun o => sumR T.length fun t => z i o t
  has : ∀ i o, i < T.length → o < T.length → at2 N i o = at2 T i o - sumR T.length fun t => z i o t
  take : ∀ t, t < T.length → K.getD t 0 = tkT T q t - sumR T.length fun i => sumR T.length fun o => z i o t
  g0 : ∀ i, i < T.length → 0 ≤ G.getD i 0
  n0 : ∀ i o, i < T.length → o < T.length → 0 ≤ at2 N i o
  k0 : ∀ t, t < T.length → 0 ≤ K.getD t 0
theorem RS.start {T : Tab} {q : List Int} (hT : VT T) (hq : Cnt q) (hl : q.length = T.length) : RS T q (fun _ _ _ => 0) ((List.range T.length).map (gvT T q)) T ((List.range T.length).map (tkT T q)) := by
  have z : ∀ n, sumR n (fun _ => (0 : Int)) = 0 := fun n => sumR_zero fun _ _ => rfl
  have e : ∀ (f : Nat → Int) i, i < T.length → ((List.range T.length).map f).getD i 0 = f i := fun f i hi => by
    rw [List.getD_eq_getElem?_getD, List.getElem?_map, List.getElem?_range hi]; rfl
  refine ⟨hT, hq, hl, by simp, rfl, by simp, hT.sq, fun _ _ _ _ _ _ => Int.le_refl _, fun _ _ _ _ _ _ h => absurd rfl h, fun i hi => ?_, fun i o _ _ => ?_, fun t ht => ?_, fun i hi => ?_, fun i o _ _ => at2_nonneg hT i o, fun t ht => ?_⟩
  · rw [e _ i hi]; simp only [z]; omega
  · rw [z]; omega
  · rw [e _ t ht]; simp only [z]; omega
  · rw [e _ i hi]; unfold gvT; omega
  · rw [e _ t ht]; unfold tkT; omega
section
variable {T : Tab} {q : List Int} {z : Nat → Nat → Nat → Int} {G : List Int} {N : Tab} {K : List Int}
theorem RS.zout (h : RS T q z G N K) {i : Nat} (hi : i < T.length) : 0 ≤ sumR T.length fun o => sumR T.length fun t => z i o t := sumR_nonneg fun o ho => sumR_nonneg fun t ht => h.nn i o t hi ho ht
theorem RS.zin (h : RS T q z G N K) {t : Nat} (ht : t < T.length) : 0 ≤ sumR T.length fun i => sumR T.length fun o => z i o t := sumR_nonneg fun i hi => sumR_nonneg fun o ho => h.nn i o t hi ho ht
theorem RS.zrow (h : RS T q z G N K) {i o : Nat} (hi : i < T.length) (ho : o < T.length) : 0 ≤ sumR T.length fun t => z i o t := sumR_nonneg fun t ht => h.nn i o t hi ho ht
theorem RS.one (h : RS T q z G N K) {d : Nat} (hd : d < T.length) : G.getD d 0 = 0 ∨ K.getD d 0 = 0 := by
  have h1 := h.give d hd; have h2 := h.take d hd; have h3 := h.zout hd; have h4 := h.zin hd; have h5 := h.g0 d hd; have h6 := h.k0 d hd
  by_cases hv : over T q d
  · have := (gv_over hv).2; omega
  · have := (gv_under hv).1; omega
theorem RS.vtN (h : RS T q z G N K) : VT N := by
  refine vt_of (by rw [h.nl]; exact h.vt.1) h.sq (fun i hi => ?_) (fun i j hi hj => ?_)
  · rw [h.nl] at hi
    obtain ⟨r, h1, h2, h3, h4, h5⟩ := h.vt.cell hi hi
    have h6 := h.has i i hi hi; have h7 := h.n0 i i hi hi; have h8 := h.zrow hi hi
    have h9 : at2 T i i = 0 := getD_of (h.vt.2 i hi).2.1
    omega
  · rw [h.nl] at hi hj
    obtain ⟨r, h1, h2, h3, h4, h5⟩ := h.vt.cell hi hj
    have h6 := h.has i j hi hj; have h7 := h.n0 i j hi hj; have h8 := h.zrow hi hj
    exact ⟨h7, by omega⟩
/-- Quotas for which this is the first state. -/
def qOf (G : List Int) (N : Tab) (K : List Int) : List Int := (List.range N.length).map fun d => loadOf N d - G.getD d 0 + K.getD d 0
theorem RS.load (h : RS T q z G N K) {d : Nat} (hd : d < T.length) : loadOf N d = loadOf T d - sumR T.length fun o => sumR T.length fun t => z d o t := by
  rw [load_at h.vtN (by rw [h.nl]; exact hd), load_at h.vt hd, h.nl, ← sumR_sub]
  exact sumR_congr fun o ho => h.has d o hd ho
theorem qOf_at (h : RS T q z G N K) {d : Nat} (hd : d < T.length) : (qOf G N K).getD d 0 = loadOf N d - G.getD d 0 + K.getD d 0 := by
  unfold qOf
  rw [List.getD_eq_getElem?_getD, List.getElem?_map, List.getElem?_range (by rw [h.nl]; exact hd)]; rfl
theorem RS.q_le (h : RS T q z G N K) {d : Nat} (hd : d < T.length) : 0 ≤ loadOf N d - G.getD d 0 + K.getD d 0 ∧ loadOf N d - G.getD d 0 + K.getD d 0 ≤ q.getD d 0 := by
  have h1 := h.give d hd; have h2 := h.take d hd; have h4 := h.zin hd; have h5 := h.load hd; have h6 := h.k0 d hd
  have h7 := quota_bound h.cnt d
  have h8 := (load_bound h.vt d).1
  have h9 : gvT T q d - tkT T q d = loadOf T d - q.getD d 0 := by unfold gvT tkT; omega
  have h10 : gvT T q d ≤ loadOf T d := by unfold gvT; omega
  omega
theorem RS.cntQ (h : RS T q z G N K) : Cnt (qOf G N K) := by
  intro v hv
  unfold qOf at hv
  obtain ⟨d, hd, rfl⟩ := List.mem_map.1 hv
  have hd := List.mem_range.1 hd
  rw [h.nl] at hd
  have h1 := h.q_le hd
  have h2 := quota_bound h.cnt d
  exact ⟨h1.1, by unfold maxC; omega⟩
theorem RS.gvE (h : RS T q z G N K) {d : Nat} (hd : d < T.length) : gvT N (qOf G N K) d = G.getD d 0 ∧ tkT N (qOf G N K) d = K.getD d 0 := by
  have h1 := h.one hd; have h2 := h.g0 d hd; have h3 := h.k0 d hd
  unfold gvT tkT
  rw [qOf_at h hd]
  omega
theorem relx_eq {n : Nat} {gv gv' : Nat → Int} {hs : Nat → Nat → Int} {tk tk' : Nat → Int} {x : Nat → Nat → Nat → Int} (h : Relx n gv hs tk x) (e1 : ∀ d, d < n → gv d = gv' d) (e2 : ∀ d, d < n → tk d = tk' d) : Relx n gv' hs tk' x :=
  ⟨h.nn, h.dom, h.out, fun i hi => (h.give i hi).trans (e1 i hi), fun t ht => by rw [← e2 t ht]; exact h.take t ht⟩
/-- What the specification's number says: there is a relief of the rest, or there is none. -/
theorem RS.cut (h : RS T q z G N K) (hn : ∀ y, ¬ Relx T.length (fun d => G.getD d 0) (at2 N) (fun d => K.getD d 0) y) : ∃ A : Nat → Bool, cutV T.length (fun d => G.getD d 0) (at2 N) (fun d => K.getD d 0) A < sumR T.length fun d => G.getD d 0 := by
  have h1 := relx_strong h.vtN h.cntQ (fun x hx => hn x (by
    rw [h.nl] at hx
    exact relx_eq hx (fun d hd => (h.gvE hd).1) (fun d hd => (h.gvE hd).2)))
  obtain ⟨A, hA⟩ := h1
  refine ⟨A, ?_⟩
  rw [h.nl] at hA
  have e1 : sumR T.length (gvT N (qOf G N K)) = sumR T.length fun d => G.getD d 0 := sumR_congr fun d hd => (h.gvE hd).1
  have e2 : cutV T.length (gvT N (qOf G N K)) (at2 N) (tkT N (qOf G N K)) A = cutV T.length (fun d => G.getD d 0) (at2 N) (fun d => K.getD d 0) A := by
    unfold cutV
    congr 1
    · refine sumR_congr fun t ht => ?_
      rw [(h.gvE ht).2]
    · refine sumR_congr fun d hd => ?_
      rw [(h.gvE hd).1]
  rw [e1, e2] at hA
  exact hA
/-- A relief of the rest, and one of all that has what was moved in it. -/
theorem RS.join (h : RS T q z G N K) {y : Nat → Nat → Nat → Int} (hy : Relx T.length (fun d => G.getD d 0) (at2 N) (fun d => K.getD d 0) y) : Relx T.length (gvT T q) (at2 T) (tkT T q) fun i o t => z i o t + y i o t := by
  refine ⟨fun i o t hi ho ht => Int.add_nonneg (h.nn i o t hi ho ht) (hy.nn i o t hi ho ht), fun i o t hi ho ht hz => ?_, fun i o hi ho => ?_, fun i hi => ?_, fun t ht => ?_⟩
  · by_cases c : z i o t = 0
    · exact hy.dom i o t hi ho ht (fun e => hz (by rw [c, e]; rfl))
    · exact h.dom i o t hi ho ht c
  · rw [sumR_add]
    change (sumR T.length fun t => z i o t) + (sumR T.length fun t => y i o t) ≤ at2 T i o
    have h1 := h.has i o hi ho; have h2 := hy.out i o hi ho
    rw [h1] at h2
    omega
  · rw [sumR_congr fun o _ => sumR_add T.length (fun t => z i o t) fun t => y i o t, sumR_add, hy.give i hi]
    have := h.give i hi
    omega
  · rw [sumR_congr fun i _ => sumR_add T.length (fun o => z i o t) fun o => y i o t, sumR_add]
    have h1 := h.take t ht; have h2 := hy.take t ht
    rw [h1] at h2
    omega
theorem RS.rest (h : RS T q z G N K) {w : Nat → Nat → Nat → Int} (hw : Relx T.length (gvT T q) (at2 T) (tkT T q) w) (hge : ∀ i o t, i < T.length → o < T.length → t < T.length → z i o t ≤ w i o t) : Relx T.length (fun d => G.getD d 0) (at2 N) (fun d => K.getD d 0) fun i o t => w i o t - z i o t := by
  refine ⟨fun i o t hi ho ht => by have := hge i o t hi ho ht; omega, fun i o t hi ho ht hz => ?_, fun i o hi ho => ?_, fun i hi => ?_, fun t ht => ?_⟩
  · by_cases c : z i o t = 0
    · exact hw.dom i o t hi ho ht (fun e => hz (by rw [c, e]; rfl))
    · exact h.dom i o t hi ho ht c
  · rw [sumR_sub]
    change (sumR T.length fun t => w i o t) - (sumR T.length fun t => z i o t) ≤ at2 N i o
    have h1 := h.has i o hi ho; have h2 := hw.out i o hi ho
    rw [h1]; omega
  · rw [sumR_congr fun o _ => sumR_sub T.length (fun t => w i o t) fun t => z i o t, sumR_sub, hw.give i hi]
    have := h.give i hi
    omega
  · rw [sumR_congr fun i _ => sumR_sub T.length (fun o => w i o t) fun o => z i o t, sumR_sub]
    have h1 := h.take t ht; have h2 := hw.take t ht
    rw [h1]; omega
/-- One move more. -/
def addZ (z : Nat → Nat → Nat → Int) (a b c : Nat) (x : Int) (i o t : Nat) : Int := z i o t + if i = a then (if o = b then (if t = c then x else 0) else 0) else 0
theorem RS.move (h : RS T q z G N K) {a b c : Nat} {x : Int} (ha : a < T.length) (hb : b < T.length) (hc : c < T.length) (hca : c ≠ a) (hcb : c ≠ b) (h0 : 0 ≤ x) (h1 : x ≤ G.getD a 0) (h2 : x ≤ at2 N a b) (h3 : x ≤ K.getD c 0) :
    RS T q (addZ z a b c x) (G.set a (G.getD a 0 - x)) (N.set a ((N.getD a []).set b (at2 N a b - x))) (K.set c (K.getD c 0 - x)) := by
  have zz : ∀ n, sumR n (fun _ => (0 : Int)) = 0 := fun n => sumR_zero fun _ _ => rfl
  have s1 : ∀ i o', sumR T.length (fun t' => if i = a then (if o' = b then (if t' = c then x else 0) else 0) else (0 : Int)) = if i = a then (if o' = b then x else 0) else 0 := fun i o' => by
    by_cases e : i = a
    · by_cases e' : o' = b
      · simp only [if_pos e, if_pos e']; exact sumR_pick hc fun _ => x
      · simp only [if_pos e, if_neg e', zz]
    · simp only [if_neg e, zz]
  have pa : ∀ i o', at2 (N.set a ((N.getD a []).set b (at2 N a b - x))) i o' = if i = a ∧ o' = b then at2 N a b - x else at2 N i o' := fun i o' => by
    have ha' : a < N.length := by rw [h.nl]; exact ha
    have hb' : b < (N.getD a []).length := by rw [h.sq a ha', h.nl]; exact hb
    unfold at2
    rw [set_getD ha']
    by_cases e : i = a
    · subst e
      rw [if_pos rfl, set_getD hb']
      by_cases e' : o' = b
      · rw [if_pos e', if_pos ⟨rfl, e'⟩]
      · rw [if_neg e', if_neg fun c => e' c.2]
    · rw [if_neg e, if_neg fun c => e c.1]
  refine ⟨h.vt, h.cnt, h.ql, by rw [List.length_set]; exact h.gl, by rw [List.length_set]; exact h.nl, by rw [List.length_set]; exact h.kl, ?_, ?_, ?_, ?_, ?_, ?_, ?_, ?_, ?_⟩
  · intro i hi
    rw [List.length_set] at hi ⊢
    have ha' : a < N.length := by rw [h.nl]; exact ha
    rw [set_getD ha']
    by_cases e : i = a
    · rw [if_pos e, List.length_set]; exact h.sq a ha'
    · rw [if_neg e]; exact h.sq i hi
  · intro i o t hi ho ht
    have := h.nn i o t hi ho ht
    unfold addZ
    split <;> (try split) <;> (try split) <;> omega
  · intro i o t hi ho ht hz
    by_cases hm : z i o t = 0
    · unfold addZ at hz
      rw [hm] at hz
      by_cases e : i = a
      · by_cases e' : o = b
        · by_cases e2 : t = c
          · subst e; subst e'; subst e2; exact ⟨hca, hcb⟩
          · simp [e2] at hz
        · simp [e'] at hz
      · simp [e] at hz
    · exact h.dom i o t hi ho ht hm
  · intro d hd
    have hh := h.give d hd
    have g1 : (sumR T.length fun o' => sumR T.length fun t' => addZ z a b c x d o' t') = (sumR T.length fun o' => sumR T.length fun t' => z d o' t') + if d = a then x else 0 := by
      unfold addZ
      rw [sumR_congr fun o' _ => sumR_add T.length (fun t' => z d o' t') _, sumR_add, sumR_congr fun o' _ => s1 d o']
      congr 1
      by_cases e : d = a
      · simp only [if_pos e]; exact sumR_pick hb fun _ => x
      · simp only [if_neg e, zz]
    rw [g1, set_getD (by rw [h.gl]; exact ha)]
    by_cases e : d = a
    · subst e; rw [if_pos rfl, if_pos rfl]; omega
    · rw [if_neg e, if_neg e]; omega
  · intro i o' hi ho'
    have g0 : (sumR T.length fun t' => addZ z a b c x i o' t') = (sumR T.length fun t' => z i o' t') + if i = a then (if o' = b then x else 0) else 0 := by unfold addZ; rw [sumR_add, s1]
    rw [g0, pa]
    have := h.has i o' hi ho'
    by_cases e : i = a
    · by_cases e' : o' = b
      · subst e; subst e'; rw [if_pos ⟨rfl, rfl⟩, if_pos rfl, if_pos rfl]; omega
      · rw [if_neg (fun c => e' c.2), if_pos e, if_neg e']; omega
    · rw [if_neg (fun c => e c.1), if_neg e]; omega
  · intro d hd
    have hh := h.take d hd
    have g2 : (sumR T.length fun i => sumR T.length fun o' => addZ z a b c x i o' d) = (sumR T.length fun i => sumR T.length fun o' => z i o' d) + if d = c then x else 0 := by
      unfold addZ
      rw [sumR_congr fun i _ => sumR_add T.length (fun o' => z i o' d) _, sumR_add]
      congr 1
      have : ∀ i, i < T.length → (sumR T.length fun o' => if i = a then (if o' = b then (if d = c then x else 0) else 0) else (0 : Int)) = if i = a then (if d = c then x else 0) else 0 := fun i _ => by
        by_cases e : i = a
        · simp only [if_pos e]; exact sumR_pick hb fun _ => if d = c then x else 0
        · simp only [if_neg e, zz]
      rw [sumR_congr this]
      exact sumR_pick ha fun _ => if d = c then x else 0
    rw [g2, set_getD (by rw [h.kl]; exact hc)]
    by_cases e : d = c
    · subst e; rw [if_pos rfl, if_pos rfl]; omega
    · rw [if_neg e, if_neg e]; omega
  · intro i hi
    rw [set_getD (by rw [h.gl]; exact ha)]
    have := h.g0 i hi
    by_cases e : i = a
    · subst e; rw [if_pos rfl]; omega
    · rw [if_neg e]; exact this
  · intro i o' hi ho'
    rw [pa]
    have := h.n0 i o' hi ho'
    by_cases e : i = a ∧ o' = b
    · rw [if_pos e]; omega
    · rw [if_neg e]; exact this
  · intro t ht
    rw [set_getD (by rw [h.kl]; exact hc)]
    have := h.k0 t ht
    by_cases e : t = c
    · subst e; rw [if_pos rfl]; omega
    · rw [if_neg e]; exact this
end
/-- What was moved ahead of a place. -/
def uptoZ (x : Nat → Nat → Nat → Int) (a b c i o t : Nat) : Int := if Ahead a b c i o t then x i o t else 0
section
variable {T : Tab} {q : List Int} {x : Nat → Nat → Nat → Int} {G : List Int} {N : Tab} {K : List Int}
/-- At each place the first relief's number can be moved, leaves a relief of the rest, and no greater number does. -/
theorem RS.place (hB : BestX T q x) {a b c : Nat} (h : RS T q (uptoZ x a b c) G N K) (ha : a < T.length) (hb : b < T.length) (hc : c < T.length) :
    0 ≤ x a b c ∧ x a b c ≤ G.getD a 0 ∧ x a b c ≤ at2 N a b ∧ x a b c ≤ K.getD c 0 := by
  have hx := hB.relx
  have hle : ∀ i o t, i < T.length → o < T.length → t < T.length → uptoZ x a b c i o t + (if i = a then (if o = b then (if t = c then x a b c else 0) else 0) else 0) ≤ x i o t := fun i o t hi ho ht => by
    have := hx.nn i o t hi ho ht
    unfold uptoZ
    by_cases hA : Ahead a b c i o t
    · rw [if_pos hA]
      by_cases e : i = a
      · by_cases e' : o = b
        · by_cases e2 : t = c
          · exact absurd hA (by unfold Ahead; omega)
          · rw [if_pos e, if_pos e', if_neg e2]; omega
        · rw [if_pos e, if_neg e']; omega
      · rw [if_neg e]; omega
    · rw [if_neg hA]
      by_cases e : i = a
      · by_cases e' : o = b
        · by_cases e2 : t = c
          · subst e; subst e'; subst e2; rw [if_pos rfl, if_pos rfl, if_pos rfl]; omega
          · rw [if_pos e, if_pos e', if_neg e2]; omega
        · rw [if_pos e, if_neg e']; omega
      · rw [if_neg e]; omega
  have zz : ∀ n, sumR n (fun _ => (0 : Int)) = 0 := fun n => sumR_zero fun _ _ => rfl
  refine ⟨hx.nn a b c ha hb hc, ?_, ?_, ?_⟩
  · rw [h.give a ha, ← hx.give a ha]
    have : (sumR T.length fun o => sumR T.length fun t => uptoZ x a b c a o t + (if o = b then (if t = c then x a b c else 0) else 0)) ≤ sumR T.length fun o => sumR T.length fun t => x a o t := sumR_le fun o ho => sumR_le fun t ht => by
      have := hle a o t ha ho ht
      rw [if_pos rfl] at this; exact this
    rw [sumR_congr fun o _ => sumR_add T.length (fun t => uptoZ x a b c a o t) _, sumR_add] at this
    have e : (sumR T.length fun o => sumR T.length fun t => if o = b then (if t = c then x a b c else 0) else 0) = x a b c := by
      rw [sumR_congr (h := fun o => if o = b then x a b c else 0) fun o _ => by
        by_cases e : o = b
        · simp only [if_pos e]; exact sumR_pick hc fun _ => x a b c
        · simp only [if_neg e, zz]]
      exact sumR_pick hb fun _ => x a b c
    omega
  · rw [h.has a b ha hb]
    have h1 := hx.out a b ha hb
    have : (sumR T.length fun t => uptoZ x a b c a b t + (if t = c then x a b c else 0)) ≤ sumR T.length fun t => x a b t := sumR_le fun t ht => by
      have := hle a b t ha hb ht
      rw [if_pos rfl, if_pos rfl] at this; exact this
    rw [sumR_add, sumR_pick hc fun _ => x a b c] at this
    change (sumR T.length fun t => uptoZ x a b c a b t) + x a b c ≤ _ at this
    omega
  · rw [h.take c hc]
    have h1 := hx.take c hc
    have : (sumR T.length fun i => sumR T.length fun o => uptoZ x a b c i o c + (if i = a then (if o = b then x a b c else 0) else 0)) ≤ sumR T.length fun i => sumR T.length fun o => x i o c := sumR_le fun i hi => sumR_le fun o ho => by
      have := hle i o c hi ho hc
      simp only [if_true] at this; exact this
    rw [sumR_congr fun i _ => sumR_add T.length (fun o => uptoZ x a b c i o c) _, sumR_add] at this
    have e : (sumR T.length fun i => sumR T.length fun o => if i = a then (if o = b then x a b c else 0) else 0) = x a b c := by
      rw [sumR_congr (h := fun i => if i = a then x a b c else 0) fun i _ => by
        by_cases e : i = a
        · simp only [if_pos e]; exact sumR_pick hb fun _ => x a b c
        · simp only [if_neg e, zz]]
      exact sumR_pick ha fun _ => x a b c
    omega
theorem RS.fits (hB : BestX T q x) {a b c : Nat} {v : Int} (h : RS T q (addZ (uptoZ x a b c) a b c v) G N K) (ha : a < T.length) (hb : b < T.length) (hc : c < T.length) :
    (∃ y, Relx T.length (fun d => G.getD d 0) (at2 N) (fun d => K.getD d 0) y) → v ≤ x a b c := by
  rintro ⟨y, hy⟩
  have hw := h.join hy
  have hg : ∀ i o t, i < T.length → o < T.length → t < T.length → Ahead a b c i o t → x i o t ≤ addZ (uptoZ x a b c) a b c v i o t + y i o t := fun i o t hi ho ht hA => by
    have h1 := hy.nn i o t hi ho ht
    have h2 : addZ (uptoZ x a b c) a b c v i o t = x i o t := by
      unfold addZ uptoZ
      rw [if_pos hA]
      have : ¬ (i = a ∧ o = b ∧ t = c) := by unfold Ahead at hA; omega
      by_cases e : i = a
      · by_cases e' : o = b
        · rw [if_pos e, if_pos e', if_neg (fun e2 => this ⟨e, e', e2⟩)]; omega
        · rw [if_pos e, if_neg e']; omega
      · rw [if_neg e]; omega
    omega
  have h1 := hB.best _ hw a b c ha hb hc (hB.agree hw hg)
  have h2 := hy.nn a b c ha hb hc
  have h3 : addZ (uptoZ x a b c) a b c v a b c = v := by
    unfold addZ uptoZ
    rw [if_neg (by unfold Ahead; omega), if_pos rfl, if_pos rfl, if_pos rfl]; omega
  omega
theorem RS.does (hB : BestX T q x) {a b c : Nat} (h : RS T q (addZ (uptoZ x a b c) a b c (x a b c)) G N K) :
    ∃ y, Relx T.length (fun d => G.getD d 0) (at2 N) (fun d => K.getD d 0) y := by
  refine ⟨_, h.rest hB.relx fun i o t hi ho ht => ?_⟩
  have := hB.relx.nn i o t hi ho ht
  unfold addZ uptoZ
  by_cases hA : Ahead a b c i o t
  · rw [if_pos hA]
    by_cases e : i = a
    · by_cases e' : o = b
      · by_cases e2 : t = c
        · exact absurd hA (by unfold Ahead; omega)
        · rw [if_pos e, if_pos e', if_neg e2]; omega
      · rw [if_pos e, if_neg e']; omega
    · rw [if_neg e]; omega
  · rw [if_neg hA]
    by_cases e : i = a
    · by_cases e' : o = b
      · by_cases e2 : t = c
        · subst e; subst e'; subst e2; rw [if_pos rfl, if_pos rfl, if_pos rfl]; omega
        · rw [if_pos e, if_pos e', if_neg e2]; omega
      · rw [if_pos e, if_neg e']; omega
    · rw [if_neg e]; omega
end
end Quo
/- Sets of devices as numbers; the specification's greatest flow; the list of what is moved. -/
namespace Quo
set_option linter.unusedVariables false
theorem bits_of (A : Nat → Bool) : ∀ n, ∃ s, s < 2 ^ n ∧ ∀ t, t < n → s.testBit t = A t
  | 0 => ⟨0, by decide, fun t ht => absurd ht (Nat.not_lt_zero t)⟩
  | n + 1 => by
    obtain ⟨s, h1, h2⟩ := bits_of A n
    cases hA : A n with
    | false =>
      refine ⟨s, by rw [Nat.pow_succ]; omega, fun t ht => ?_⟩
      by_cases e : t = n
      · subst e; rw [hA]; exact Nat.testBit_lt_two_pow h1
      · exact h2 t (by omega)
    | true =>
      refine ⟨2 ^ n + s, by rw [Nat.pow_succ]; omega, fun t ht => ?_⟩
      by_cases e : t = n
      · subst e; rw [hA, Nat.testBit_two_pow_add_eq, Nat.testBit_lt_two_pow h1]; rfl
      · rw [Nat.testBit_two_pow_add_gt (by omega)]; exact h2 t (by omega)
theorem opn_congr {n : Nat} {A B : Nat → Bool} (h : ∀ t, t < n → A t = B t) (a o : Nat) : opn n A a o = opn n B a o := by
  rw [Bool.eq_iff_iff, opn_iff, opn_iff]
  exact ⟨fun ⟨t, h1, h2, h3, h4⟩ => ⟨t, h1, h2, h3, by rw [← h t h1]; exact h4⟩, fun ⟨t, h1, h2, h3, h4⟩ => ⟨t, h1, h2, h3, by rw [h t h1]; exact h4⟩⟩
theorem cutV_congr {n : Nat} {gv : Nat → Int} {hs : Nat → Nat → Int} {tk : Nat → Int} {A B : Nat → Bool} (h : ∀ t, t < n → A t = B t) : cutV n gv hs tk A = cutV n gv hs tk B := by
  unfold cutV
  congr 1
  · refine sumR_congr fun t ht => ?_
    rw [h t ht]
  · refine sumR_congr fun a _ => ?_
    congr 1
    unfold canV
    refine sumR_congr fun o _ => ?_
    rw [opn_congr h]
/-- v is the least that a set says. -/
def FlowV (n : Nat) (gv : Nat → Int) (hs : Nat → Nat → Int) (tk : Nat → Int) (v : Int) : Prop := (∀ s, s < 2 ^ n → v ≤ cutV n gv hs tk s.testBit) ∧ ∃ s, s < 2 ^ n ∧ v = cutV n gv hs tk s.testBit
theorem RS.flow {T : Tab} {q : List Int} {z : Nat → Nat → Nat → Int} {G : List Int} {N : Tab} {K : List Int} (h : RS T q z G N K) {v : Int} (hv : FlowV T.length (fun d => G.getD d 0) (at2 N) (fun d => K.getD d 0) v) :
    ¬ v < (sumR T.length fun d => G.getD d 0) ↔ ∃ y, Relx T.length (fun d => G.getD d 0) (at2 N) (fun d => K.getD d 0) y := by
  constructor
  · intro h1
    refine Classical.byContradiction fun hn => ?_
    obtain ⟨A, hA⟩ := h.cut fun y hy => hn ⟨y, hy⟩
    obtain ⟨s, s1, s2⟩ := bits_of A T.length
    have := hv.1 s s1
    rw [cutV_congr s2] at this
    omega
  · rintro ⟨y, hy⟩
    obtain ⟨s, s1, s2⟩ := hv.2
    have := relx_weak hy s.testBit
    rw [s2]
    omega
/-- The moves, in their order. -/
def movX (x : Nat → Nat → Nat → Int) (h o t : Nat) : List Mv := if x h o t = 0 then [] else [⟨h, t, o, x h o t⟩]
def movO (x : Nat → Nat → Nat → Int) (h o k : Nat) : List Mv := (List.range k).flatMap (movX x h o)
def movH (x : Nat → Nat → Nat → Int) (n h k : Nat) : List Mv := (List.range k).flatMap fun o => movO x h o n
def movA' (x : Nat → Nat → Nat → Int) (n k : Nat) : List Mv := (List.range k).flatMap fun h => movH x n h n
theorem movO_succ (x : Nat → Nat → Nat → Int) (h o k : Nat) : movO x h o (k + 1) = movO x h o k ++ movX x h o k := by unfold movO; rw [List.range_succ, List.flatMap_append]; simp
theorem movH_succ (x : Nat → Nat → Nat → Int) (n h k : Nat) : movH x n h (k + 1) = movH x n h k ++ movO x h k n := by unfold movH; rw [List.range_succ, List.flatMap_append]; simp
theorem movA_succ (x : Nat → Nat → Nat → Int) (n k : Nat) : movA' x n (k + 1) = movA' x n k ++ movH x n k n := by unfold movA'; rw [List.range_succ, List.flatMap_append]; simp
theorem movO_zero (x : Nat → Nat → Nat → Int) (h o : Nat) : movO x h o 0 = [] := rfl
theorem movH_zero (x : Nat → Nat → Nat → Int) (n h : Nat) : movH x n h 0 = [] := rfl
theorem movA_zero (x : Nat → Nat → Nat → Int) (n : Nat) : movA' x n 0 = [] := rfl
theorem movX_len (x : Nat → Nat → Nat → Int) (h o t : Nat) : (movX x h o t).length ≤ 1 := by unfold movX; split <;> simp
theorem flat_len {f : Nat → List Mv} {c : Nat} (h : ∀ i, (f i).length ≤ c) : ∀ k, ((List.range k).flatMap f).length ≤ k * c
  | 0 => by simp
  | k + 1 => by
    have h1 := flat_len h k
    have h2 := h k
    rw [List.range_succ, List.flatMap_append, List.length_append, Nat.add_mul, Nat.one_mul, List.flatMap_cons, List.flatMap_nil, List.append_nil]
    omega
theorem movO_len (x : Nat → Nat → Nat → Int) (h o k : Nat) : (movO x h o k).length ≤ k := by have := flat_len (f := movX x h o) (c := 1) (fun i => movX_len x h o i) k; unfold movO; omega
theorem movH_len (x : Nat → Nat → Nat → Int) (n h k : Nat) : (movH x n h k).length ≤ k * n := flat_len (f := fun o => movO x h o n) (fun i => movO_len x h i n) k
theorem movA_len (x : Nat → Nat → Nat → Int) (n k : Nat) : (movA' x n k).length ≤ k * (n * n) := flat_len (f := fun h => movH x n h n) (fun i => movH_len x n i n) k
theorem flat_nil {f : Nat → List Mv} {l : List Nat} (h : ∀ i ∈ l, f i = []) : l.flatMap f = [] := by
  rw [List.flatMap_eq_nil_iff]; exact h
theorem flat_congr {f g : Nat → List Mv} {l : List Nat} (h : ∀ i ∈ l, f i = g i) : l.flatMap f = l.flatMap g := by
  induction l with
  | nil => rfl
  | cons a l ih => rw [List.flatMap_cons, List.flatMap_cons, h a List.mem_cons_self, ih fun i hi => h i (List.mem_cons_of_mem _ hi)]
theorem rel_out (T : Tab) (q : List Int) (φ : Key → Int) : relMoves T q φ = movA' (mvs T q φ) T.length T.length := by
  unfold relMoves keys movA'
  rw [List.flatMap_append]
  have e1 : ((List.range T.length).map (keyA T q)).flatMap (movK φ) = [] := by
    rw [List.flatMap_eq_nil_iff]
    intro κ hκ
    obtain ⟨d, _, rfl⟩ := List.mem_map.1 hκ
    have := (keyA_dev T q d).2
    unfold movK
    rw [if_neg (by omega)]
  rw [e1, List.nil_append, List.flatMap_assoc]
  refine flat_congr fun h _ => ?_
  unfold keyI movH
  rw [List.flatMap_assoc]
  refine flat_congr fun o _ => ?_
  unfold keyO movO
  by_cases hk : ¬ over T q h ∨ at2 T h o = 0
  · rw [if_pos hk]
    symm
    refine flat_nil fun t _ => ?_
    unfold movX
    have : ¬ okO T q h o := fun c => by rcases hk with k | k; exact k c.1; exact c.2 k
    rw [if_pos (mvs_no1 this)]
  · rw [if_neg hk, List.flatMap_cons]
    have hk' : okO T q h o := ⟨Classical.byContradiction fun c => hk (.inl c), fun c => hk (.inr c)⟩
    have e2 : movK φ (2, h, o, 0) = [] := by unfold movK; rw [if_neg (show ¬ (2 : Nat) = 3 by decide)]
    rw [e2, List.nil_append, List.flatMap_assoc]
    refine flat_congr fun t _ => ?_
    unfold keyT movX
    by_cases ht : over T q t ∨ t = o
    · rw [if_pos ht]
      have : ¬ okT T q o t := fun c => by rcases ht with k | k; exact c.1 k; exact c.2 k
      rw [if_pos (mvs_no2 this)]; rfl
    · rw [if_neg ht]
      have ht' : okT T q o t := ⟨fun c => ht (.inl c), fun c => ht (.inr c)⟩
      rw [mvs_yes hk' ht']
      simp [movK]
/-- Ahead of the next place: what was moved ahead of this one, and here. -/
theorem uptoZ_next (x : Nat → Nat → Nat → Int) (a b c : Nat) : uptoZ x a b (c + 1) = addZ (uptoZ x a b c) a b c (x a b c) := by
  funext i o t
  unfold addZ uptoZ
  by_cases e : i = a
  · by_cases e' : o = b
    · by_cases e2 : t = c
      · subst e; subst e'; subst e2
        rw [if_pos rfl, if_pos rfl, if_pos rfl, if_pos (by unfold Ahead; omega), if_neg (by unfold Ahead; omega)]; omega
      · rw [if_pos e, if_pos e', if_neg e2]
        by_cases hA : Ahead a b c i o t
        · rw [if_pos hA, if_pos (by unfold Ahead at hA ⊢; omega)]; omega
        · rw [if_neg hA, if_neg (by unfold Ahead at hA ⊢; omega)]; omega
    · rw [if_pos e, if_neg e']
      by_cases hA : Ahead a b c i o t
      · rw [if_pos hA, if_pos (by unfold Ahead at hA ⊢; omega)]; omega
      · rw [if_neg hA, if_neg (by unfold Ahead at hA ⊢; omega)]; omega
  · rw [if_neg e]
    by_cases hA : Ahead a b c i o t
    · rw [if_pos hA, if_pos (by unfold Ahead at hA ⊢; omega)]; omega
    · rw [if_neg hA, if_neg (by unfold Ahead at hA ⊢; omega)]; omega
theorem addZ_zero (z : Nat → Nat → Nat → Int) (a b c : Nat) : addZ z a b c 0 = z := by
  funext i o t
  unfold addZ
  split <;> (try split) <;> (try split) <;> omega
theorem RS.congr {T : Tab} {q : List Int} {z z' : Nat → Nat → Nat → Int} {G : List Int} {N : Tab} {K : List Int} (h : RS T q z G N K) (e : ∀ i o t, i < T.length → o < T.length → t < T.length → z i o t = z' i o t) : RS T q z' G N K :=
  ⟨h.vt, h.cnt, h.ql, h.gl, h.nl, h.kl, h.sq, fun i o t hi ho ht => by rw [← e i o t hi ho ht]; exact h.nn i o t hi ho ht, fun i o t hi ho ht hz => h.dom i o t hi ho ht (by rw [e i o t hi ho ht]; exact hz),
    fun i hi => by rw [h.give i hi, sumR2_congr fun o t ho ht => e i o t hi ho ht], fun i o hi ho => by rw [h.has i o hi ho, sumR_congr fun t ht => e i o t hi ho ht], fun t ht => by rw [h.take t ht, sumR2_congr fun i o hi ho => e i o t hi ho ht], h.g0, h.n0, h.k0⟩
/-- From the end of a row of places to the next one's start. -/
theorem upto_t {n : Nat} (x : Nat → Nat → Nat → Int) (a b : Nat) {i o t : Nat} (hi : i < n) (ho : o < n) (ht : t < n) : uptoZ x a b n i o t = uptoZ x a (b + 1) 0 i o t := by
  unfold uptoZ
  by_cases hA : Ahead a b n i o t
  · rw [if_pos hA, if_pos (by unfold Ahead at hA ⊢; omega)]
  · rw [if_neg hA, if_neg (by unfold Ahead at hA ⊢; omega)]
theorem upto_o {n : Nat} (x : Nat → Nat → Nat → Int) (a : Nat) {i o t : Nat} (hi : i < n) (ho : o < n) (ht : t < n) : uptoZ x a n 0 i o t = uptoZ x (a + 1) 0 0 i o t := by
  unfold uptoZ
  by_cases hA : Ahead a n 0 i o t
  · rw [if_pos hA, if_pos (by unfold Ahead at hA ⊢; omega)]
  · rw [if_neg hA, if_neg (by unfold Ahead at hA ⊢; omega)]
theorem upto_0 {x : Nat → Nat → Nat → Int} : uptoZ x 0 0 0 = fun _ _ _ => 0 := by
  funext i o t
  unfold uptoZ
  rw [if_neg (by unfold Ahead; omega)]
/-- Where nothing can move, nothing does. -/
theorem BestX.self {T : Tab} {q : List Int} {x : Nat → Nat → Nat → Int} (hB : BestX T q x) (hT : VT T) {h o t : Nat} (hh : h < T.length) (ho : o < T.length) (ht : t < T.length) (he : h = o ∨ h = t ∨ o = t) : x h o t = 0 := by
  refine Classical.byContradiction fun hz => ?_
  have hd := hB.relx.dom h o t hh ho ht hz
  rcases he with rfl | rfl | rfl
  · have h1 := hB.relx.out h h hh hh
    have h9 : at2 T h h = 0 := getD_of (hT.2 h hh).2.1
    rw [h9] at h1
    exact hz (sumR_term0 (f := fun t => x h h t) (fun t ht => hB.relx.nn h h t hh hh ht) h1 ht)
  · exact hd.1 rfl
  · exact hd.2 rfl
end Quo
