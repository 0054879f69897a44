/- Cancelled tables, plain: balances stay, numbers do not grow; no cycle is found just when the devices can be removed in some order. -/
import Derived.Test.YtpecepfnmkpmmaaQj
import Derived.Test.YtpecepfnmkpmmaaQu
namespace Quo
set_option linter.unusedVariables false
theorem sum_zero {n : Nat} {f : Nat → Int} (h : ∀ b, b < n → f b = 0) : ((List.range n).map f).sum = 0 := by
  induction n with
  | zero => rfl
  | succ n ih =>
    rw [List.range_succ, List.map_append, List.sum_append, ih fun b hb => h b (by omega)]
    simp [h n (by omega)]
theorem sum_one {n : Nat} {x : Int} {p : Nat → Prop} [DecidablePred p] {b0 : Nat} (hb : b0 < n) (h : ∀ b, b < n → (p b ↔ b = b0)) : ((List.range n).map fun b => if p b then x else 0).sum = x := by
  induction n with
  | zero => omega
  | succ n ih =>
    rw [List.range_succ, List.map_append, List.sum_append]
    by_cases e : b0 = n
    · have h1 : ((List.range n).map fun b => if p b then x else 0).sum = 0 := sum_zero fun b hb2 => by
        have := h b (by omega)
        rw [if_neg]
        intro hp
        have := this.1 hp
        omega
      rw [h1]
      have := (h n (by omega)).2 e.symm
      simp [this]
    · have h1 := ih (by omega) fun b hb2 => h b (by omega)
      rw [h1]
      have : ¬ p n := fun hp => e ((h n (by omega)).1 hp).symm
      simp [this]
/-- b follows a on the cycle. -/
def Arc (c : List Nat) (a b : Nat) : Prop := ∃ i, i < c.length ∧ a = elC c i ∧ b = nxt c i
theorem mem_elC {c : List Nat} {d : Nat} (h : d ∈ c) : ∃ i, i < c.length ∧ d = elC c i := by
  obtain ⟨i, hi⟩ := List.mem_iff_getElem?.1 h
  have hl := (List.getElem?_eq_some_iff.1 hi).1
  refine ⟨i, hl, ?_⟩
  have := elC_some hl
  rw [hi] at this
  exact Option.some.inj this
theorem mod_inj {L a b : Nat} (ha : a < L) (hb : b < L) (h : (a + 1) % L = (b + 1) % L) : a = b := by
  by_cases h1 : a + 1 < L
  · by_cases h2 : b + 1 < L
    · rw [Nat.mod_eq_of_lt h1, Nat.mod_eq_of_lt h2] at h; omega
    · have : b + 1 = L := by omega
      rw [Nat.mod_eq_of_lt h1, this, Nat.mod_self] at h; omega
  · have e1 : a + 1 = L := by omega
    by_cases h2 : b + 1 < L
    · rw [Nat.mod_eq_of_lt h2, e1, Nat.mod_self] at h; omega
    · omega
theorem prev_of {L j : Nat} (hj : j < L) : ∃ i, i < L ∧ (i + 1) % L = j := by
  by_cases h : j = 0
  · subst h
    exact ⟨L - 1, by omega, by rw [Nat.sub_add_cancel (by omega), Nat.mod_self]⟩
  · exact ⟨j - 1, by omega, by rw [Nat.sub_add_cancel (by omega), Nat.mod_eq_of_lt hj]⟩
open Classical in
theorem cut_row {T : Tab} {c : List Nat} (hT : VT T) (hc : IsCyc T c) {d : Nat} (x : Int) (hd : d < T.length) : ((List.range T.length).map fun b => if Arc c d b then x else 0).sum = if d ∈ c then x else 0 := by
  by_cases h : d ∈ c
  · rw [if_pos h]
    obtain ⟨i, hi, rfl⟩ := mem_elC h
    refine sum_one (b0 := nxt c i) (hc.lt _ (nxt_mem hi)) fun b _ => ⟨?_, fun e => ⟨i, hi, rfl, e⟩⟩
    rintro ⟨k, hk, e1, e2⟩
    have := elC_inj hc.nodup hi hk e1
    subst this
    exact e2
  · rw [if_neg h]
    refine sum_zero fun b _ => ?_
    rw [if_neg]
    rintro ⟨k, hk, e1, e2⟩
    exact h (by rw [e1]; exact elC_mem hk)
open Classical in
theorem cut_col {T : Tab} {c : List Nat} (hT : VT T) (hc : IsCyc T c) {d : Nat} (x : Int) (hd : d < T.length) : ((List.range T.length).map fun a => if Arc c a d then x else 0).sum = if d ∈ c then x else 0 := by
  by_cases h : d ∈ c
  · rw [if_pos h]
    obtain ⟨j, hj, rfl⟩ := mem_elC h
    obtain ⟨i, hi, hij⟩ := prev_of hj
    refine sum_one (b0 := elC c i) (hc.lt _ (elC_mem hi)) fun b _ => ⟨?_, fun e => ⟨i, hi, e, by unfold nxt; rw [hij]; rfl⟩⟩
    rintro ⟨k, hk, e1, e2⟩
    have h1 : elC c j = elC c ((k + 1) % c.length) := e2
    have h2 := elC_inj hc.nodup hj (Nat.mod_lt _ (by omega)) h1
    rw [e1, mod_inj hi hk (by rw [hij, h2])]
  · rw [if_neg h]
    refine sum_zero fun b _ => ?_
    rw [if_neg]
    rintro ⟨k, hk, e1, e2⟩
    exact h (by rw [e2]; exact nxt_mem hk)
theorem bal_cut {T : Tab} {c : List Nat} (hT : VT T) (hc : IsCyc T c) : balF (cutC T c) = balF T := by
  classical
  have hl := cutC_length hT hc
  have hv := cutC_vt hT hc
  have hat : ∀ a b, at2 (cutC T c) a b = at2 T a b - if Arc c a b then leastF T c c.length else 0 := by
    intro a b
    rw [cutC_at hT hc]
    by_cases h : Arc c a b
    · rw [if_pos h]; exact if_pos h
    · rw [if_neg h, Int.sub_zero]; exact if_neg h
  apply List.ext_getElem?
  intro d
  by_cases hd : d < T.length
  · rw [bal_at hv hl hd, bal_at hT rfl hd]
    rw [map_range_congr (f := fun i => at2 (cutC T c) i d) (g := fun i => at2 T i d - if Arc c i d then leastF T c c.length else 0) fun i _ => hat i d]
    rw [map_range_congr (f := fun i => at2 (cutC T c) d i) (g := fun i => at2 T d i - if Arc c d i then leastF T c c.length else 0) fun i _ => hat d i]
    rw [sum_map_sub, sum_map_sub, cut_row hT hc _ hd, cut_col hT hc _ hd]
    have key : ∀ a b c : Int, a - c - (b - c) = a - b := by intros; omega
    rw [key]
  · rw [List.getElem?_eq_none (by unfold balF; rw [List.length_map, List.length_range, hl]; omega), List.getElem?_eq_none (by unfold balF; rw [List.length_map, List.length_range]; omega)]
theorem cut_le {T : Tab} {c : List Nat} (hT : VT T) (hc : IsCyc T c) (a b : Nat) : at2 (cutC T c) a b ≤ at2 T a b := by
  have := least_pos hT hc c.length (Nat.le_refl _)
  rw [cutC_at hT hc]
  split <;> omega
theorem canc_facts {T T' : Tab} (h : Canc T T') : VT T → balF T' = balF T ∧ (∀ a b, at2 T' a b ≤ at2 T a b) ∧ cycF T' = none ∧ T'.length = T.length := by
  induction h with
  | done h => exact fun _ => ⟨rfl, fun _ _ => Int.le_refl _, h, rfl⟩
  | step h _ ih =>
    intro hT
    have hc := (cycF_is h).1
    obtain ⟨h1, h2, h3, h4⟩ := ih (cutC_vt hT hc)
    exact ⟨h1.trans (bal_cut hT hc), fun a b => Int.le_trans (h2 a b) (cut_le hT hc a b), h3, h4.trans (cutC_length hT hc)⟩

/-- Device h can be removed: it stores nothing for one that is still there. -/
def freeF (T : Tab) (n : Nat) (g : List Bool) (h : Nat) : Bool := (List.range n).all fun o => g.getD o false || decide (at2 T h o = 0)
def stepG (T : Tab) (n : Nat) (g : List Bool) (h : Nat) : List Bool := g.set h (g.getD h false || freeF T n g h)
def roundG (T : Tab) (n : Nat) (g : List Bool) (j : Nat) : List Bool := (List.range j).foldl (stepG T n) g
def goneG (T : Tab) (n : Nat) : Nat → List Bool
  | 0 => List.replicate n false
  | r + 1 => roundG T n (goneG T n r) n
def ordF (T : Tab) (n : Nat) : Bool := (goneG T n n).all id
theorem stepG_length (T : Tab) (n : Nat) (g : List Bool) (h : Nat) : (stepG T n g h).length = g.length := by unfold stepG; simp
theorem roundG_succ (T : Tab) (n : Nat) (g : List Bool) (j : Nat) : roundG T n g (j + 1) = stepG T n (roundG T n g j) j := by
  unfold roundG
  rw [List.range_succ, List.foldl_append]; rfl
theorem roundG_length (T : Tab) (n : Nat) (g : List Bool) : ∀ j, (roundG T n g j).length = g.length
  | 0 => rfl
  | j + 1 => by rw [roundG_succ, stepG_length, roundG_length T n g j]
theorem goneG_length (T : Tab) (n : Nat) : ∀ r, (goneG T n r).length = n
  | 0 => by unfold goneG; simp
  | r + 1 => by unfold goneG; rw [roundG_length, goneG_length T n r]
theorem set_getD {α : Type} {l : List α} {i j : Nat} {x d : α} (hi : i < l.length) : (l.set i x).getD j d = if j = i then x else l.getD j d := by
  rw [List.getD_eq_getElem?_getD, List.getElem?_set]
  by_cases e : i = j
  · subst e
    rw [if_pos rfl, if_pos hi, if_pos rfl]; rfl
  · rw [if_neg e, if_neg (Ne.symm e), List.getD_eq_getElem?_getD]
theorem stepG_get {T : Tab} {n : Nat} {g : List Bool} {h : Nat} (hh : h < g.length) (j : Nat) : (stepG T n g h).getD j false = if j = h then (g.getD h false || freeF T n g h) else g.getD j false := set_getD hh
theorem stepG_mono {T : Tab} {n : Nat} {g : List Bool} {h j : Nat} (hh : h < g.length) (hj : g.getD j false = true) : (stepG T n g h).getD j false = true := by
  rw [stepG_get hh]
  split
  · rename_i e; subst e; rw [hj]; rfl
  · exact hj
theorem roundG_mono {T : Tab} {n : Nat} {g : List Bool} {j : Nat} (hj : g.getD j false = true) : ∀ k, k ≤ g.length → (roundG T n g k).getD j false = true
  | 0, _ => hj
  | k + 1, h => by
    rw [roundG_succ]
    exact stepG_mono (by rw [roundG_length]; omega) (roundG_mono hj k (by omega))
theorem freeF_iff {T : Tab} {n : Nat} {g : List Bool} {h : Nat} : freeF T n g h = true ↔ ∀ o, o < n → g.getD o false = true ∨ at2 T h o = 0 := by
  unfold freeF
  rw [List.all_eq_true]
  constructor
  · intro hh o ho
    have := hh o (by simpa using ho)
    simpa using this
  · intro hh o ho
    have := hh o (by simpa using ho)
    simpa using this
/-- Nothing on a cycle is ever removed. -/
theorem cyc_stays {T : Tab} {c : List Nat} {n : Nat} (hn : T.length = n) (hc : IsCyc T c) : ∀ r, ∀ d ∈ c, (goneG T n r).getD d false = false := by
  have hstep : ∀ (g : List Bool) (h : Nat), h < g.length → (∀ d ∈ c, g.getD d false = false) → ∀ d ∈ c, (stepG T n g h).getD d false = false := by
    intro g h hh hg d hd
    rw [stepG_get hh]
    split
    · rename_i e
      subst e
      rw [hg d hd, Bool.false_or]
      cases hf : freeF T n g d with
      | false => rfl
      | true =>
        exfalso
        obtain ⟨i, hi, rfl⟩ := mem_elC hd
        rcases freeF_iff.1 hf (nxt c i) (by rw [← hn]; exact hc.lt _ (nxt_mem hi)) with h1 | h1
        · rw [hg _ (nxt_mem hi)] at h1; cases h1
        · exact hc.arc i hi h1
    · exact hg d hd
  have hround : ∀ (g : List Bool), (∀ d ∈ c, g.getD d false = false) → ∀ j, j ≤ g.length → ∀ d ∈ c, (roundG T n g j).getD d false = false := by
    intro g hg j
    induction j with
    | zero => intro _; exact hg
    | succ j ih =>
      intro hj
      rw [roundG_succ]
      exact hstep _ j (by rw [roundG_length]; omega) (ih (by omega))
  intro r
  induction r with
  | zero =>
    intro d hd
    unfold goneG
    rw [List.getD_eq_getElem?_getD, List.getElem?_replicate]
    split <;> rfl
  | succ r ih => exact hround _ ih n (by rw [goneG_length]; exact Nat.le_refl _)
theorem ord_no_cyc {T : Tab} {n : Nat} (hn : T.length = n) (h : ordF T n = true) : cycF T = none := by
  cases hc : cycF T with
  | none => rfl
  | some c =>
    exfalso
    have hi := (cycF_is hc).1
    have h2 := hi.two
    have hm := elC_mem (c := c) (i := 0) (by omega)
    have h1 := cyc_stays hn hi n _ hm
    have hlt : elC c 0 < (goneG T n n).length := by rw [goneG_length, ← hn]; exact hi.lt _ hm
    have h3 := List.all_eq_true.1 h _ (List.mem_of_getElem? (get_some hlt false))
    rw [h1] at h3; cases h3

/-- A step's iterates. -/
def it (s : Nat → Nat) (x : Nat) : Nat → Nat
  | 0 => x
  | k + 1 => s (it s x k)
theorem it_add (s : Nat → Nat) (x a : Nat) : ∀ b, it s x (a + b) = it s (it s x a) b
  | 0 => rfl
  | b + 1 => by
    show s (it s x (a + b)) = s (it s (it s x a) b)
    rw [it_add s x a b]
theorem it_per {s : Nat → Nat} {x L : Nat} (h : it s x L = x) : ∀ k, it s x (L + k) = it s x k := fun k => by rw [it_add, h]
theorem pigeon {n : Nat} (f : Nat → Nat) (hf : ∀ i, f i < n) : ∃ i j, i < j ∧ f i = f j := by
  apply Classical.byContradiction
  intro hno
  have hn : ((List.range (n + 1)).map f).Nodup := by
    rw [List.nodup_iff_pairwise_ne, List.pairwise_map]
    refine List.Pairwise.imp (R := fun a b => a < b) (fun {a b} hab e => hno ⟨a, b, hab, e⟩) List.pairwise_lt_range
  have hsub : ((List.range (n + 1)).map f) ⊆ List.range n := by
    intro x hx
    obtain ⟨i, _, rfl⟩ := List.mem_map.1 hx
    exact List.mem_range.2 (hf i)
  have := List.Nodup.length_le_of_subset hn hsub
  simp at this
  omega
/-- The least number with a property. -/
theorem least {p : Nat → Prop} : ∀ n, p n → ∃ m, p m ∧ ∀ k, k < m → ¬ p k := by
  intro n
  induction n using Nat.strongRecOn with
  | ind n ih =>
    intro hn
    by_cases h : ∃ k, k < n ∧ p k
    · obtain ⟨k, hk, hp⟩ := h
      exact ih k hk hp
    · exact ⟨n, hn, fun k hk hp => h ⟨k, hk, hp⟩⟩
/-- The first devices of an orbit. -/
def orb (s : Nat → Nat) (x a : Nat) : List Nat := (List.range a).map (it s x)
theorem orb_succ (s : Nat → Nat) (x a : Nat) : orb s x (a + 1) = orb s x a ++ [it s x a] := by unfold orb; rw [List.range_succ, List.map_append]; rfl
theorem orb_head (s : Nat → Nat) (x a : Nat) : (orb s x (a + 1)).headD 0 = x := by
  unfold orb
  rw [List.range_succ_eq_map]; rfl
theorem orb_last (s : Nat → Nat) (x a : Nat) : (orb s x (a + 1)).getLastD 0 = it s x a := by
  rw [orb_succ, List.getLastD_concat]
theorem ext_orb {T : Tab} {s : Nat → Nat} {x L : Nat} (hL : it s x L = x) (hdis : ∀ a b, a < b → b < L → it s x a ≠ it s x b) (hgt : ∀ k, 0 < k → k < L → x < it s x k) (hlt : ∀ k, it s x k < T.length) (harc : ∀ k, at2 T (it s x k) (it s x (k + 1)) ≠ 0) :
    ∀ k a, a + 1 + k = L → ext T k (orb s x (a + 1)) ≠ none := by
  intro k
  induction k with
  | zero =>
    intro a ha
    have h1 : ext T 0 (orb s x (a + 1)) = if at2 T ((orb s x (a + 1)).getLastD 0) ((orb s x (a + 1)).headD 0) = 0 then none else some (orb s x (a + 1)) := rfl
    rw [h1, orb_last, orb_head, if_neg]
    · simp
    · have := harc a
      rw [show a + 1 = L by omega, hL] at this
      exact this
  | succ k ih =>
    intro a ha hno
    have h1 : ext T (k + 1) (orb s x (a + 1)) = (List.range' ((orb s x (a + 1)).headD 0 + 1) (T.length - ((orb s x (a + 1)).headD 0 + 1))).findSome? fun d => if d ∈ orb s x (a + 1) ∨ at2 T ((orb s x (a + 1)).getLastD 0) d = 0 then none else ext T k (orb s x (a + 1) ++ [d]) := rfl
    rw [h1, List.findSome?_eq_none_iff] at hno
    have g1 := hgt (a + 1) (by omega) (by omega)
    have g2 := hlt (a + 1)
    have h2 := hno (it s x (a + 1)) (by rw [orb_head, List.mem_range'_1]; omega)
    rw [if_neg, ← orb_succ] at h2
    · exact ih (a + 1) (by omega) h2
    · rintro (h3 | h3)
      · obtain ⟨b, hb, e⟩ := List.mem_map.1 h3
        have hb2 : b < a + 1 := by simpa using hb
        exact hdis b (a + 1) hb2 (by omega) e
      · rw [orb_last] at h3
        exact harc a h3
/-- Where each device of a set stores something for another one of the set, there is a cycle. -/
theorem cyc_of {T : Tab} (hT : VT T) {U : Nat → Prop} {h0 : Nat} (hU0 : U h0) (hUn : ∀ h, U h → h < T.length) (hs : ∀ h, U h → ∃ o, U o ∧ at2 T h o ≠ 0) : cycF T ≠ none := by
  classical
  let s : Nat → Nat := fun h => if hh : U h then Classical.choose (hs h hh) else h
  have hsU : ∀ h, U h → U (s h) ∧ at2 T h (s h) ≠ 0 := fun h hh => by
    have : s h = Classical.choose (hs h hh) := dif_pos hh
    rw [this]; exact Classical.choose_spec (hs h hh)
  have hitU : ∀ x, U x → ∀ k, U (it s x k) := fun x hx k => by
    induction k with
    | zero => exact hx
    | succ k ih => exact (hsU _ ih).1
  obtain ⟨i, j, hij, he⟩ := pigeon (it s h0) (fun i => hUn _ (hitU h0 hU0 i))
  have hper : ∃ x, U x ∧ ∃ k, 0 < k ∧ it s x k = x := ⟨it s h0 i, hitU h0 hU0 i, j - i, by omega, by rw [← it_add, show i + (j - i) = j by omega, he]⟩
  obtain ⟨x0, hx0⟩ := hper
  obtain ⟨x, ⟨hxU, k0, hk0, hxk⟩, hmin⟩ := least (p := fun x => U x ∧ ∃ k, 0 < k ∧ it s x k = x) x0 hx0
  obtain ⟨L, ⟨hLp, hL⟩, hLmin⟩ := least (p := fun k => 0 < k ∧ it s x k = x) k0 ⟨hk0, hxk⟩
  have hdis : ∀ a b, a < b → b < L → it s x a ≠ it s x b := by
    intro a b hab hb e
    refine hLmin (a + (L - b)) (by omega) ⟨by omega, ?_⟩
    rw [it_add, e, ← it_add, show b + (L - b) = L by omega, hL]
  have hgt : ∀ k, 0 < k → k < L → x < it s x k := by
    intro k hk hkL
    have h1 : it s (it s x k) L = it s x k := by rw [← it_add, Nat.add_comm, it_per hL]
    have h2 : ¬ it s x k < x := fun h => hmin _ h ⟨hitU x hxU k, L, hLp, h1⟩
    have h3 := hdis 0 k hk hkL
    have h4 : it s x 0 = x := rfl
    omega
  have hlt : ∀ k, it s x k < T.length := fun k => hUn _ (hitU x hxU k)
  have harc : ∀ k, at2 T (it s x k) (it s x (k + 1)) ≠ 0 := fun k => (hsU _ (hitU x hxU k)).2
  have hL2 : 2 ≤ L := by
    apply Classical.byContradiction
    intro h
    have e : L = 1 := by omega
    subst e
    have h1 := harc 0
    rw [hL] at h1
    exact h1 (hT.diag (hlt 0))
  have hLn : L ≤ T.length := by
    have hn : (orb s x L).Nodup := by
      unfold orb
      rw [List.nodup_iff_pairwise_ne, List.pairwise_map]
      refine List.Pairwise.imp_of_mem (R := fun a b => a < b) (fun {a b} _ hb hab => hdis a b hab (by simpa using hb)) List.pairwise_lt_range
    have hsub : orb s x L ⊆ List.range T.length := by
      intro y hy
      obtain ⟨i, _, rfl⟩ := List.mem_map.1 hy
      exact List.mem_range.2 (hlt i)
    have := List.Nodup.length_le_of_subset hn hsub
    unfold orb at this
    simpa using this
  have hfin := ext_orb hL hdis hgt hlt harc (L - 1) 0 (by omega)
  intro hno
  unfold cycF at hno
  rw [List.findSome?_eq_none_iff] at hno
  have h1 := hno L (by rw [List.mem_range'_1]; omega)
  unfold cycL at h1
  rw [List.findSome?_eq_none_iff] at h1
  have h2 := h1 x (by rw [List.mem_range'_1]; have := hlt 0; exact ⟨Nat.zero_le _, by rw [Nat.zero_add]; exact this⟩)
  exact hfin h2
def left (g : List Bool) : Nat := g.countP fun b => !b
theorem left_zero {g : List Bool} (h : left g = 0) : g.all id = true := by
  rw [List.all_eq_true]
  intro b hb
  unfold left at h
  rw [List.countP_eq_zero] at h
  have := h b hb
  simpa using this
theorem left_le {g k : List Bool} (hl : g.length = k.length) (h : ∀ j, g.getD j false = true → k.getD j false = true) : left k ≤ left g ∧ ((∃ j, j < k.length ∧ g.getD j false = false ∧ k.getD j false = true) → left k < left g) := by
  induction g generalizing k with
  | nil =>
    cases k with
    | nil => exact ⟨Nat.le_refl _, fun ⟨j, hj, _⟩ => by simp at hj⟩
    | cons _ _ => simp at hl
  | cons a g ih =>
    cases k with
    | nil => simp at hl
    | cons b k =>
      have hl2 : g.length = k.length := by simpa using hl
      have h0 := h 0
      have hs : ∀ j, g.getD j false = true → k.getD j false = true := fun j hj => h (j + 1) hj
      obtain ⟨h1, h2⟩ := ih hl2 hs
      simp only [List.getD_cons_zero] at h0
      unfold left at h1 h2 ⊢
      rw [List.countP_cons, List.countP_cons]
      refine ⟨?_, ?_⟩
      · cases a <;> cases b <;> simp_all <;> omega
      · rintro ⟨j, hj, j1, j2⟩
        cases j with
        | zero =>
          simp only [List.getD_cons_zero] at j1 j2
          subst j1; subst j2
          simp; omega
        | succ j =>
          have := h2 ⟨j, by simpa using hj, j1, j2⟩
          cases a <;> cases b <;> simp_all <;> omega
theorem no_cyc_ord {T : Tab} {n : Nat} (hT : VT T) (hn : T.length = n) (h : cycF T = none) : ordF T n = true := by
  have key : ∀ r, left (goneG T n r) ≤ n - r := by
    intro r
    induction r with
    | zero =>
      unfold goneG left
      have := List.countP_le_length (p := fun b => !b) (l := List.replicate n false)
      simpa using this
    | succ r ih =>
      have hlen := goneG_length T n r
      have hmono : ∀ j, (goneG T n r).getD j false = true → (goneG T n (r + 1)).getD j false = true := fun j hj => roundG_mono hj n (by rw [hlen]; exact Nat.le_refl _)
      have hle := left_le (by rw [hlen, goneG_length]) hmono
      by_cases hz : left (goneG T n r) = 0
      · have := hle.1
        omega
      · have hex : ∃ d, d < n ∧ (goneG T n r).getD d false = false := by
          apply Classical.byContradiction
          intro hno
          apply hz
          unfold left
          rw [List.countP_eq_zero]
          intro b hb
          obtain ⟨i, hi⟩ := List.mem_iff_getElem?.1 hb
          have hil := (List.getElem?_eq_some_iff.1 hi).1
          cases b with
          | true => simp
          | false => exact absurd ⟨i, by omega, getD_of hi⟩ hno
        obtain ⟨d, hd, hdg⟩ := hex
        have hfree : ∃ e, (e < n ∧ (goneG T n r).getD e false = false) ∧ ∀ o, (o < n ∧ (goneG T n r).getD o false = false) → at2 T e o = 0 := by
          apply Classical.byContradiction
          intro hno
          refine cyc_of hT (U := fun e => e < n ∧ (goneG T n r).getD e false = false) ⟨hd, hdg⟩ (fun e he => by rw [hn]; exact he.1) (fun e he => ?_) h
          apply Classical.byContradiction
          intro hno2
          exact hno ⟨e, he, fun o ho => Classical.byContradiction fun hx => hno2 ⟨o, ho, hx⟩⟩
        obtain ⟨e, ⟨he, heg⟩, hall⟩ := hfree
        have hgone : (goneG T n (r + 1)).getD e false = true := by
          have h1 : (roundG T n (goneG T n r) (e + 1)).getD e false = true := by
            rw [roundG_succ, stepG_get (by rw [roundG_length, hlen]; exact he), if_pos rfl]
            have : freeF T n (roundG T n (goneG T n r) e) e = true := by
              rw [freeF_iff]
              intro o ho
              cases hog : (goneG T n r).getD o false with
              | true => exact .inl (roundG_mono hog e (by rw [hlen]; omega))
              | false => exact .inr (hall o ⟨ho, hog⟩)
            rw [this, Bool.or_true]
          have h2 : ∀ k, e + 1 ≤ k → k ≤ n → (roundG T n (goneG T n r) k).getD e false = true := by
            intro k
            induction k with
            | zero => intro hk; omega
            | succ k ihk =>
              intro hk hkn
              by_cases ek : e + 1 = k + 1
              · rw [← ek]; exact h1
              · rw [roundG_succ]
                exact stepG_mono (by rw [roundG_length, hlen]; omega) (ihk (by omega) (by omega))
          exact h2 n he (Nat.le_refl _)
        have := hle.2 ⟨e, by rw [goneG_length]; exact he, heg, hgone⟩
        omega
  have := key n
  exact left_zero (by omega)
end Quo
