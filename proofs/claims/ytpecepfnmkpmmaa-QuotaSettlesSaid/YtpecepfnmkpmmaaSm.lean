/- Texts Sa..Sj in one (a claim holds at most 60 files): flows, plain; the relief walk; the first cut; moves in order; what Settle returns. -/
import Derived.Test.YtpecepfnmkpmmaaNg
import Derived.Test.YtpecepfnmkpmmaaNj
import Derived.Test.YtpecepfnmkpmmaaQx
import Derived.Test.YtpecepfnmkpmmaaRd
import Derived.Test.YtpecepfnmkpmmaaQo
import Derived.Test.YtpecepfnmkpmmaaRa
/- Networks, plain: the search finds a way, or a set of nodes that is left by no arc with room. -/
namespace Quo
set_option linter.unusedVariables false
def tailA (g : Net) (k : Nat) : Nat := g.tip (k ^^^ 1)
theorem xor1 (k : Nat) : (k ^^^ 1) ^^^ 1 = k := by rw [Nat.xor_assoc, Nat.xor_self, Nat.xor_zero]
theorem xor1_ne (k : Nat) : k ^^^ 1 ≠ k := by
  intro h
  have h2 : (k ^^^ 1) ^^^ k = 0 := by rw [h, Nat.xor_self]
  rw [Nat.xor_comm k 1, Nat.xor_assoc, Nat.xor_self] at h2
  cases h2
structure Res (g : Net) (N : Nat) : Prop where
  nodes : g.out.length = N
  ok : NetOk g
  rows : ∀ v, v < N → ∀ k, k ∈ g.out.getD v [] ↔ k < g.arcs.length ∧ tailA g k = v
  pos : ∀ k, k < g.arcs.length → 0 ≤ g.room k
theorem Res.tip {g : Net} {N : Nat} (R : Res g N) {k : Nat} (hk : k < g.arcs.length) : g.tip k < N := by rw [← R.nodes]; exact R.ok.tips k hk
theorem Res.tail {g : Net} {N : Nat} (R : Res g N) {k : Nat} (hk : k < g.arcs.length) : tailA g k < N := R.tip (R.ok.even k hk)
/-- The nodes that have been reached, in their order, and by which arcs. -/
structure Tree (g : Net) (N s : Nat) (b : List Int) (seen : List Nat) : Prop where
  len : b.length = N
  head : seen[0]? = some s
  nodup : seen.Nodup
  lt : ∀ v ∈ seen, v < N
  mem : ∀ v, v < N → v ≠ s → (v ∈ seen ↔ 0 ≤ b.getD v 0)
  bs : b.getD s 0 < 0
  par : ∀ i v, seen[i]? = some v → 0 < i → ∃ k : Nat, b.getD v 0 = (k : Int) ∧ k < g.arcs.length ∧ g.tip k = v ∧ 0 < g.room k ∧ ∃ j, j < i ∧ seen[j]? = some (tailA g k)
theorem nodup_le {l : List Nat} {N : Nat} (h : l.Nodup) (hl : ∀ v ∈ l, v < N) : l.length ≤ N := by
  have := List.Nodup.length_le_of_subset h (l₂ := List.range N) fun v hv => List.mem_range.2 (hl v hv)
  simpa using this
theorem tree_visit {g : Net} {N s : Nat} (R : Res g N) {b : List Int} {seen : List Nat} (T : Tree g N s b seen) {k : Nat} (hk : k < g.arcs.length) (ht : tailA g k ∈ seen) (q : List Nat) :
    ∃ e, Tree g N s (visit g s (b, q) k).1 (seen ++ e) ∧ (visit g s (b, q) k).2 = q ++ e ∧ (0 < g.room k → g.tip k ∈ seen ++ e) := by
  have htip := R.tip hk
  unfold visit
  by_cases hc : 0 < g.room k ∧ g.tip k ≠ s ∧ b.getD (g.tip k) 0 < 0
  · rw [if_pos hc]
    obtain ⟨c1, c2, c3⟩ := hc
    have hns : g.tip k ∉ seen := by
      intro h
      have := (T.mem _ htip c2).1 h
      omega
    have hset : ∀ v, (b.set (g.tip k) (k : Int)).getD v 0 = if v = g.tip k then (k : Int) else b.getD v 0 := fun v => set_getD (by rw [T.len]; exact htip)
    refine ⟨[g.tip k], ⟨by rw [List.length_set]; exact T.len, ?_, ?_, ?_, ?_, ?_, ?_⟩, rfl, fun _ => by simp⟩
    · rw [List.getElem?_append_left]
      · exact T.head
      · have := T.head
        exact (List.getElem?_eq_some_iff.1 this).1
    · rw [List.nodup_append]
      refine ⟨T.nodup, by simp, fun a ha b hb e => ?_⟩
      have : b = g.tip k := by simpa using hb
      rw [e, this] at ha
      exact hns ha
    · intro v hv
      rcases List.mem_append.1 hv with h | h
      · exact T.lt v h
      · have : v = g.tip k := by simpa using h
        rw [this]; exact htip
    · intro v hv hvs
      show _ ↔ 0 ≤ (b.set (g.tip k) (k : Int)).getD v 0
      rw [hset]
      by_cases e : v = g.tip k
      · rw [if_pos e, e]; simp
      · rw [if_neg e, ← T.mem v hv hvs]
        simp [e]
    · show (b.set (g.tip k) (k : Int)).getD s 0 < 0
      rw [hset, if_neg (fun h => c2 h.symm)]; exact T.bs
    · intro i v hi h0
      show ∃ k' : Nat, (b.set (g.tip k) (k : Int)).getD v 0 = _ ∧ _
      by_cases hl : i < seen.length
      · rw [List.getElem?_append_left hl] at hi
        obtain ⟨k', h1, h2, h3, h4, j, h5, h6⟩ := T.par i v hi h0
        have hne : v ≠ g.tip k := fun e => hns (by rw [← e]; exact List.mem_of_getElem? hi)
        refine ⟨k', by rw [hset, if_neg hne]; exact h1, h2, h3, h4, j, h5, ?_⟩
        rw [List.getElem?_append_left (by omega)]; exact h6
      · rw [List.getElem?_append_right (by omega)] at hi
        have hi0 : i - seen.length = 0 := by
          have := (List.getElem?_eq_some_iff.1 hi).1
          simp at this; omega
        rw [hi0] at hi
        have hv : v = g.tip k := by simpa using hi.symm
        obtain ⟨j, hj⟩ := List.mem_iff_getElem?.1 ht
        have hjl := (List.getElem?_eq_some_iff.1 hj).1
        refine ⟨k, by rw [hset, if_pos hv], hk, hv.symm, c1, j, by omega, ?_⟩
        rw [List.getElem?_append_left hjl]; exact hj
  · rw [if_neg hc]
    refine ⟨[], by rw [List.append_nil]; exact T, by simp, fun hr => ?_⟩
    rw [List.append_nil]
    by_cases e : g.tip k = s
    · rw [e]; exact List.mem_of_getElem? T.head
    · have : ¬ b.getD (g.tip k) 0 < 0 := fun h => hc ⟨hr, e, h⟩
      exact (T.mem _ htip e).2 (by omega)
theorem tree_visits {g : Net} {N s : Nat} (R : Res g N) : ∀ (m : List Nat) (b : List Int) (seen q : List Nat), Tree g N s b seen → (∀ k ∈ m, k < g.arcs.length ∧ tailA g k ∈ seen) →
    ∃ e, Tree g N s (m.foldl (visit g s) (b, q)).1 (seen ++ e) ∧ (m.foldl (visit g s) (b, q)).2 = q ++ e ∧ ∀ k ∈ m, 0 < g.room k → g.tip k ∈ seen ++ e
  | [], b, seen, q, T, hm => ⟨[], by rw [List.append_nil]; exact T, by simp, fun k hk => by simp at hk⟩
  | k :: m, b, seen, q, T, hm => by
    obtain ⟨e1, T1, q1, c1⟩ := tree_visit R T (hm k (List.mem_cons_self ..)).1 (hm k (List.mem_cons_self ..)).2 q
    obtain ⟨e2, T2, q2, c2⟩ := tree_visits R m (visit g s (b, q) k).1 (seen ++ e1) (visit g s (b, q) k).2 T1 fun k' hk' => ⟨(hm k' (List.mem_cons_of_mem _ hk')).1, List.mem_append_left _ (hm k' (List.mem_cons_of_mem _ hk')).2⟩
    refine ⟨e1 ++ e2, by rw [← List.append_assoc]; exact T2, by rw [← List.append_assoc, ← q1]; exact q2, fun k' hk' hr => ?_⟩
    rw [← List.append_assoc]
    rcases List.mem_cons.1 hk' with rfl | h
    · exact List.mem_append_left _ (c1 hr)
    · exact c2 k' h hr
/-- No arc with room leaves the set. -/
def Shut (g : Net) (S : List Nat) (D : List Nat) : Prop := ∀ v ∈ D, ∀ k, k < g.arcs.length → tailA g k = v → 0 < g.room k → g.tip k ∈ S
theorem bfs_tree {g : Net} {N s t : Nat} (R : Res g N) : ∀ (f : Nat) (b : List Int) (don q : List Nat), Tree g N s b (don ++ q) → Shut g (don ++ q) don → N - don.length < f →
    ∃ b' seen, bfs g s t f b q = some b' ∧ Tree g N s b' seen ∧ (b'.getD t 0 < 0 → Shut g seen seen) := by
  intro f
  induction f with
  | zero => intro b don q _ _ h; omega
  | succ f ih =>
    intro b don q T S hf
    cases q with
    | nil => exact ⟨b, don ++ [], rfl, T, fun _ => by rw [List.append_nil] at S ⊢; exact S⟩
    | cons v q =>
      by_cases hbt : b.getD t 0 < 0
      · have hv : v ∈ don ++ v :: q := by simp
        have hvN := T.lt v hv
        have hrow := R.rows v hvN
        obtain ⟨e, T2, q2, c2⟩ := tree_visits R (g.out.getD v []) b (don ++ v :: q) q T fun k hk => by
          have := (hrow k).1 hk
          exact ⟨this.1, by rw [this.2]; exact hv⟩
        have e1 : don ++ v :: q ++ e = (don ++ [v]) ++ (q ++ e) := by simp
        rw [e1] at T2 c2
        have hdl : (don ++ [v]).length ≤ N := by
          have h1 := nodup_le T2.nodup T2.lt
          rw [List.length_append] at h1
          omega
        have h1 : bfs g s t (f + 1) b (v :: q) = bfs g s t f ((g.out.getD v []).foldl (visit g s) (b, q)).1 ((g.out.getD v []).foldl (visit g s) (b, q)).2 := by
          show (if b.getD t 0 < 0 then _ else _) = _
          rw [if_pos hbt]
        rw [h1, q2]
        refine ih _ (don ++ [v]) (q ++ e) T2 (fun u hu k hk hku hr => ?_) (by rw [List.length_append] at hdl ⊢; simp at hdl ⊢; omega)
        rcases List.mem_append.1 hu with h | h
        · have := S u h k hk hku hr
          rw [← e1]; exact List.mem_append_left _ this
        · have : u = v := by simpa using h
          subst this
          exact c2 k ((hrow k).2 ⟨hk, hku⟩) hr
      · refine ⟨b, don ++ v :: q, ?_, T, fun h => absurd h hbt⟩
        show (if b.getD t 0 < 0 then _ else _) = _
        rw [if_neg hbt]
theorem tree_start {g : Net} {N s : Nat} (hs : s < N) : Tree g N s (List.replicate N (-1)) [s] := by
  have hrep : ∀ v, v < N → (List.replicate N (-1 : Int)).getD v 0 = -1 := fun v hv => by
    rw [List.getD_eq_getElem?_getD, List.getElem?_replicate, if_pos hv]; rfl
  refine ⟨by simp, rfl, by simp, by simpa using hs, fun v hv hvs => ?_, by rw [hrep s hs]; omega, fun i v hi h0 => ?_⟩
  · rw [hrep v hv]
    simp [hvs]
  · have := (List.getElem?_eq_some_iff.1 hi).1
    simp at this; omega
/-- A way back to s: arcs with room, the ranks of its nodes falling. -/
inductive Way (g : Net) (s : Nat) (ρ : Nat → Nat) : Nat → List Nat → Prop
  | nil : Way g s ρ s []
  | cons {k : Nat} {ks : List Nat} : k < g.arcs.length → 0 < g.room k → ρ (tailA g k) < ρ (g.tip k) → Way g s ρ (tailA g k) ks → Way g s ρ (g.tip k) (k :: ks)
theorem back_way {g : Net} {N s : Nat} {b : List Int} {seen : List Nat} (T : Tree g N s b seen) : ∀ (f i v : Nat) (way : List Nat), seen[i]? = some v → i < f →
    ∃ ks, back g s b f v way = some (way ++ ks) ∧ Way g s (fun u => seen.idxOf u) v ks := by
  have hidx : ∀ i v, seen[i]? = some v → seen.idxOf v = i := by
    intro i v hi
    obtain ⟨hl, he⟩ := List.getElem?_eq_some_iff.1 hi
    have h1 := List.idxOf_lt_length_iff.2 (List.mem_of_getElem? hi)
    have h2 := List.getElem_idxOf h1
    exact (List.getElem_inj T.nodup).1 (by rw [h2, he])
  intro f
  induction f with
  | zero => intro i v way _ h; omega
  | succ f ih =>
    intro i v way hi hif
    by_cases hvs : v = s
    · subst hvs
      refine ⟨[], ?_, Way.nil⟩
      show (if v = v then _ else _) = _
      rw [if_pos rfl, List.append_nil]
    · have h0 : 0 < i := by
        apply Nat.pos_of_ne_zero
        intro e
        subst e
        rw [T.head] at hi
        exact hvs (Option.some.inj hi).symm
      obtain ⟨k, k1, k2, k3, k4, j, k5, k6⟩ := T.par i v hi h0
      obtain ⟨ks, h1, h2⟩ := ih j (tailA g k) (way ++ [k]) k6 (by omega)
      refine ⟨k :: ks, ?_, ?_⟩
      · show (if v = s then _ else if b.getD v 0 < 0 then _ else back g s b f (g.tip ((b.getD v 0).toNat ^^^ 1)) (way ++ [(b.getD v 0).toNat])) = _
        rw [if_neg hvs, k1, if_neg (by omega), Int.toNat_natCast]
        have : g.tip (k ^^^ 1) = tailA g k := rfl
        rw [this, h1]; simp
      · rw [← k3]
        refine Way.cons k2 k4 ?_ h2
        show seen.idxOf (tailA g k) < seen.idxOf (g.tip k)
        rw [hidx j _ k6, k3, hidx i _ hi]; exact k5
theorem Way.mem {g : Net} {s : Nat} {ρ : Nat → Nat} {v : Nat} {ks : List Nat} (h : Way g s ρ v ks) : ∀ k ∈ ks, k < g.arcs.length ∧ 0 < g.room k ∧ ρ (g.tip k) ≤ ρ v := by
  induction h with
  | nil => intro k hk; simp at hk
  | cons h1 h2 h3 _ ih =>
    intro k hk
    rcases List.mem_cons.1 hk with rfl | h
    · exact ⟨h1, h2, Nat.le_refl _⟩
    · obtain ⟨a, b, c⟩ := ih k h
      exact ⟨a, b, by omega⟩
theorem Way.nodup {g : Net} {s : Nat} {ρ : Nat → Nat} {v : Nat} {ks : List Nat} (h : Way g s ρ v ks) : ks.Nodup := by
  induction h with
  | nil => simp
  | cons h1 h2 h3 h4 ih =>
    rw [List.nodup_cons]
    refine ⟨fun hk => ?_, ih⟩
    have := (h4.mem _ hk).2.2
    omega
theorem Way.len {g : Net} {s : Nat} {ρ : Nat → Nat} {v : Nat} {ks : List Nat} (h : Way g s ρ v ks) : ks.length ≤ ρ v := by
  induction h with
  | nil => simp
  | cons h1 h2 h3 h4 ih => rw [List.length_cons]; omega
/-- What the search gives. -/
theorem route_spec {g : Net} {N s t : Nat} (R : Res g N) (hN : N < 1000) (hs : s < N) (ht : t < N) (hts : t ≠ s) :
    ∃ way, routeF g s t 1000 = some way ∧ ((way = [] ∧ ∃ S : List Nat, s ∈ S ∧ t ∉ S ∧ Shut g S S) ∨ (way ≠ [] ∧ way.length ≤ N ∧ ∃ ρ, Way g s ρ t way)) := by
  have T0 := tree_start (g := g) hs
  obtain ⟨b, seen, h1, T, hS⟩ := bfs_tree (t := t) R 1000 (List.replicate N (-1)) [] [s] T0 (fun v hv => by simp at hv) (by simp; exact hN)
  have hr : routeF g s t 1000 = if b.getD t 0 < 0 then some [] else back g s b 1000 t [] := by
    unfold routeF
    rw [R.nodes, h1]
  by_cases hb : b.getD t 0 < 0
  · refine ⟨[], by rw [hr, if_pos hb], .inl ⟨rfl, seen, List.mem_of_getElem? T.head, fun h => ?_, hS hb⟩⟩
    have := (T.mem t ht hts).1 h
    omega
  · have hm : t ∈ seen := (T.mem t ht hts).2 (by omega)
    obtain ⟨i, hi⟩ := List.mem_iff_getElem?.1 hm
    have hil := (List.getElem?_eq_some_iff.1 hi).1
    have hsl := nodup_le T.nodup T.lt
    obtain ⟨ks, k1, k2⟩ := back_way T 1000 i t [] hi (by omega)
    rw [List.nil_append] at k1
    refine ⟨ks, by rw [hr, if_neg hb, k1], .inr ⟨fun e => ?_, ?_, _, k2⟩⟩
    · subst e
      cases k2
      exact hts rfl
    · have h1 := k2.len
      have h2 : seen.idxOf t ≤ seen.length := List.idxOf_le_length
      omega
end Quo
/- Networks, plain: push ends; what it does to the rooms; a set of nodes that no arc with room leaves. -/
namespace Quo
set_option linter.unusedVariables false
def ind (c : Prop) [Decidable c] : Int := if c then 1 else 0
def sumR (K : Nat) (f : Nat → Int) : Int := ((List.range K).map f).sum
theorem sumR_congr {K : Nat} {f h : Nat → Int} (e : ∀ i, i < K → f i = h i) : sumR K f = sumR K h := by unfold sumR; rw [map_range_congr e]
theorem sumR_add (K : Nat) (f h : Nat → Int) : sumR K (fun i => f i + h i) = sumR K f + sumR K h := sum_map_add f h _
theorem sumR_sub (K : Nat) (f h : Nat → Int) : sumR K (fun i => f i - h i) = sumR K f - sumR K h := sum_map_sub f h _
theorem sumR_succ (K : Nat) (f : Nat → Int) : sumR (K + 1) f = sumR K f + f K := by unfold sumR; rw [List.range_succ, List.map_append, List.sum_append]; simp
theorem sumR_le {K : Nat} {f h : Nat → Int} (e : ∀ i, i < K → f i ≤ h i) : sumR K f ≤ sumR K h := by
  induction K with
  | zero => exact Int.le_refl _
  | succ K ih =>
    rw [sumR_succ, sumR_succ]
    have := ih fun i hi => e i (by omega)
    have := e K (by omega)
    omega
theorem sumR_nonneg {K : Nat} {f : Nat → Int} (e : ∀ i, i < K → 0 ≤ f i) : 0 ≤ sumR K f := by
  have h0 : sumR K (fun _ => 0) = 0 := sum_zero fun b _ => rfl
  have := sumR_le (f := fun _ => 0) e
  omega
theorem sumR_one {K k : Nat} (hk : k < K) (c : Nat → Prop) [DecidablePred c] (x : Int) : sumR K (fun i => if c i ∧ i = k then x else 0) = if c k then x else 0 := by
  by_cases h : c k
  · rw [if_pos h]
    exact sum_one hk fun b _ => ⟨fun h => h.2, fun e => ⟨by rw [e]; exact h, e⟩⟩
  · rw [if_neg h]
    exact sum_zero fun b _ => if_neg fun hh => h (by rw [← hh.2]; exact hh.1)
def outD (g g' : Net) (v : Nat) : Int := sumR g.arcs.length fun i => if tailA g i = v then g.room i - g'.room i else 0
structure Push (g g' : Net) (s t : Nat) (tot : Int) : Prop where
  out : g'.out = g.out
  len : g'.arcs.length = g.arcs.length
  tip : ∀ i, g'.tip i = g.tip i
  pair : ∀ k, k < g.arcs.length → g'.room k + g'.room (k ^^^ 1) = g.room k + g.room (k ^^^ 1)
  flow : ∀ v, outD g g' v = tot * (ind (s = v) - ind (t = v))
theorem Push.tail {g g' : Net} {s t : Nat} {tot : Int} (h : Push g g' s t tot) (i : Nat) : tailA g' i = tailA g i := h.tip _
theorem Push.refl (g : Net) (s t : Nat) : Push g g s t 0 :=
  ⟨rfl, rfl, fun _ => rfl, fun _ _ => rfl, fun v => by
    rw [Int.zero_mul]
    exact sum_zero fun b _ => by split <;> omega⟩
theorem outD_trans {g g1 g2 : Net} (hl : g1.arcs.length = g.arcs.length) (ht : ∀ i, g1.tip i = g.tip i) (v : Nat) : outD g g2 v = outD g g1 v + outD g1 g2 v := by
  unfold outD
  rw [hl, ← sumR_add]
  refine sumR_congr fun i _ => ?_
  have : tailA g1 i = tailA g i := ht _
  rw [this]
  split <;> omega
theorem Push.trans {g g1 g2 : Net} {s t : Nat} {a b : Int} (h : Push g g1 s t a) (k : Push g1 g2 s t b) : Push g g2 s t (a + b) :=
  ⟨k.out.trans h.out, k.len.trans h.len, fun i => (k.tip i).trans (h.tip i), fun i hi => (k.pair i (by rw [h.len]; exact hi)).trans (h.pair i hi), fun v => by
    rw [outD_trans h.len h.tip, h.flow, k.flow, Int.add_mul]⟩
theorem shift_tip (x : Int) (g : Net) (k i : Nat) : (shift x g k).tip i = g.tip i := by unfold shift; rw [setRoom_tip, setRoom_tip]
theorem shift_room (x : Int) {g : Net} {k : Nat} (hk : k < g.arcs.length) (hk1 : k ^^^ 1 < g.arcs.length) (i : Nat) : (shift x g k).room i = g.room i + (if i = k ^^^ 1 then x else 0) - (if i = k then x else 0) := by
  have hne := xor1_ne k
  unfold shift
  rw [setRoom_room _ _ _ _ (by rw [setRoom_len]; exact hk1), setRoom_room _ _ _ _ hk, setRoom_room _ _ _ _ hk]
  by_cases h1 : i = k ^^^ 1
  · subst h1
    rw [if_pos rfl, if_neg hne, if_pos rfl, if_neg hne]; omega
  · rw [if_neg h1, if_neg h1]
    by_cases h2 : i = k
    · subst h2; rw [if_pos rfl, if_pos rfl]; omega
    · rw [if_neg h2, if_neg h2]; omega
theorem shift_outD (x : Int) {g : Net} {k : Nat} (hk : k < g.arcs.length) (hk1 : k ^^^ 1 < g.arcs.length) (v : Nat) : outD g (shift x g k) v = x * (ind (tailA g k = v) - ind (g.tip k = v)) := by
  have e : outD g (shift x g k) v = sumR g.arcs.length (fun i => (if tailA g i = v ∧ i = k then x else 0) - (if tailA g i = v ∧ i = k ^^^ 1 then x else 0)) := by
    refine sumR_congr fun i _ => ?_
    rw [shift_room x hk hk1]
    by_cases h : tailA g i = v
    · rw [if_pos h]
      by_cases h1 : i = k
      · by_cases h2 : i = k ^^^ 1
        · rw [if_pos h2, if_pos h1, if_pos ⟨h, h1⟩, if_pos ⟨h, h2⟩]; omega
        · rw [if_neg h2, if_pos h1, if_pos ⟨h, h1⟩, if_neg (fun hh => h2 hh.2)]; omega
      · by_cases h2 : i = k ^^^ 1
        · rw [if_pos h2, if_neg h1, if_neg (fun hh => h1 hh.2), if_pos ⟨h, h2⟩]; omega
        · rw [if_neg h2, if_neg h1, if_neg (fun hh => h1 hh.2), if_neg (fun hh => h2 hh.2)]; omega
    · rw [if_neg h, if_neg (fun hh => h hh.1), if_neg (fun hh => h hh.1)]; rfl
  rw [e, sumR_sub, sumR_one hk (fun i => tailA g i = v), sumR_one hk1 (fun i => tailA g i = v)]
  have h2 : tailA g (k ^^^ 1) = g.tip k := by unfold tailA; rw [xor1]
  rw [h2]
  unfold ind
  by_cases h3 : tailA g k = v
  · by_cases h4 : g.tip k = v
    · rw [if_pos h3, if_pos h4, if_pos h3, if_pos h4]; simp
    · rw [if_pos h3, if_neg h4, if_pos h3, if_neg h4]; simp
  · by_cases h4 : g.tip k = v
    · rw [if_neg h3, if_pos h4, if_neg h3, if_pos h4, Int.mul_sub]; simp
    · rw [if_neg h3, if_neg h4, if_neg h3, if_neg h4]; simp
theorem way_ind {g : Net} {s : Nat} {ρ : Nat → Nat} {v : Nat} {ks : List Nat} (h : Way g s ρ v ks) (u : Nat) : (ks.map fun k => ind (tailA g k = u) - ind (g.tip k = u)).sum = ind (s = u) - ind (v = u) := by
  induction h with
  | nil => simp
  | cons h1 h2 h3 h4 ih => rw [List.map_cons, List.sum_cons, ih]; omega
/-- A list of arcs, shifted. -/
theorem shifts_spec (x : Int) : ∀ (ks : List Nat) (g : Net), NetOk g → (∀ k ∈ ks, k < g.arcs.length) →
    (ks.foldl (shift x) g).out = g.out ∧ (ks.foldl (shift x) g).arcs.length = g.arcs.length ∧ (∀ i, (ks.foldl (shift x) g).tip i = g.tip i) ∧
    (∀ i, i < g.arcs.length → (ks.foldl (shift x) g).room i + (ks.foldl (shift x) g).room (i ^^^ 1) = g.room i + g.room (i ^^^ 1)) ∧
    (∀ v, outD g (ks.foldl (shift x) g) v = x * (ks.map fun k => ind (tailA g k = v) - ind (g.tip k = v)).sum) ∧
    (0 ≤ x → ∀ i, g.room i - x * (ks.map fun k => ind (i = k)).sum ≤ (ks.foldl (shift x) g).room i)
  | [], g, ho, hk => ⟨rfl, rfl, fun _ => rfl, fun _ _ => rfl, fun v => by
      have : outD g g v = 0 := sum_zero fun b _ => by split <;> omega
      simp [this], fun hx i => by simp⟩
  | k :: ks, g, ho, hk => by
    have hk0 := hk k (List.mem_cons_self ..)
    have hk1 := ho.even k hk0
    obtain ⟨a1, a2, a3, a4, a5, a6⟩ := shifts_spec x ks (shift x g k) (ho.shift x k) fun i hi => by rw [shift_len]; exact hk i (List.mem_cons_of_mem _ hi)
    rw [List.foldl_cons]
    refine ⟨a1.trans (shift_out x g k), a2.trans (shift_len x g k), fun i => (a3 i).trans (shift_tip x g k i), fun i hi => ?_, fun v => ?_, fun hx i => ?_⟩
    · rw [a4 i (by rw [shift_len]; exact hi), shift_room x hk0 hk1, shift_room x hk0 hk1]
      have hne := xor1_ne k
      by_cases h1 : i = k
      · subst h1
        rw [if_neg (fun e => hne e.symm), if_pos rfl, if_pos rfl, if_neg hne]; omega
      · by_cases h2 : i = k ^^^ 1
        · have h3 : i ^^^ 1 = k := by rw [h2, xor1]
          rw [if_pos h2, if_neg h1, h3, if_neg (fun e => hne e.symm), if_pos rfl]; omega
        · have h3 : i ^^^ 1 ≠ k := fun e => h2 (by rw [← e, xor1])
          have h4 : i ^^^ 1 ≠ k ^^^ 1 := fun e => h1 (by rw [← xor1 i, e, xor1])
          rw [if_neg h1, if_neg h2, if_neg h3, if_neg h4]; omega
    · rw [outD_trans (shift_len x g k) (shift_tip x g k), shift_outD x hk0 hk1, a5 v, List.map_cons, List.sum_cons, Int.mul_add]
      have e : (ks.map fun k' => ind (tailA (shift x g k) k' = v) - ind ((shift x g k).tip k' = v)) = ks.map fun k' => ind (tailA g k' = v) - ind (g.tip k' = v) := by
        refine List.map_congr_left fun k' _ => ?_
        unfold tailA
        rw [shift_tip, shift_tip]
      rw [e]
    · have h1 := a6 hx i
      rw [shift_room x hk0 hk1] at h1
      rw [List.map_cons, List.sum_cons, Int.mul_add]
      have h2 : x * ind (i = k) = if i = k then x else 0 := by unfold ind; split <;> simp
      rw [h2]
      have h3 : 0 ≤ (if i = k ^^^ 1 then x else 0) := by split <;> omega
      omega
theorem cnt_nodup {i : Nat} : ∀ {ks : List Nat}, ks.Nodup → (ks.map fun k => ind (i = k)).sum = ind (i ∈ ks)
  | [], _ => by simp [ind]
  | k :: ks, h => by
    rw [List.nodup_cons] at h
    rw [List.map_cons, List.sum_cons, cnt_nodup h.2]
    unfold ind
    by_cases e : i = k
    · subst e; simp [h.1]
    · by_cases e2 : i ∈ ks <;> simp [e, e2]
theorem bott_le (g : Net) (way : List Nat) : ∀ j, j ≤ way.length → ∀ i, i < j → bott g way j ≤ g.room (elC way i) := by
  intro j
  induction j with
  | zero => intro _ i hi; omega
  | succ j ih =>
    intro hj i hi
    have e : bott g way (j + 1) = min (bott g way j) (g.room (elC way j)) := rfl
    by_cases h : i = j
    · subst h; omega
    · have := ih (by omega) i (by omega); omega
theorem bott_pos {g : Net} {way : List Nat} (h0 : 0 < way.length) (h : ∀ k ∈ way, 0 < g.room k) : ∀ j, j ≤ way.length → 0 < bott g way j := by
  intro j
  induction j with
  | zero => intro _; exact h _ (elC_mem h0)
  | succ j ih =>
    intro hj
    have e : bott g way (j + 1) = min (bott g way j) (g.room (elC way j)) := rfl
    have h1 := ih (by omega)
    have h2 := h _ (elC_mem (show j < way.length by omega))
    omega
/-- One way, pushed along. -/
theorem way_push {g : Net} {N s t : Nat} (R : Res g N) {ρ : Nat → Nat} {way : List Nat} (h : Way g s ρ t way) (h0 : 0 < way.length) :
    Push g (way.foldl (shift (bott g way way.length)) g) s t (bott g way way.length) ∧ Res (way.foldl (shift (bott g way way.length)) g) N ∧ 0 < bott g way way.length := by
  have hpos := bott_pos h0 (fun k hk => (h.mem k hk).2.1) way.length (Nat.le_refl _)
  obtain ⟨x, hx⟩ : ∃ x, x = bott g way way.length := ⟨_, rfl⟩
  rw [← hx] at hpos ⊢
  obtain ⟨a1, a2, a3, a4, a5, a6⟩ := shifts_spec x way g R.ok fun k hk => (h.mem k hk).1
  refine ⟨⟨a1, a2, a3, a4, fun v => by rw [a5, way_ind h]⟩, ⟨by rw [a1]; exact R.nodes, (shifts_ok R.ok x way).1, fun v hv k => ?_, fun k hk => ?_⟩, hpos⟩
  · rw [a1, a2]
    have : tailA (way.foldl (shift x) g) k = tailA g k := a3 _
    rw [this]
    exact R.rows v hv k
  · rw [a2] at hk
    have h1 := a6 (by omega) k
    rw [cnt_nodup h.nodup] at h1
    have h2 := R.pos k hk
    unfold ind at h1
    by_cases hm : k ∈ way
    · rw [if_pos hm] at h1
      obtain ⟨i, hi, rfl⟩ := mem_elC hm
      have h3 := bott_le g way way.length (Nat.le_refl _) i hi
      omega
    · rw [if_neg hm] at h1
      omega
def capS (g : Net) (s : Nat) : Int := sumR g.arcs.length fun i => if tailA g i = s then g.room i else 0
theorem push_le {g g' : Net} {N s t : Nat} {tot : Int} (hP : Push g g' s t tot) (R' : Res g' N) (hts : t ≠ s) : tot ≤ capS g s := by
  have h1 := hP.flow s
  have h2 : ind (s = s) - ind (t = s) = 1 := by unfold ind; rw [if_pos rfl, if_neg hts]; rfl
  rw [h2, Int.mul_one] at h1
  rw [← h1]
  refine sumR_le fun i hi => ?_
  have := R'.pos i (by rw [hP.len]; exact hi)
  split <;> omega
/-- push ends. -/
theorem push_spec {g : Net} {N s t : Nat} (R : Res g N) (hN : N < 1000) (hs : s < N) (ht : t < N) (hts : t ≠ s) (hpair : ∀ k, k < g.arcs.length → g.room k + g.room (k ^^^ 1) ≤ lim) (hcap : capS g s ≤ 1000 * lim) :
    ∃ f g' tot, pushF s t f g 0 = some (g', tot) ∧ Push g g' s t tot ∧ Res g' N ∧ 0 ≤ tot ∧ ∃ S : List Nat, s ∈ S ∧ t ∉ S ∧ Shut g' S S := by
  have key : ∀ (n : Nat) (g1 : Net) (sum : Int), Push g g1 s t sum → Res g1 N → 0 ≤ sum → capS g s - sum ≤ (n : Int) →
      ∃ f g' tot, pushF s t f g1 sum = some (g', tot) ∧ Push g g' s t tot ∧ Res g' N ∧ 0 ≤ tot ∧ ∃ S : List Nat, s ∈ S ∧ t ∉ S ∧ Shut g' S S := by
    intro n
    induction n with
    | zero =>
      intro g1 sum hP R1 h0 hn
      have hle := push_le hP R1 hts
      have hsm : Small g1 lim := small_of fun k hk => by
        have h1 := R1.pos k hk
        have h2 := R1.pos (k ^^^ 1) (R1.ok.even k hk)
        rw [hP.len] at hk
        have h3 := hP.pair k hk
        have h4 := hpair k hk
        constructor
        · unfold lim; omega
        · omega
      obtain ⟨way, w1, ⟨rfl, S, hS⟩ | ⟨w2, w3, ρ, w4⟩⟩ := route_spec R1 hN hs ht hts
      · refine ⟨1, g1, sum, ?_, hP, R1, h0, S, hS⟩
        unfold pushF
        rw [if_pos ⟨hsm, by unfold lim at *; omega, by omega⟩, w1]
      · exfalso
        have hl := List.length_pos_iff.2 w2
        obtain ⟨p1, p2, p3⟩ := way_push R1 w4 hl
        have := push_le (hP.trans p1) p2 hts
        omega
    | succ n ih =>
      intro g1 sum hP R1 h0 hn
      have hle := push_le hP R1 hts
      have hsm : Small g1 lim := small_of fun k hk => by
        have h1 := R1.pos k hk
        have h2 := R1.pos (k ^^^ 1) (R1.ok.even k hk)
        rw [hP.len] at hk
        have h3 := hP.pair k hk
        have h4 := hpair k hk
        constructor
        · unfold lim; omega
        · omega
      obtain ⟨way, w1, ⟨rfl, S, hS⟩ | ⟨w2, w3, ρ, w4⟩⟩ := route_spec R1 hN hs ht hts
      · refine ⟨1, g1, sum, ?_, hP, R1, h0, S, hS⟩
        unfold pushF
        rw [if_pos ⟨hsm, by unfold lim at *; omega, by omega⟩, w1]
      · have hl := List.length_pos_iff.2 w2
        obtain ⟨p1, p2, p3⟩ := way_push R1 w4 hl
        obtain ⟨f, g', tot, q1, q2⟩ := ih _ _ (hP.trans p1) p2 (by omega) (by omega)
        refine ⟨f + 1, g', tot, ?_, q2⟩
        cases way with
        | nil => exact absurd rfl w2
        | cons k way =>
          unfold pushF
          rw [if_pos ⟨hsm, by unfold lim at *; omega, by omega⟩, w1]
          show (if (∀ i ∈ k :: way, i < g1.arcs.length) ∧ way.length < 1000 then _ else none) = _
          rw [if_pos ⟨fun i hi => (w4.mem i hi).1, by rw [List.length_cons] at w3; omega⟩]
          exact q1
  have h1 := sumR_nonneg (K := g.arcs.length) (f := fun i => if tailA g i = s then g.room i else 0) fun i hi => by
    have := R.pos i hi
    split <;> omega
  refine key (capS g s).toNat g 0 (Push.refl g s t) R (Int.le_refl _) ?_
  have : 0 ≤ capS g s := h1
  omega
end Quo
/- The network of all reliefs, plain: the list of its arcs; its choices. -/
namespace Quo
set_option linter.unusedVariables false
/-- What an arc stands for: (0, d): what device d must give; (1, d): what it can take; (2, i, o): what i has for o; (3, i, o, t): what of it goes to t. -/
abbrev Key := Nat × Nat × Nat × Nat
def kf (n : Nat) (κ : Key) : Nat := if κ.1 = 0 then 0 else if κ.1 = 1 then 2 + n + κ.2.1 else if κ.1 = 2 then 2 + κ.2.1 else stockOf n κ.2.1 κ.2.2.1
def kt (n : Nat) (κ : Key) : Nat := if κ.1 = 0 then 2 + κ.2.1 else if κ.1 = 1 then 1 else if κ.1 = 2 then stockOf n κ.2.1 κ.2.2.1 else 2 + n + κ.2.2.2
def kr (T : Tab) (q : List Int) (κ : Key) : Int := if κ.1 = 0 then loadOf T κ.2.1 - q.getD κ.2.1 0 else if κ.1 = 1 then q.getD κ.2.1 0 - loadOf T κ.2.1 else at2 T κ.2.1 κ.2.2.1
def keyA (T : Tab) (q : List Int) (d : Nat) : Key := if over T q d then (0, d, 0, 0) else (1, d, 0, 0)
def keyT (T : Tab) (q : List Int) (i o t : Nat) : List Key := if over T q t ∨ t = o then [] else [(3, i, o, t)]
def keyO (T : Tab) (q : List Int) (i o : Nat) : List Key := if ¬ over T q i ∨ at2 T i o = 0 then [] else (2, i, o, 0) :: (List.range T.length).flatMap (keyT T q i o)
def keyI (T : Tab) (q : List Int) (i : Nat) : List Key := (List.range T.length).flatMap (keyO T q i)
def keys (T : Tab) (q : List Int) : List Key := (List.range T.length).map (keyA T q) ++ (List.range T.length).flatMap (keyI T q)
def chK (n : Nat) (j : Nat) (κ : Key) : List Ch := if κ.1 = 3 then [⟨κ.2.1, κ.2.2.2, κ.2.2.1, 2 * j, stockOf n κ.2.1 κ.2.2.1, 2 + n + κ.2.2.2⟩] else []
def chs (n : Nat) : Nat → List Key → List Ch
  | _, [] => []
  | j, κ :: ks => chK n j κ ++ chs n (j + 1) ks
theorem chs_append (n : Nat) : ∀ (a b : List Key) (j : Nat), chs n j (a ++ b) = chs n j a ++ chs n (j + a.length) b
  | [], b, j => rfl
  | κ :: a, b, j => by
    show chK n j κ ++ chs n (j + 1) (a ++ b) = chK n j κ ++ chs n (j + 1) a ++ _
    rw [chs_append n a b (j + 1), List.append_assoc, List.length_cons, show j + 1 + a.length = j + (a.length + 1) by omega]
def nodesN (n : Nat) : Nat := 2 + 2 * n + n * n
/-- g was built from these arcs. -/
structure Built (T : Tab) (q : List Int) (g : Net) (ks : List Key) : Prop where
  len : g.arcs.length = 2 * ks.length
  at_ : ∀ j κ, ks[j]? = some κ → g.tip (2 * j) = kt T.length κ ∧ g.tip (2 * j + 1) = kf T.length κ ∧ g.room (2 * j) = kr T q κ ∧ g.room (2 * j + 1) = 0
  rows : ∀ v, v < nodesN T.length → ∀ k, k ∈ g.out.getD v [] ↔ k < g.arcs.length ∧ tailA g k = v
  shp : Shp g (nodesN T.length) ks.length
theorem xor_even (j : Nat) : (2 * j) ^^^ 1 = 2 * j + 1 := by
  have h1 := Nat.xor_div_two (a := 2 * j) (b := 1)
  have h2 : (2 * j ^^^ 1) % 2 = 1 := Nat.xor_mod_two_eq_one.2 (by simp)
  simp at h1
  omega
theorem xor_odd (j : Nat) : (2 * j + 1) ^^^ 1 = 2 * j := by rw [← xor_even, xor1]
theorem pushAt_get {o : List (List Nat)} {i : Nat} (hi : i < o.length) (k v : Nat) : (pushAt o i k).getD v [] = if v = i then o.getD i [] ++ [k] else o.getD v [] := set_getD hi
theorem add_tip (g : Net) (f t : Nat) (r : Int) (i : Nat) : (g.add f t r).tip i = if i < g.arcs.length then g.tip i else if i = g.arcs.length then t else if i = g.arcs.length + 1 then f else 0 := by
  unfold Net.add Net.tip
  show ((g.arcs ++ [(t, r), (f, 0)]).getD i (0, 0)).1 = _
  rw [List.getD_eq_getElem?_getD]
  by_cases h : i < g.arcs.length
  · rw [if_pos h, List.getElem?_append_left h, List.getD_eq_getElem?_getD]
  · rw [if_neg h, List.getElem?_append_right (by omega)]
    by_cases h1 : i = g.arcs.length
    · rw [if_pos h1, h1, Nat.sub_self]; rfl
    · rw [if_neg h1]
      by_cases h2 : i = g.arcs.length + 1
      · rw [if_pos h2, h2, show g.arcs.length + 1 - g.arcs.length = 1 by omega]; rfl
      · rw [if_neg h2, List.getElem?_eq_none (by simp; omega)]; rfl
theorem add_room (g : Net) (f t : Nat) (r : Int) (i : Nat) : (g.add f t r).room i = if i < g.arcs.length then g.room i else if i = g.arcs.length then r else 0 := by
  unfold Net.add Net.room
  show ((g.arcs ++ [(t, r), (f, 0)]).getD i (0, 0)).2 = _
  rw [List.getD_eq_getElem?_getD]
  by_cases h : i < g.arcs.length
  · rw [if_pos h, List.getElem?_append_left h, List.getD_eq_getElem?_getD]
  · rw [if_neg h, List.getElem?_append_right (by omega)]
    by_cases h1 : i = g.arcs.length
    · rw [if_pos h1, h1, Nat.sub_self]; rfl
    · rw [if_neg h1]
      by_cases h2 : i = g.arcs.length + 1
      · rw [h2, show g.arcs.length + 1 - g.arcs.length = 1 by omega]; rfl
      · rw [List.getElem?_eq_none (by simp; omega)]; rfl
theorem add_len (g : Net) (f t : Nat) (r : Int) : (g.add f t r).arcs.length = g.arcs.length + 2 := by unfold Net.add; simp
theorem Built.add {T : Tab} {q : List Int} {g : Net} {ks : List Key} (h : Built T q g ks) (κ : Key) (hf : kf T.length κ < nodesN T.length) (ht : kt T.length κ < nodesN T.length) : Built T q (g.add (kf T.length κ) (kt T.length κ) (kr T q κ)) (ks ++ [κ]) := by
  obtain ⟨f, hff⟩ : ∃ f, f = kf T.length κ := ⟨_, rfl⟩
  obtain ⟨t, htt⟩ : ∃ t, t = kt T.length κ := ⟨_, rfl⟩
  rw [← hff] at hf ⊢; rw [← htt] at ht ⊢
  have hx0 : g.arcs.length ^^^ 1 = g.arcs.length + 1 := by rw [h.len, xor_even]
  have hx1 : (g.arcs.length + 1) ^^^ 1 = g.arcs.length := by rw [h.len, xor_odd]
  refine ⟨by rw [add_len, h.len, List.length_append]; simp; omega, fun j κ' hj => ?_, fun v hv k => ?_, by rw [List.length_append]; exact h.shp.add hf ht _⟩
  · by_cases hl : j < ks.length
    · rw [List.getElem?_append_left hl] at hj
      obtain ⟨a1, a2, a3, a4⟩ := h.at_ j κ' hj
      rw [add_tip, add_tip, add_room, add_room, if_pos (by rw [h.len]; omega), if_pos (by rw [h.len]; omega), if_pos (by rw [h.len]; omega), if_pos (by rw [h.len]; omega)]
      exact ⟨a1, a2, a3, a4⟩
    · have hj2 : j = ks.length ∧ κ' = κ := by
        have := (List.getElem?_eq_some_iff.1 hj).1
        rw [List.length_append] at this
        have e : j = ks.length := by simp at this; omega
        refine ⟨e, ?_⟩
        rw [e, List.getElem?_append_right (Nat.le_refl _), Nat.sub_self] at hj
        simpa using hj.symm
      obtain ⟨e, rfl⟩ := hj2
      have e2 : 2 * j = g.arcs.length := by rw [h.len, e]
      rw [e2, add_tip, add_tip, add_room, add_room, if_neg (by omega), if_pos rfl, if_neg (by omega), if_neg (by omega), if_pos rfl, if_neg (by omega), if_pos rfl, if_neg (by omega), if_neg (by omega)]
      exact ⟨htt, hff, rfl, rfl⟩
  · have hlo : g.out.length = nodesN T.length := h.shp.nodes
    have hget : (g.add f t (kr T q κ)).out.getD v [] = (g.out.getD v [] ++ if v = f then [g.arcs.length] else []) ++ if v = t then [g.arcs.length + 1] else [] := by
      show (pushAt (pushAt g.out f g.arcs.length) t (g.arcs.length + 1)).getD v [] = _
      rw [pushAt_get (by rw [pushAt_length, hlo]; exact ht), pushAt_get (by rw [hlo]; exact hf), pushAt_get (by rw [hlo]; exact hf)]
      by_cases h1 : v = t
      · rw [if_pos h1, if_pos h1, h1]
        by_cases h2 : t = f
        · rw [if_pos h2, if_pos h2, h2]
        · rw [if_neg h2, if_neg h2, List.append_nil]
      · rw [if_neg h1, if_neg h1, List.append_nil]
        by_cases h2 : v = f
        · rw [if_pos h2, if_pos h2, h2]
        · rw [if_neg h2, if_neg h2, List.append_nil]
    rw [hget, List.mem_append, List.mem_append, add_len]
    have htl : ∀ k, k < g.arcs.length → tailA (g.add f t (kr T q κ)) k = tailA g k := by
      intro k hk
      unfold tailA
      rw [add_tip, if_pos (by rw [h.len] at hk ⊢; exact xor_lt hk)]
    have ht0 : tailA (g.add f t (kr T q κ)) g.arcs.length = f := by
      unfold tailA
      rw [hx0, add_tip, if_neg (by omega), if_neg (by omega), if_pos rfl]
    have ht1 : tailA (g.add f t (kr T q κ)) (g.arcs.length + 1) = t := by
      unfold tailA
      rw [hx1, add_tip, if_neg (by omega), if_pos rfl]
    constructor
    · rintro ((h1 | h1) | h1)
      · have := (h.rows v hv k).1 h1
        exact ⟨by omega, by rw [htl k this.1]; exact this.2⟩
      · split at h1
        · rename_i e
          have : k = g.arcs.length := by simpa using h1
          rw [this, ht0]; exact ⟨by omega, e.symm⟩
        · simp at h1
      · split at h1
        · rename_i e
          have : k = g.arcs.length + 1 := by simpa using h1
          rw [this, ht1]; exact ⟨by omega, e.symm⟩
        · simp at h1
    · rintro ⟨h1, h2⟩
      by_cases hk : k < g.arcs.length
      · rw [htl k hk] at h2
        exact .inl (.inl ((h.rows v hv k).2 ⟨hk, h2⟩))
      · by_cases hk2 : k = g.arcs.length
        · rw [hk2, ht0] at h2
          exact .inl (.inr (by rw [if_pos h2.symm, hk2]; simp))
        · have hk3 : k = g.arcs.length + 1 := by omega
          rw [hk3, ht1] at h2
          exact .inr (by rw [if_pos h2.symm, hk3]; simp)
theorem built0 (T : Tab) (q : List Int) : Built T q (net0 T.length) [] := by
  refine ⟨rfl, fun j κ h => by simp at h, fun v hv k => ?_, net0_shp T.length⟩
  have : (net0 T.length).out.getD v [] = [] := by
    unfold net0
    show (List.replicate (2 + 2 * T.length + T.length * T.length) ([] : List Nat)).getD v [] = []
    rw [List.getD_eq_getElem?_getD, List.getElem?_replicate]
    split <;> rfl
  rw [this]
  constructor
  · intro h; simp at h
  · rintro ⟨h, _⟩
    exact absurd h (Nat.not_lt_zero k)
theorem stock_lt {n i o : Nat} (hi : i < n) (ho : o < n) : stockOf n i o < nodesN n := by
  unfold stockOf nodesN
  have h1 : (i + 1) * n ≤ n * n := Nat.mul_le_mul_right n hi
  rw [Nat.succ_mul] at h1
  omega
/-- The state of the loops: network and choices built from arcs. -/
def St (T : Tab) (q : List Int) (S : Net × List Ch) (ks : List Key) : Prop := Built T q S.1 ks ∧ S.2 = chs T.length 0 ks
theorem foldl_keys {α : Type} {P : α → List Key → Prop} {F : α → Nat → α} {e : Nat → List Key} : ∀ (l : List Nat) (S : α) (ks : List Key), (∀ S ks x, x ∈ l → P S ks → P (F S x) (ks ++ e x)) → P S ks → P (l.foldl F S) (ks ++ l.flatMap e)
  | [], S, ks, _, h => by simpa using h
  | x :: l, S, ks, hs, h => by
    rw [List.foldl_cons, List.flatMap_cons, ← List.append_assoc]
    exact foldl_keys l _ _ (fun S ks y hy hP => hs S ks y (List.mem_cons_of_mem _ hy) hP) (hs S ks x (List.mem_cons_self ..) h)
theorem st_t {T : Tab} {q : List Int} {i o : Nat} (hi : i < T.length) (ho : o < T.length) {S : Net × List Ch} {ks : List Key} {t : Nat} (ht : t < T.length) (h : St T q S ks) : St T q (relB T q i o S t) (ks ++ keyT T q i o t) := by
  unfold relB keyT
  by_cases hc : over T q t ∨ t = o
  · rw [if_pos hc, if_pos hc, List.append_nil]; exact h
  · rw [if_neg hc, if_neg hc]
    refine ⟨h.1.add (3, i, o, t) (stock_lt hi ho) (by show 2 + T.length + t < _; unfold nodesN; have := Nat.mul_le_mul_right T.length (show 1 ≤ T.length by omega); omega), ?_⟩
    show S.2 ++ _ = _
    rw [chs_append, h.2, h.1.len, Nat.zero_add]; rfl
theorem st_o {T : Tab} {q : List Int} {i : Nat} (hi : i < T.length) {S : Net × List Ch} {ks : List Key} {o : Nat} (ho : o < T.length) (h : St T q S ks) : St T q (relC T q i S o) (ks ++ keyO T q i o) := by
  unfold relC keyO
  by_cases hc : ¬ over T q i ∨ at2 T i o = 0
  · rw [if_pos hc, if_pos hc, List.append_nil]; exact h
  · rw [if_neg hc, if_neg hc]
    have h1 : St T q (S.1.add (2 + i) (stockOf T.length i o) (at2 T i o), S.2) (ks ++ [(2, i, o, 0)]) := by
      refine ⟨h.1.add (2, i, o, 0) (by show 2 + i < _; unfold nodesN; omega) (stock_lt hi ho), ?_⟩
      show S.2 = _
      rw [chs_append, h.2]
      show _ = _ ++ []
      rw [List.append_nil]
    have := foldl_keys (P := St T q) (F := relB T q i o) (e := keyT T q i o) (List.range T.length) _ _ (fun S ks t ht hP => st_t hi ho (by simpa using ht) hP) h1
    rw [List.append_assoc] at this
    exact this
theorem st_i {T : Tab} {q : List Int} {S : Net × List Ch} {ks : List Key} {i : Nat} (hi : i < T.length) (h : St T q S ks) : St T q (relD T q S i) (ks ++ keyI T q i) :=
  foldl_keys (P := St T q) (F := relC T q i) (e := keyO T q i) (List.range T.length) _ _ (fun S ks o ho hP => st_o hi (by simpa using ho) hP) h
theorem st_n (T : Tab) (q : List Int) : Built T q (relN T q).1 ((List.range T.length).map (keyA T q)) ∧ chs T.length 0 ((List.range T.length).map (keyA T q)) = [] := by
  have h := foldl_keys (P := fun (S : Net × Int) ks => Built T q S.1 ks ∧ chs T.length 0 ks = []) (F := relA T q) (e := fun d => [keyA T q d]) (List.range T.length) (net0 T.length, 0) [] (fun S ks d hd hP => ?_) ⟨built0 T q, rfl⟩
  · rw [List.nil_append] at h
    have e : (List.range T.length).flatMap (fun d => [keyA T q d]) = (List.range T.length).map (keyA T q) := by
      induction List.range T.length with
      | nil => rfl
      | cons x l ih => rw [List.flatMap_cons, List.map_cons, ih]; rfl
    rw [e] at h
    exact h
  · have hd2 : d < T.length := by simpa using hd
    have hmul := Nat.mul_le_mul_right T.length (show 1 ≤ T.length by omega)
    unfold relA keyA
    by_cases hc : over T q d
    · rw [if_pos hc, if_pos hc]
      refine ⟨hP.1.add (0, d, 0, 0) (by show 0 < _; unfold nodesN; omega) (by show 2 + d < _; unfold nodesN; omega), ?_⟩
      rw [chs_append, hP.2]; rfl
    · rw [if_neg hc, if_neg hc]
      refine ⟨hP.1.add (1, d, 0, 0) (by show 2 + T.length + d < _; unfold nodesN; omega) (by show 1 < _; unfold nodesN; omega), ?_⟩
      rw [chs_append, hP.2]; rfl
/-- The network and the choices of all reliefs. -/
theorem relief_built (T : Tab) (q : List Int) : Built T q (relief T q).1 (keys T q) ∧ (relief T q).2.1 = chs T.length 0 (keys T q) := by
  obtain ⟨h1, h2⟩ := st_n T q
  have h := foldl_keys (P := St T q) (F := relD T q) (e := keyI T q) (List.range T.length) ((relN T q).1, []) _ (fun S ks i hi hP => st_i (by simpa using hi) hP) ⟨h1, h2.symm⟩
  exact h
/-- What must move. -/
theorem relief_excess (T : Tab) (q : List Int) : (relief T q).2.2 = sumR T.length fun d => if over T q d then loadOf T d - q.getD d 0 else 0 := by
  show (relN T q).2 = _
  unfold relN sumR
  have key : ∀ (l : List Nat) (S : Net × Int), (l.foldl (relA T q) S).2 = S.2 + (l.map fun d => if over T q d then loadOf T d - q.getD d 0 else 0).sum := by
    intro l
    induction l with
    | nil => intro S; simp
    | cons d l ih =>
      intro S
      rw [List.foldl_cons, ih, List.map_cons, List.sum_cons]
      unfold relA
      split <;> simp <;> omega
  rw [key]; simp
end Quo
/- Flows in the network of all reliefs, plain: sums over its arcs, node by node. -/
namespace Quo
set_option linter.unusedVariables false
def okO (T : Tab) (q : List Int) (i o : Nat) : Prop := over T q i ∧ at2 T i o ≠ 0
def okT (T : Tab) (q : List Int) (o t : Nat) : Prop := ¬ over T q t ∧ t ≠ o
instance (T : Tab) (q : List Int) (i o : Nat) : Decidable (okO T q i o) := by unfold okO; infer_instance
instance (T : Tab) (q : List Int) (o t : Nat) : Decidable (okT T q o t) := by unfold okT; infer_instance
def sumK (l : List Key) (f : Key → Int) : Int := (l.map f).sum
theorem sumK_append (a b : List Key) (f : Key → Int) : sumK (a ++ b) f = sumK a f + sumK b f := by unfold sumK; rw [List.map_append, List.sum_append]
theorem sumK_flat (F : Nat → List Key) (f : Key → Int) (n : Nat) : sumK ((List.range n).flatMap F) f = sumR n fun i => sumK (F i) f := by
  induction n with
  | zero => rfl
  | succ n ih => rw [List.range_succ, List.flatMap_append, sumK_append, ih, sumR_succ]; simp [List.flatMap_cons]
theorem sumK_keyT (T : Tab) (q : List Int) (i o t : Nat) (f : Key → Int) : sumK (keyT T q i o t) f = if okT T q o t then f (3, i, o, t) else 0 := by
  unfold keyT
  by_cases h : over T q t ∨ t = o
  · rw [if_pos h, if_neg (fun k : okT T q o t => h.elim k.1 k.2)]; rfl
  · rw [if_neg h, if_pos (show okT T q o t from ⟨fun k => h (.inl k), fun k => h (.inr k)⟩)]
    unfold sumK; simp
theorem sumK_keyO (T : Tab) (q : List Int) (i o : Nat) (f : Key → Int) : sumK (keyO T q i o) f = if okO T q i o then f (2, i, o, 0) + sumR T.length (fun t => if okT T q o t then f (3, i, o, t) else 0) else 0 := by
  unfold keyO
  by_cases h : ¬ over T q i ∨ at2 T i o = 0
  · rw [if_pos h, if_neg (fun k : okO T q i o => h.elim (fun z => z k.1) k.2)]; rfl
  · rw [if_neg h, if_pos (show okO T q i o from ⟨Classical.byContradiction fun k => h (.inl k), fun k => h (.inr k)⟩)]
    have : sumK ((2, i, o, 0) :: (List.range T.length).flatMap (keyT T q i o)) f = f (2, i, o, 0) + sumK ((List.range T.length).flatMap (keyT T q i o)) f := by unfold sumK; rw [List.map_cons, List.sum_cons]
    rw [this, sumK_flat]
    congr 1
    exact sumR_congr fun t _ => sumK_keyT T q i o t f
/-- A sum over all arcs. -/
theorem sumK_keys (T : Tab) (q : List Int) (f : Key → Int) : sumK (keys T q) f = sumR T.length (fun d => f (keyA T q d)) +
    sumR T.length (fun i => sumR T.length (fun o => if okO T q i o then f (2, i, o, 0) + sumR T.length (fun t => if okT T q o t then f (3, i, o, t) else 0) else 0)) := by
  unfold keys
  rw [sumK_append, sumK_flat]
  congr 1
  · unfold sumK sumR; rw [List.map_map]; rfl
  · refine sumR_congr fun i _ => ?_
    unfold keyI
    rw [sumK_flat]
    exact sumR_congr fun o _ => sumK_keyO T q i o f
theorem sumR_pick {n i0 : Nat} (h : i0 < n) (f : Nat → Int) : sumR n (fun i => if i = i0 then f i else 0) = f i0 := by
  have e : sumR n (fun i => if i = i0 then f i else 0) = sumR n (fun i => if i = i0 then f i0 else 0) := sumR_congr fun i _ => by
    by_cases h : i = i0
    · rw [if_pos h, if_pos h, h]
    · rw [if_neg h, if_neg h]
  rw [e]
  exact sum_one h fun b _ => Iff.rfl
theorem sumR_zero {n : Nat} {f : Nat → Int} (h : ∀ i, i < n → f i = 0) : sumR n f = 0 := sum_zero h
/-- What leaves a node, less what enters it. -/
def dv (T : Tab) (q : List Int) (φ : Key → Int) (v : Nat) : Int := sumK (keys T q) fun κ => (ind (kf T.length κ = v) - ind (kt T.length κ = v)) * φ κ
theorem ind_t {c : Prop} [Decidable c] (h : c) : ind c = 1 := if_pos h
theorem ind_f {c : Prop} [Decidable c] (h : ¬ c) : ind c = 0 := if_neg h
theorem stock_inj {n i o i' o' : Nat} (ho : o < n) (ho' : o' < n) (h : stockOf n i o = stockOf n i' o') : i = i' ∧ o = o' := by
  unfold stockOf at h
  have h1 : i * n + o = i' * n + o' := by omega
  have hi : i = i' := by
    rcases Nat.lt_trichotomy i i' with h2 | h2 | h2
    · have := Nat.mul_le_mul_right n (show i + 1 ≤ i' from h2)
      rw [Nat.succ_mul] at this; omega
    · exact h2
    · have := Nat.mul_le_mul_right n (show i' + 1 ≤ i from h2)
      rw [Nat.succ_mul] at this; omega
  subst hi
  exact ⟨rfl, by omega⟩
theorem stock_ge (n i o : Nat) : 2 + 2 * n ≤ stockOf n i o := by unfold stockOf; omega
theorem kf0 (n d : Nat) : kf n (0, d, 0, 0) = 0 := rfl
theorem kf1 (n d : Nat) : kf n (1, d, 0, 0) = 2 + n + d := rfl
theorem kf2 (n i o : Nat) : kf n (2, i, o, 0) = 2 + i := rfl
theorem kf3 (n i o t : Nat) : kf n (3, i, o, t) = stockOf n i o := rfl
theorem kt0 (n d : Nat) : kt n (0, d, 0, 0) = 2 + d := rfl
theorem kt1 (n d : Nat) : kt n (1, d, 0, 0) = 1 := rfl
theorem kt2 (n i o : Nat) : kt n (2, i, o, 0) = stockOf n i o := rfl
theorem kt3 (n i o t : Nat) : kt n (3, i, o, t) = 2 + n + t := rfl
theorem keyA_over {T : Tab} {q : List Int} {d : Nat} (h : over T q d) : keyA T q d = (0, d, 0, 0) := if_pos h
theorem keyA_under {T : Tab} {q : List Int} {d : Nat} (h : ¬ over T q d) : keyA T q d = (1, d, 0, 0) := if_neg h
/-- The moves of a flow. -/
def mvs (T : Tab) (q : List Int) (φ : Key → Int) (i o t : Nat) : Int := if okO T q i o ∧ okT T q o t then φ (3, i, o, t) else 0
theorem mvs_in {T : Tab} {q : List Int} {φ : Key → Int} {i o : Nat} (h : okO T q i o) (t : Nat) : (if okT T q o t then φ (3, i, o, t) else 0) = mvs T q φ i o t := by
  unfold mvs
  by_cases h2 : okT T q o t
  · rw [if_pos h2, if_pos ⟨h, h2⟩]
  · rw [if_neg h2, if_neg (fun k => h2 k.2)]
/-- What a device has of another's: what comes is what goes. -/
theorem dv_stock {T : Tab} {q : List Int} {φ : Key → Int} {i o : Nat} (hi : i < T.length) (ho : o < T.length) (h : okO T q i o) : dv T q φ (stockOf T.length i o) = sumR T.length (fun t => mvs T q φ i o t) - φ (2, i, o, 0) := by
  unfold dv
  rw [sumK_keys]
  have hge := stock_ge T.length i o
  have h1 : sumR T.length (fun d => (ind (kf T.length (keyA T q d) = stockOf T.length i o) - ind (kt T.length (keyA T q d) = stockOf T.length i o)) * φ (keyA T q d)) = 0 := sumR_zero fun d hd => by
    by_cases hv : over T q d
    · rw [keyA_over hv, kf0, kt0, ind_f (by omega), ind_f (by omega)]; simp
    · rw [keyA_under hv, kf1, kt1, ind_f (by omega), ind_f (by omega)]; simp
  rw [h1, Int.zero_add]
  have h2 : ∀ i', i' < T.length → sumR T.length (fun o' => if okO T q i' o' then (ind (kf T.length (2, i', o', 0) = stockOf T.length i o) - ind (kt T.length (2, i', o', 0) = stockOf T.length i o)) * φ (2, i', o', 0) + sumR T.length (fun t => if okT T q o' t then (ind (kf T.length (3, i', o', t) = stockOf T.length i o) - ind (kt T.length (3, i', o', t) = stockOf T.length i o)) * φ (3, i', o', t) else 0) else 0) = if i' = i then sumR T.length (fun t => mvs T q φ i o t) - φ (2, i, o, 0) else 0 := by
    intro i' hi'
    by_cases e : i' = i
    · subst e
      rw [if_pos rfl]
      have : ∀ o', o' < T.length → (if okO T q i' o' then (ind (kf T.length (2, i', o', 0) = stockOf T.length i' o) - ind (kt T.length (2, i', o', 0) = stockOf T.length i' o)) * φ (2, i', o', 0) + sumR T.length (fun t => if okT T q o' t then (ind (kf T.length (3, i', o', t) = stockOf T.length i' o) - ind (kt T.length (3, i', o', t) = stockOf T.length i' o)) * φ (3, i', o', t) else 0) else 0) = if o' = o then sumR T.length (fun t => mvs T q φ i' o t) - φ (2, i', o, 0) else 0 := by
        intro o' ho'
        by_cases e : o' = o
        · subst e
          rw [if_pos h, if_pos rfl, kf2, kt2, ind_f (by omega), ind_t rfl]
          have : sumR T.length (fun t => if okT T q o' t then (ind (kf T.length (3, i', o', t) = stockOf T.length i' o') - ind (kt T.length (3, i', o', t) = stockOf T.length i' o')) * φ (3, i', o', t) else 0) = sumR T.length (fun t => mvs T q φ i' o' t) := sumR_congr fun t ht => by
            rw [← mvs_in h, kf3, kt3, ind_t rfl, ind_f (by omega)]; simp
          rw [this]; omega
        · rw [if_neg e]
          by_cases hk : okO T q i' o'
          · have hne : stockOf T.length i' o' ≠ stockOf T.length i' o := fun k => e (stock_inj ho' ho k).2
            rw [if_pos hk, kf2, kt2, ind_f (by omega), ind_f hne]
            have : sumR T.length (fun t => if okT T q o' t then (ind (kf T.length (3, i', o', t) = stockOf T.length i' o) - ind (kt T.length (3, i', o', t) = stockOf T.length i' o)) * φ (3, i', o', t) else 0) = 0 := sumR_zero fun t ht => by
              rw [kf3, kt3, ind_f hne, ind_f (by omega)]; simp
            rw [this]; simp
          · rw [if_neg hk]
      rw [sumR_congr this, sumR_pick ho (fun _ => sumR T.length (fun t => mvs T q φ i' o t) - φ (2, i', o, 0))]
    · rw [if_neg e]
      refine sumR_zero fun o' ho' => ?_
      by_cases hk : okO T q i' o'
      · have hne : stockOf T.length i' o' ≠ stockOf T.length i o := fun k => e (stock_inj ho' ho k).1
        rw [if_pos hk, kf2, kt2, ind_f (by omega), ind_f hne]
        have : sumR T.length (fun t => if okT T q o' t then (ind (kf T.length (3, i', o', t) = stockOf T.length i o) - ind (kt T.length (3, i', o', t) = stockOf T.length i o)) * φ (3, i', o', t) else 0) = 0 := sumR_zero fun t ht => by
          rw [kf3, kt3, ind_f hne, ind_f (by omega)]; simp
        rw [this]; simp
      · rw [if_neg hk]
  rw [sumR_congr h2, sumR_pick hi (fun _ => sumR T.length (fun t => mvs T q φ i o t) - φ (2, i, o, 0))]
/-- What a device gives. -/
theorem dv_give {T : Tab} {q : List Int} {φ : Key → Int} {i : Nat} (hi : i < T.length) (h : over T q i) : dv T q φ (2 + i) = sumR T.length (fun o => if okO T q i o then φ (2, i, o, 0) else 0) - φ (0, i, 0, 0) := by
  unfold dv
  rw [sumK_keys]
  have h1 : sumR T.length (fun d => (ind (kf T.length (keyA T q d) = 2 + i) - ind (kt T.length (keyA T q d) = 2 + i)) * φ (keyA T q d)) = - φ (0, i, 0, 0) := by
    have : ∀ d, d < T.length → (ind (kf T.length (keyA T q d) = 2 + i) - ind (kt T.length (keyA T q d) = 2 + i)) * φ (keyA T q d) = if d = i then - φ (0, i, 0, 0) else 0 := by
      intro d hd
      by_cases hv : over T q d
      · rw [keyA_over hv, kf0, kt0, ind_f (by omega)]
        by_cases e : d = i
        · subst e; rw [ind_t rfl, if_pos rfl]; omega
        · rw [ind_f (by omega), if_neg e]; simp
      · have e : d ≠ i := fun k => hv (by rw [k]; exact h)
        rw [keyA_under hv, kf1, kt1, ind_f (by omega), ind_f (by omega), if_neg e]; simp
    rw [sumR_congr this, sumR_pick hi (fun _ => - φ (0, i, 0, 0))]
  rw [h1]
  have h2 : ∀ i', i' < T.length → sumR T.length (fun o' => if okO T q i' o' then (ind (kf T.length (2, i', o', 0) = 2 + i) - ind (kt T.length (2, i', o', 0) = 2 + i)) * φ (2, i', o', 0) + sumR T.length (fun t => if okT T q o' t then (ind (kf T.length (3, i', o', t) = 2 + i) - ind (kt T.length (3, i', o', t) = 2 + i)) * φ (3, i', o', t) else 0) else 0) = if i' = i then sumR T.length (fun o => if okO T q i o then φ (2, i, o, 0) else 0) else 0 := by
    intro i' hi'
    have inner : ∀ o', o' < T.length → sumR T.length (fun t => if okT T q o' t then (ind (kf T.length (3, i', o', t) = 2 + i) - ind (kt T.length (3, i', o', t) = 2 + i)) * φ (3, i', o', t) else 0) = 0 := fun o' ho' => sumR_zero fun t ht => by
      have := stock_ge T.length i' o'
      rw [kf3, kt3, ind_f (by omega), ind_f (by omega)]; simp
    by_cases e : i' = i
    · subst e
      rw [if_pos rfl]
      refine sumR_congr fun o' ho' => ?_
      have := stock_ge T.length i' o'
      rw [inner o' ho', kf2, kt2, ind_t rfl, ind_f (by omega)]
      split <;> simp
    · rw [if_neg e]
      refine sumR_zero fun o' ho' => ?_
      have := stock_ge T.length i' o'
      rw [inner o' ho', kf2, kt2, ind_f (by omega), ind_f (by omega)]
      split <;> simp
  rw [sumR_congr h2, sumR_pick hi (fun _ => sumR T.length (fun o => if okO T q i o then φ (2, i, o, 0) else 0))]
  omega
/-- What a device takes. -/
theorem dv_take {T : Tab} {q : List Int} {φ : Key → Int} {t : Nat} (ht : t < T.length) (h : ¬ over T q t) : dv T q φ (2 + T.length + t) = φ (1, t, 0, 0) - sumR T.length (fun i => sumR T.length (fun o => mvs T q φ i o t)) := by
  unfold dv
  rw [sumK_keys]
  have h1 : sumR T.length (fun d => (ind (kf T.length (keyA T q d) = 2 + T.length + t) - ind (kt T.length (keyA T q d) = 2 + T.length + t)) * φ (keyA T q d)) = φ (1, t, 0, 0) := by
    have : ∀ d, d < T.length → (ind (kf T.length (keyA T q d) = 2 + T.length + t) - ind (kt T.length (keyA T q d) = 2 + T.length + t)) * φ (keyA T q d) = if d = t then φ (1, t, 0, 0) else 0 := by
      intro d hd
      by_cases hv : over T q d
      · have e : d ≠ t := fun k => h (by rw [← k]; exact hv)
        rw [keyA_over hv, kf0, kt0, ind_f (by omega), ind_f (by omega), if_neg e]; simp
      · rw [keyA_under hv, kf1, kt1, ind_f (show ¬ (1 = 2 + T.length + t) by omega)]
        by_cases e : d = t
        · subst e; rw [ind_t rfl, if_pos rfl]; omega
        · rw [ind_f (by omega), if_neg e]; simp
    rw [sumR_congr this, sumR_pick ht (fun _ => φ (1, t, 0, 0))]
  rw [h1]
  have h2 : sumR T.length (fun i => sumR T.length (fun o => if okO T q i o then (ind (kf T.length (2, i, o, 0) = 2 + T.length + t) - ind (kt T.length (2, i, o, 0) = 2 + T.length + t)) * φ (2, i, o, 0) + sumR T.length (fun t' => if okT T q o t' then (ind (kf T.length (3, i, o, t') = 2 + T.length + t) - ind (kt T.length (3, i, o, t') = 2 + T.length + t)) * φ (3, i, o, t') else 0) else 0)) = sumR T.length (fun i => sumR T.length (fun o => - mvs T q φ i o t)) := by
    refine sumR_congr fun i hi => sumR_congr fun o ho => ?_
    have hge := stock_ge T.length i o
    by_cases hk : okO T q i o
    · rw [if_pos hk, kf2, kt2, ind_f (by omega), ind_f (by omega)]
      have : ∀ t', t' < T.length → (if okT T q o t' then (ind (kf T.length (3, i, o, t') = 2 + T.length + t) - ind (kt T.length (3, i, o, t') = 2 + T.length + t)) * φ (3, i, o, t') else 0) = if t' = t then - mvs T q φ i o t else 0 := by
        intro t' ht'
        rw [kf3, kt3, ind_f (show ¬ (stockOf T.length i o = 2 + T.length + t) by omega)]
        by_cases e : t' = t
        · subst e
          rw [ind_t rfl, if_pos rfl, ← mvs_in hk]
          split <;> simp
        · rw [ind_f (by omega), if_neg e]
          split <;> simp
      rw [sumR_congr this, sumR_pick ht (fun _ => - mvs T q φ i o t)]
      simp
    · rw [if_neg hk]
      unfold mvs
      rw [if_neg (fun k => hk k.1)]; rfl
  have h3 : sumR T.length (fun i => sumR T.length (fun o => - mvs T q φ i o t)) = - sumR T.length (fun i => sumR T.length (fun o => mvs T q φ i o t)) := by
    have neg : ∀ (K : Nat) (f : Nat → Int), sumR K (fun i => - f i) = - sumR K f := by
      intro K f
      have := sumR_sub K (fun _ => 0) f
      rw [sumR_zero (f := fun _ => 0) fun _ _ => rfl] at this
      have e : sumR K (fun i => - f i) = sumR K (fun i => 0 - f i) := sumR_congr fun i _ => by omega
      rw [e, this]; omega
    rw [← neg]
    exact sumR_congr fun i _ => neg T.length _
  rw [h2, h3]
  omega
/-- What all give. -/
theorem dv_all {T : Tab} {q : List Int} {φ : Key → Int} : dv T q φ 0 = sumR T.length (fun d => if over T q d then φ (0, d, 0, 0) else 0) := by
  unfold dv
  rw [sumK_keys]
  have h2 : sumR T.length (fun i => sumR T.length (fun o => if okO T q i o then (ind (kf T.length (2, i, o, 0) = 0) - ind (kt T.length (2, i, o, 0) = 0)) * φ (2, i, o, 0) + sumR T.length (fun t' => if okT T q o t' then (ind (kf T.length (3, i, o, t') = 0) - ind (kt T.length (3, i, o, t') = 0)) * φ (3, i, o, t') else 0) else 0)) = 0 := by
    refine sumR_zero fun i hi => sumR_zero fun o ho => ?_
    have hge := stock_ge T.length i o
    have : sumR T.length (fun t' => if okT T q o t' then (ind (kf T.length (3, i, o, t') = 0) - ind (kt T.length (3, i, o, t') = 0)) * φ (3, i, o, t') else 0) = 0 := sumR_zero fun t ht => by
      rw [kf3, kt3, ind_f (by omega), ind_f (by omega)]; simp
    rw [this, kf2, kt2, ind_f (by omega), ind_f (by omega)]
    split <;> simp
  rw [h2, Int.add_zero]
  refine sumR_congr fun d hd => ?_
  by_cases hv : over T q d
  · rw [keyA_over hv, kf0, kt0, ind_t rfl, ind_f (by omega), if_pos hv]; omega
  · rw [keyA_under hv, kf1, kt1, ind_f (by omega), ind_f (by omega), if_neg hv]; simp
end Quo
/- Flows in the network of all reliefs, plain: the rooms and the flow; pushing; a cut. -/
namespace Quo
set_option linter.unusedVariables false
theorem mem_keyT {T : Tab} {q : List Int} {i o t : Nat} {κ : Key} : κ ∈ keyT T q i o t ↔ okT T q o t ∧ κ = (3, i, o, t) := by
  unfold keyT
  by_cases h : over T q t ∨ t = o
  · rw [if_pos h]
    exact ⟨fun k => by simp at k, fun k => absurd h (fun z => z.elim k.1.1 k.1.2)⟩
  · rw [if_neg h, List.mem_singleton]
    exact ⟨fun k => ⟨⟨fun z => h (.inl z), fun z => h (.inr z)⟩, k⟩, fun k => k.2⟩
theorem mem_keyO {T : Tab} {q : List Int} {i o : Nat} {κ : Key} : κ ∈ keyO T q i o ↔ okO T q i o ∧ (κ = (2, i, o, 0) ∨ ∃ t, t < T.length ∧ okT T q o t ∧ κ = (3, i, o, t)) := by
  unfold keyO
  by_cases h : ¬ over T q i ∨ at2 T i o = 0
  · rw [if_pos h]
    exact ⟨fun k => by simp at k, fun k => absurd h (fun z => z.elim (fun y => y k.1.1) k.1.2)⟩
  · rw [if_neg h, List.mem_cons, List.mem_flatMap]
    have hok : okO T q i o := ⟨Classical.byContradiction fun k => h (.inl k), fun k => h (.inr k)⟩
    constructor
    · rintro (k | ⟨t, ht, k⟩)
      · exact ⟨hok, .inl k⟩
      · have := mem_keyT.1 k
        exact ⟨hok, .inr ⟨t, by simpa using ht, this.1, this.2⟩⟩
    · rintro ⟨_, k | ⟨t, ht, k1, k2⟩⟩
      · exact .inl k
      · exact .inr ⟨t, by simpa using ht, mem_keyT.2 ⟨k1, k2⟩⟩
theorem mem_keys {T : Tab} {q : List Int} {κ : Key} : κ ∈ keys T q ↔ (∃ d, d < T.length ∧ κ = keyA T q d) ∨ ∃ i o, i < T.length ∧ o < T.length ∧ okO T q i o ∧ (κ = (2, i, o, 0) ∨ ∃ t, t < T.length ∧ okT T q o t ∧ κ = (3, i, o, t)) := by
  unfold keys
  rw [List.mem_append, List.mem_map, List.mem_flatMap]
  constructor
  · rintro (⟨d, hd, rfl⟩ | ⟨i, hi, h⟩)
    · exact .inl ⟨d, by simpa using hd, rfl⟩
    · unfold keyI at h
      obtain ⟨o, ho, h⟩ := List.mem_flatMap.1 h
      exact .inr ⟨i, o, by simpa using hi, by simpa using ho, mem_keyO.1 h⟩
  · rintro (⟨d, hd, rfl⟩ | ⟨i, o, hi, ho, h⟩)
    · exact .inl ⟨d, by simpa using hd, rfl⟩
    · refine .inr ⟨i, by simpa using hi, ?_⟩
      unfold keyI
      exact List.mem_flatMap.2 ⟨o, by simpa using ho, mem_keyO.2 h⟩
theorem keyA_dev (T : Tab) (q : List Int) (d : Nat) : (keyA T q d).2.1 = d ∧ (keyA T q d).1 ≤ 1 := by
  unfold keyA
  split
  · exact ⟨rfl, Nat.zero_le 1⟩
  · exact ⟨rfl, Nat.le_refl 1⟩
theorem keys_nodup (T : Tab) (q : List Int) : (keys T q).Nodup := by
  unfold keys
  rw [List.nodup_append]
  refine ⟨?_, ?_, fun a ha b hb e => ?_⟩
  · rw [List.nodup_iff_pairwise_ne, List.pairwise_map]
    refine List.Pairwise.imp (fun {a b} (hab : a < b) e => ?_) List.pairwise_lt_range
    have := congrArg (fun κ : Key => κ.2.1) e
    simp only [(keyA_dev T q a).1, (keyA_dev T q b).1] at this
    omega
  · rw [List.nodup_iff_pairwise_ne, List.pairwise_flatMap]
    refine ⟨fun i _ => ?_, List.Pairwise.imp (fun {a b} (hab : a < b) x hx y hy e => ?_) List.pairwise_lt_range⟩
    · unfold keyI
      rw [List.pairwise_flatMap]
      refine ⟨fun o _ => ?_, List.Pairwise.imp (fun {a b} (hab : a < b) x hx y hy e => ?_) List.pairwise_lt_range⟩
      · unfold keyO
        split
        · exact List.Pairwise.nil
        · rw [List.pairwise_cons]
          refine ⟨fun x hx e => ?_, ?_⟩
          · obtain ⟨t, _, h⟩ := List.mem_flatMap.1 hx
            have := (mem_keyT.1 h).2
            rw [this] at e
            cases e
          · rw [List.pairwise_flatMap]
            refine ⟨fun t _ => ?_, List.Pairwise.imp (fun {a b} (hab : a < b) x hx y hy e => ?_) List.pairwise_lt_range⟩
            · unfold keyT
              split
              · exact List.Pairwise.nil
              · exact List.pairwise_singleton ..
            · have h1 := (mem_keyT.1 hx).2
              have h2 := (mem_keyT.1 hy).2
              rw [h1, h2] at e
              have := congrArg (fun κ : Key => κ.2.2.2) e
              simp at this; omega
      · have h1 := (mem_keyO.1 hx).2
        have h2 := (mem_keyO.1 hy).2
        have e1 : x.2.2.1 = a := by rcases h1 with h | ⟨_, _, _, h⟩ <;> rw [h]
        have e2 : y.2.2.1 = b := by rcases h2 with h | ⟨_, _, _, h⟩ <;> rw [h]
        rw [e] at e1; omega
    · unfold keyI at hx hy
      obtain ⟨o1, _, h1⟩ := List.mem_flatMap.1 hx
      obtain ⟨o2, _, h2⟩ := List.mem_flatMap.1 hy
      have h1 := (mem_keyO.1 h1).2
      have h2 := (mem_keyO.1 h2).2
      have e1 : x.2.1 = a := by rcases h1 with h | ⟨_, _, _, h⟩ <;> rw [h]
      have e2 : y.2.1 = b := by rcases h2 with h | ⟨_, _, _, h⟩ <;> rw [h]
      rw [e] at e1; omega
  · obtain ⟨d, _, rfl⟩ := List.mem_map.1 ha
    obtain ⟨i, _, h⟩ := List.mem_flatMap.1 hb
    unfold keyI at h
    obtain ⟨o, _, h⟩ := List.mem_flatMap.1 h
    have h1 := (keyA_dev T q d).2
    have h2 := (mem_keyO.1 h).2
    have e1 : 2 ≤ b.1 := by
      rcases h2 with h | ⟨_, _, _, h⟩
      · rw [h]; exact Nat.le_refl 2
      · rw [h]; exact Nat.le_succ 2
    rw [e] at h1; omega
theorem idx_at {l : List Key} (hn : l.Nodup) {j : Nat} {κ : Key} (h : l[j]? = some κ) : l.idxOf κ = j := by
  obtain ⟨hl, he⟩ := List.getElem?_eq_some_iff.1 h
  have h1 := List.idxOf_lt_length_iff.2 (List.mem_of_getElem? h)
  have h2 := List.getElem_idxOf h1
  exact (List.getElem_inj hn).1 (by rw [h2, he])
theorem at_idx {l : List Key} {κ : Key} (h : κ ∈ l) : l[l.idxOf κ]? = some κ := by
  have h1 := List.idxOf_lt_length_iff.2 h
  rw [List.getElem?_eq_getElem h1, List.getElem_idxOf h1]
theorem sum_idx {l : List Key} (hn : l.Nodup) (F : Nat → Int) : sumR l.length F = sumK l fun κ => F (l.idxOf κ) := by
  unfold sumR sumK
  congr 1
  apply List.ext_getElem?
  intro j
  by_cases hj : j < l.length
  · rw [map_range_get hj, List.getElem?_map, List.getElem?_eq_getElem hj]
    have := idx_at hn (List.getElem?_eq_getElem hj)
    simp [this]
  · rw [List.getElem?_eq_none (by simp; omega), List.getElem?_eq_none (by simp; omega)]
theorem sumR_pairs (F : Nat → Int) : ∀ m, sumR (2 * m) F = sumR m fun j => F (2 * j) + F (2 * j + 1)
  | 0 => rfl
  | m + 1 => by
    rw [show 2 * (m + 1) = 2 * m + 1 + 1 by omega, sumR_succ, sumR_succ, sumR_succ, sumR_pairs F m]
    omega
theorem sumK_congr {l : List Key} {f h : Key → Int} (e : ∀ κ ∈ l, f κ = h κ) : sumK l f = sumK l h := by unfold sumK; rw [List.map_congr_left e]
theorem sumK_add (l : List Key) (f h : Key → Int) : sumK l (fun κ => f κ + h κ) = sumK l f + sumK l h := sum_map_add f h l
theorem sumK_sub (l : List Key) (f h : Key → Int) : sumK l (fun κ => f κ - h κ) = sumK l f - sumK l h := sum_map_sub f h l
theorem sumK_le : ∀ {l : List Key} {f h : Key → Int}, (∀ κ ∈ l, f κ ≤ h κ) → sumK l f ≤ sumK l h
  | [], _, _, _ => Int.le_refl _
  | κ :: l, f, h, e => by
    have h1 := e κ (List.mem_cons_self ..)
    have h2 := sumK_le (l := l) (f := f) (h := h) fun x hx => e x (List.mem_cons_of_mem _ hx)
    unfold sumK at *
    rw [List.map_cons, List.map_cons, List.sum_cons, List.sum_cons]
    omega
theorem sumK_zero {l : List Key} {f : Key → Int} (e : ∀ κ ∈ l, f κ = 0) : sumK l f = 0 := by
  rw [sumK_congr (h := fun _ => 0) e]
  unfold sumK
  induction l with
  | nil => rfl
  | cons x l ih => rw [List.map_cons, List.sum_cons, ih fun κ hκ => e κ (List.mem_cons_of_mem _ hκ)]; rfl
theorem sumK_one : ∀ {l : List Key}, l.Nodup → ∀ {κ0 : Key}, κ0 ∈ l → ∀ (f : Key → Int), sumK l (fun κ => if κ = κ0 then f κ else 0) = f κ0
  | [], _, κ0, h, _ => by simp at h
  | κ :: l, hn, κ0, h, f => by
    rw [List.nodup_cons] at hn
    have e : sumK (κ :: l) (fun κ => if κ = κ0 then f κ else 0) = (if κ = κ0 then f κ else 0) + sumK l (fun κ => if κ = κ0 then f κ else 0) := by unfold sumK; rw [List.map_cons, List.sum_cons]
    rw [e]
    by_cases h1 : κ = κ0
    · subst h1
      rw [if_pos rfl, sumK_zero fun x hx => if_neg fun z => hn.1 (by rw [← z]; exact hx)]
      omega
    · rw [if_neg h1, sumK_one hn.2 ((List.mem_cons.1 h).resolve_left fun z => h1 z.symm) f]
      omega
theorem sumK_swap (l : List Key) (N : Nat) (f : Nat → Key → Int) : sumR N (fun v => sumK l (f v)) = sumK l (fun κ => sumR N (fun v => f v κ)) := by
  induction N with
  | zero => exact (sumK_zero fun _ _ => rfl).symm
  | succ N ih =>
    rw [sumR_succ, ih, ← sumK_add]
    exact sumK_congr fun κ _ => (sumR_succ N _).symm
def idxK (T : Tab) (q : List Int) (κ : Key) : Nat := (keys T q).idxOf κ
def roomE (T : Tab) (q : List Int) (g : Net) (κ : Key) : Int := g.room (2 * idxK T q κ)
def roomO (T : Tab) (q : List Int) (g : Net) (κ : Key) : Int := g.room (2 * idxK T q κ + 1)
/-- The same arcs as the network of all reliefs, whatever their rooms. -/
structure Like (T : Tab) (q : List Int) (g : Net) : Prop where
  out : g.out = (relief T q).1.out
  len : g.arcs.length = (relief T q).1.arcs.length
  tip : ∀ i, g.tip i = (relief T q).1.tip i
theorem Like.push {T : Tab} {q : List Int} {g g' : Net} {s t : Nat} {tot : Int} (h : Like T q g) (P : Push g g' s t tot) : Like T q g' := ⟨P.out.trans h.out, P.len.trans h.len, fun i => (P.tip i).trans (h.tip i)⟩
theorem Like.two {T : Tab} {q : List Int} {g : Net} (h : Like T q g) : g.arcs.length = 2 * (keys T q).length := h.len.trans (relief_built T q).1.len
theorem Like.tails {T : Tab} {q : List Int} {g : Net} (h : Like T q g) {κ : Key} (hk : κ ∈ keys T q) : tailA g (2 * idxK T q κ) = kf T.length κ ∧ tailA g (2 * idxK T q κ + 1) = kt T.length κ := by
  obtain ⟨a1, a2, _, _⟩ := (relief_built T q).1.at_ _ κ (at_idx hk)
  unfold tailA
  rw [xor_even, xor_odd, h.tip, h.tip]
  exact ⟨a2, a1⟩
theorem sum_arcs {T : Tab} {q : List Int} {g : Net} (h : Like T q g) (F : Nat → Int) : sumR g.arcs.length F = sumK (keys T q) fun κ => F (2 * idxK T q κ) + F (2 * idxK T q κ + 1) := by
  rw [h.two, sumR_pairs, sum_idx (keys_nodup T q)]
  rfl
theorem outD_keys {T : Tab} {q : List Int} {g g' : Net} (h : Like T q g) (v : Nat) : outD g g' v = sumK (keys T q) fun κ => (if kf T.length κ = v then roomE T q g κ - roomE T q g' κ else 0) + (if kt T.length κ = v then roomO T q g κ - roomO T q g' κ else 0) := by
  unfold outD
  rw [sum_arcs h]
  refine sumK_congr fun κ hκ => ?_
  obtain ⟨h1, h2⟩ := h.tails hκ
  rw [h1, h2]; rfl
/-- Rooms and flow; the arcs of F are done with. -/
structure Cur (T : Tab) (q : List Int) (g : Net) (F : List Key) (φ : Key → Int) : Prop where
  res : Res g (nodesN T.length)
  like : Like T q g
  free : ∀ κ ∈ keys T q, κ ∉ F → roomE T q g κ = kr T q κ - φ κ ∧ roomO T q g κ = φ κ
  done : ∀ κ ∈ F, κ ∈ keys T q ∧ roomE T q g κ = 0 ∧ roomO T q g κ = 0
  nn : ∀ κ ∈ keys T q, 0 ≤ φ κ
theorem idx_lt {T : Tab} {q : List Int} {g : Net} (h : Like T q g) {κ : Key} (hk : κ ∈ keys T q) : 2 * idxK T q κ < g.arcs.length ∧ 2 * idxK T q κ + 1 < g.arcs.length := by
  have h1 : idxK T q κ < (keys T q).length := List.idxOf_lt_length_iff.2 hk
  rw [h.two]; omega
/-- The flow behind a push. -/
def pushed (T : Tab) (q : List Int) (g' : Net) (F : List Key) (φ : Key → Int) (κ : Key) : Int := if κ ∈ F then φ κ else roomO T q g' κ
theorem Cur.push {T : Tab} {q : List Int} {g g' : Net} {F : List Key} {φ : Key → Int} {s t : Nat} {tot : Int} (C : Cur T q g F φ) (P : Push g g' s t tot) (R : Res g' (nodesN T.length)) :
    Cur T q g' F (pushed T q g' F φ) ∧ ∀ v, dv T q (pushed T q g' F φ) v = dv T q φ v + tot * (ind (s = v) - ind (t = v)) := by
  have L := C.like.push P
  have hpair : ∀ κ ∈ keys T q, roomE T q g' κ + roomO T q g' κ = roomE T q g κ + roomO T q g κ := fun κ hκ => by
    have := P.pair _ (idx_lt C.like hκ).1
    rw [xor_even] at this
    exact this
  have hnn : ∀ κ ∈ keys T q, 0 ≤ roomE T q g' κ ∧ 0 ≤ roomO T q g' κ := fun κ hκ => ⟨R.pos _ (idx_lt L hκ).1, R.pos _ (idx_lt L hκ).2⟩
  have hdone : ∀ κ ∈ F, κ ∈ keys T q ∧ roomE T q g' κ = 0 ∧ roomO T q g' κ = 0 := fun κ hκ => by
    obtain ⟨h1, h2, h3⟩ := C.done κ hκ
    have h4 := hpair κ h1
    have h5 := hnn κ h1
    exact ⟨h1, by omega, by omega⟩
  refine ⟨⟨R, L, fun κ hκ hF => ?_, hdone, fun κ hκ => ?_⟩, fun v => ?_⟩
  · unfold pushed
    rw [if_neg hF]
    have h1 := C.free κ hκ hF
    have h2 := hpair κ hκ
    exact ⟨by omega, rfl⟩
  · unfold pushed
    split
    · exact C.nn κ hκ
    · exact (hnn κ hκ).2
  · have h1 := P.flow v
    rw [outD_keys C.like] at h1
    rw [← h1]
    unfold dv
    rw [← sumK_add]
    refine sumK_congr fun κ hκ => ?_
    unfold pushed
    by_cases hF : κ ∈ F
    · rw [if_pos hF]
      obtain ⟨_, a1, a2⟩ := C.done κ hF
      obtain ⟨_, b1, b2⟩ := hdone κ hF
      rw [a1, a2, b1, b2]
      simp
    · rw [if_neg hF]
      have h3 := C.free κ hκ hF
      have h4 := hpair κ hκ
      unfold ind
      by_cases c1 : kf T.length κ = v
      · by_cases c2 : kt T.length κ = v
        · simp only [if_pos c1, if_pos c2]; omega
        · simp only [if_pos c1, if_neg c2]; omega
      · by_cases c2 : kt T.length κ = v
        · simp only [if_neg c1, if_pos c2]; omega
        · simp only [if_neg c1, if_neg c2]; omega
def Feas (T : Tab) (q : List Int) (ψ : Key → Int) : Prop := ∀ κ ∈ keys T q, 0 ≤ ψ κ ∧ ψ κ ≤ kr T q κ
/-- All that leaves a set of nodes. -/
def dS (T : Tab) (q : List Int) (S : List Nat) (ψ : Key → Int) : Int := sumR (nodesN T.length) fun v => if v ∈ S then dv T q ψ v else 0
theorem kf_lt {T : Tab} {q : List Int} {κ : Key} (h : κ ∈ keys T q) : kf T.length κ < nodesN T.length ∧ kt T.length κ < nodesN T.length := by
  rcases mem_keys.1 h with ⟨d, hd, rfl⟩ | ⟨i, o, hi, ho, _, rfl | ⟨t, ht, _, rfl⟩⟩
  · have hmul := Nat.mul_le_mul_right T.length (show 1 ≤ T.length by omega)
    unfold keyA nodesN
    split
    · rw [kf0, kt0]; omega
    · rw [kf1, kt1]; omega
  · rw [kf2, kt2]
    exact ⟨by unfold nodesN; omega, stock_lt hi ho⟩
  · rw [kf3, kt3]
    have hmul := Nat.mul_le_mul_right T.length (show 1 ≤ T.length by omega)
    exact ⟨stock_lt hi ho, by unfold nodesN; omega⟩
theorem dS_keys (T : Tab) (q : List Int) (S : List Nat) (ψ : Key → Int) : dS T q S ψ = sumK (keys T q) fun κ => (ind (kf T.length κ ∈ S) - ind (kt T.length κ ∈ S)) * ψ κ := by
  unfold dS
  have e : ∀ v, v < nodesN T.length → (if v ∈ S then dv T q ψ v else 0) = sumK (keys T q) fun κ => if v ∈ S then (ind (kf T.length κ = v) - ind (kt T.length κ = v)) * ψ κ else 0 := by
    intro v _
    split
    · rfl
    · exact (sumK_zero fun _ _ => rfl).symm
  rw [sumR_congr e, sumK_swap]
  refine sumK_congr fun κ hκ => ?_
  obtain ⟨h1, h2⟩ := kf_lt hκ
  have one : ∀ (u : Nat), u < nodesN T.length → sumR (nodesN T.length) (fun v => if v = u then (if v ∈ S then ψ κ else 0) else 0) = ind (u ∈ S) * ψ κ := by
    intro u hu
    rw [sumR_pick hu (fun v => if v ∈ S then ψ κ else 0)]
    unfold ind
    split <;> simp
  have e2 : ∀ v, v < nodesN T.length → (if v ∈ S then (ind (kf T.length κ = v) - ind (kt T.length κ = v)) * ψ κ else 0) = (if v = kf T.length κ then (if v ∈ S then ψ κ else 0) else 0) - (if v = kt T.length κ then (if v ∈ S then ψ κ else 0) else 0) := by
    intro v _
    unfold ind
    by_cases c0 : v ∈ S
    · by_cases c1 : v = kf T.length κ
      · by_cases c2 : v = kt T.length κ
        · simp only [if_pos c0, if_pos c1, if_pos c2, if_pos c1.symm, if_pos c2.symm]; simp
        · simp only [if_pos c0, if_pos c1, if_neg c2, if_pos c1.symm, if_neg (fun z => c2 (Eq.symm z))]; simp
      · by_cases c2 : v = kt T.length κ
        · simp only [if_pos c0, if_neg c1, if_pos c2, if_neg (fun z => c1 (Eq.symm z)), if_pos c2.symm]; simp
        · simp only [if_pos c0, if_neg c1, if_neg c2, if_neg (fun z => c1 (Eq.symm z)), if_neg (fun z => c2 (Eq.symm z))]; simp
    · simp only [if_neg c0]; split <;> split <;> simp
  rw [sumR_congr e2, sumR_sub, one _ h1, one _ h2, Int.sub_mul]
/-- A set that no arc with room leaves: no other flow that agrees on what is done brings more out of it. -/
theorem cut_best {T : Tab} {q : List Int} {g : Net} {F : List Key} {φ ψ : Key → Int} {S : List Nat} (C : Cur T q g F φ) (hS : Shut g S S) (hψ : Feas T q ψ) (hF : ∀ κ ∈ F, ψ κ = φ κ) : dS T q S ψ ≤ dS T q S φ := by
  rw [dS_keys, dS_keys]
  refine sumK_le fun κ hκ => ?_
  by_cases h : κ ∈ F
  · rw [hF κ h]; exact Int.le_refl _
  · obtain ⟨h1, h2⟩ := C.free κ hκ h
    obtain ⟨t1, t2⟩ := C.like.tails hκ
    obtain ⟨l1, l2⟩ := idx_lt C.like hκ
    obtain ⟨b1, b2⟩ := hψ κ hκ
    have p1 : g.tip (2 * idxK T q κ) = kt T.length κ := by rw [← t2]; unfold tailA; rw [xor_odd]
    have p2 : g.tip (2 * idxK T q κ + 1) = kf T.length κ := by rw [← t1]; unfold tailA; rw [xor_even]
    unfold ind
    by_cases c1 : kf T.length κ ∈ S
    · by_cases c2 : kt T.length κ ∈ S
      · simp only [if_pos c1, if_pos c2]; simp
      · have : ¬ 0 < roomE T q g κ := fun z => c2 (by rw [← p1]; exact hS _ c1 _ l1 t1 z)
        simp only [if_pos c1, if_neg c2]; omega
    · by_cases c2 : kt T.length κ ∈ S
      · have : ¬ 0 < roomO T q g κ := fun z => c1 (by rw [← p2]; exact hS _ c2 _ l2 t2 z)
        simp only [if_neg c1, if_pos c2]; omega
      · simp only [if_neg c1, if_neg c2]; simp
end Quo
/- Settle, plain: the loops end; what they leave is the greatest flow, choice by choice. -/
namespace Quo
set_option linter.unusedVariables false
def topB : Int := 13194139533312
theorem load_bound {T : Tab} (hT : VT T) (d : Nat) : 0 ≤ loadOf T d ∧ loadOf T d ≤ topB := by
  unfold loadOf heldF topB
  by_cases hd : d < T.length
  · have hr := get_some hd ([] : List Int)
    have e : (T.map List.sum).getD d 0 = (T.getD d []).sum := getD_of (by rw [List.getElem?_map, hr]; rfl)
    rw [e]
    exact abs_sum (hT.row hr).2.2 (by rw [(hT.row hr).1]; exact hT.1)
  · rw [List.getD_eq_getElem?_getD, List.getElem?_eq_none (by simp; omega)]; decide
theorem quota_bound {q : List Int} (hq : Cnt q) (d : Nat) : 0 ≤ q.getD d 0 ∧ q.getD d 0 ≤ 1099511627776 := by
  by_cases hd : d < q.length
  · exact hq _ (List.mem_of_getElem? (get_some hd 0))
  · rw [List.getD_eq_getElem?_getD, List.getElem?_eq_none (by omega)]; decide
theorem kr_bound {T : Tab} {q : List Int} (hT : VT T) (hq : Cnt q) {κ : Key} (h : κ ∈ keys T q) : 0 ≤ kr T q κ ∧ kr T q κ ≤ topB := by
  rcases mem_keys.1 h with ⟨d, hd, rfl⟩ | ⟨i, o, hi, ho, _, rfl | ⟨t, ht, _, rfl⟩⟩
  · have h1 := load_bound hT d
    have h2 := quota_bound hq d
    by_cases hv : over T q d
    · rw [keyA_over hv]
      show 0 ≤ loadOf T d - q.getD d 0 ∧ loadOf T d - q.getD d 0 ≤ topB
      unfold over at hv
      omega
    · rw [keyA_under hv]
      show 0 ≤ q.getD d 0 - loadOf T d ∧ q.getD d 0 - loadOf T d ≤ topB
      unfold over at hv
      unfold topB at *
      omega
  · have := at2_small hT i o
    show 0 ≤ at2 T i o ∧ at2 T i o ≤ topB
    unfold topB; omega
  · have := at2_small hT i o
    show 0 ≤ at2 T i o ∧ at2 T i o ≤ topB
    unfold topB; omega
theorem sumR_const (n : Nat) (c : Int) : sumR n (fun _ => c) = (n : Int) * c := by
  induction n with
  | zero => simp [sumR]
  | succ n ih => rw [sumR_succ, ih, Int.natCast_add, Int.add_mul]; simp
theorem keys_length {T : Tab} {q : List Int} (h12 : T.length ≤ 12) : ((keys T q).length : Int) ≤ 1884 := by
  have h1 : ((keys T q).length : Int) = sumK (keys T q) fun _ => 1 := by
    have : ∀ l : List Key, (l.length : Int) = sumK l fun _ => 1 := by
      intro l
      induction l with
      | nil => rfl
      | cons x l ih => unfold sumK at *; rw [List.map_cons, List.sum_cons, ← ih, List.length_cons]; omega
    exact this _
  rw [h1, sumK_keys]
  have h2 : sumR T.length (fun i => sumR T.length (fun o => if okO T q i o then (1 : Int) + sumR T.length (fun t => if okT T q o t then 1 else 0) else 0)) ≤ sumR T.length (fun i => sumR T.length (fun o => 1 + (T.length : Int))) := by
    refine sumR_le fun i _ => sumR_le fun o _ => ?_
    have h3 : sumR T.length (fun t => if okT T q o t then (1 : Int) else 0) ≤ sumR T.length (fun _ => 1) := sumR_le fun t _ => by split <;> omega
    rw [sumR_const] at h3
    split <;> omega
  rw [sumR_const]
  have h4 : sumR T.length (fun i => sumR T.length (fun o => 1 + (T.length : Int))) = (T.length : Int) * ((T.length : Int) * (1 + (T.length : Int))) := by
    rw [sumR_congr (h := fun _ => (T.length : Int) * (1 + (T.length : Int))) fun i _ => sumR_const _ _, sumR_const]
  rw [h4] at h2
  obtain ⟨n, hn⟩ : ∃ n : Nat, n = T.length := ⟨_, rfl⟩
  rw [← hn] at h2 h12 ⊢
  have h5 : (n : Int) * (1 + (n : Int)) ≤ 12 * 13 := Int.mul_le_mul (by omega) (by omega) (by omega) (by omega)
  have h6 : (n : Int) * ((n : Int) * (1 + (n : Int))) ≤ 12 * (12 * 13) := Int.mul_le_mul (by omega) h5 (Int.mul_nonneg (by omega) (by omega)) (by omega)
  omega
theorem cur_start {T : Tab} {q : List Int} (hT : VT T) (hq : Cnt q) : Cur T q (relief T q).1 [] (fun _ => 0) := by
  have B := (relief_built T q).1
  have hkl := keys_length (q := q) hT.1
  have hn : nodesN T.length ≤ 1000 := by
    unfold nodesN
    have h := hT.1
    have := Nat.mul_le_mul h h
    omega
  have hodd : ∀ k, k < (relief T q).1.arcs.length → ∃ κ, κ ∈ keys T q ∧ ((relief T q).1.room k = kr T q κ ∨ (relief T q).1.room k = 0) := by
    intro k hk
    rw [B.len] at hk
    have hj : k / 2 < (keys T q).length := by omega
    obtain ⟨_, _, a3, a4⟩ := B.at_ (k / 2) _ (List.getElem?_eq_getElem hj)
    refine ⟨_, List.getElem_mem hj, ?_⟩
    rcases Nat.mod_two_eq_zero_or_one k with h | h
    · left; rw [← a3]; congr 1; omega
    · right; rw [← a4]; congr 1; omega
  refine ⟨⟨B.shp.nodes, B.shp.ok hn (by omega), B.rows, fun k hk => ?_⟩, ⟨rfl, rfl, fun _ => rfl⟩, fun κ hκ _ => ?_, fun κ hκ => by simp at hκ, fun κ _ => Int.le_refl _⟩
  · obtain ⟨κ, h1, h2 | h2⟩ := hodd k hk
    · rw [h2]; exact (kr_bound hT hq h1).1
    · rw [h2]; exact Int.le_refl _
  · obtain ⟨_, _, a3, a4⟩ := B.at_ _ κ (at_idx hκ)
    exact ⟨by unfold roomE idxK; rw [a3]; omega, a4⟩
theorem Cur.pair {T : Tab} {q : List Int} {g : Net} {F : List Key} {φ : Key → Int} (C : Cur T q g F φ) (hT : VT T) (hq : Cnt q) {κ : Key} (h : κ ∈ keys T q) : 0 ≤ roomE T q g κ ∧ 0 ≤ roomO T q g κ ∧ roomE T q g κ + roomO T q g κ ≤ topB := by
  obtain ⟨l1, l2⟩ := idx_lt C.like h
  refine ⟨C.res.pos _ l1, C.res.pos _ l2, ?_⟩
  have hb := kr_bound hT hq h
  by_cases hF : κ ∈ F
  · obtain ⟨_, a, b⟩ := C.done κ hF
    omega
  · obtain ⟨a, b⟩ := C.free κ h hF
    omega
theorem arc_key {T : Tab} {q : List Int} {g : Net} (L : Like T q g) {k : Nat} (hk : k < g.arcs.length) : ∃ κ, κ ∈ keys T q ∧ (k = 2 * idxK T q κ ∨ k = 2 * idxK T q κ + 1) := by
  rw [L.two] at hk
  have hj : k / 2 < (keys T q).length := by omega
  refine ⟨_, List.getElem_mem hj, ?_⟩
  have : idxK T q (keys T q)[k / 2] = k / 2 := idx_at (keys_nodup T q) (List.getElem?_eq_getElem hj)
  rw [this]; omega
/-- Rooms are small enough for push. -/
theorem Cur.small {T : Tab} {q : List Int} {g : Net} {F : List Key} {φ : Key → Int} (C : Cur T q g F φ) (hT : VT T) (hq : Cnt q) (s : Nat) :
    (∀ k, k < g.arcs.length → g.room k + g.room (k ^^^ 1) ≤ lim) ∧ capS g s ≤ 1000 * lim := by
  constructor
  · intro k hk
    obtain ⟨κ, h1, h2⟩ := arc_key C.like hk
    have h3 := (C.pair hT hq h1).2.2
    unfold roomE roomO topB at h3
    unfold lim
    rcases h2 with rfl | rfl
    · rw [xor_even]; omega
    · rw [xor_odd]; omega
  · unfold capS
    have h1 : sumR g.arcs.length (fun i => if tailA g i = s then g.room i else 0) ≤ sumR g.arcs.length (fun i => g.room i) := sumR_le fun i hi => by
      have := C.res.pos i hi
      split <;> omega
    have h2 : sumR g.arcs.length (fun i => g.room i) ≤ sumK (keys T q) fun _ => topB := by
      rw [sum_arcs C.like]
      exact sumK_le fun κ hκ => (C.pair hT hq hκ).2.2
    have h3 : (sumK (keys T q) fun _ => topB) = ((keys T q).length : Int) * topB := by
      have : ∀ l : List Key, (sumK l fun _ => topB) = (l.length : Int) * topB := by
        intro l
        induction l with
        | nil => simp [sumK]
        | cons x l ih => unfold sumK at *; rw [List.map_cons, List.sum_cons, ih, List.length_cons, Int.natCast_add, Int.add_mul]; simp; omega
      exact this _
    have h4 : ((keys T q).length : Int) * topB ≤ 1884 * topB := Int.mul_le_mul_of_nonneg_right (keys_length hT.1) (by decide)
    unfold topB at *
    unfold lim
    omega
theorem nodes_small {T : Tab} (hT : VT T) : nodesN T.length < 1000 := by
  unfold nodesN
  have h := hT.1
  have := Nat.mul_le_mul h h
  omega
/-- A flow with one number changed. -/
def upd (ψ : Key → Int) (κ0 : Key) (z : Int) (κ : Key) : Int := if κ = κ0 then z else ψ κ
theorem sumK_upd {T : Tab} {q : List Int} {κ0 : Key} (h : κ0 ∈ keys T q) (w : Key → Int) (ψ : Key → Int) (z : Int) : sumK (keys T q) (fun κ => w κ * upd ψ κ0 z κ) = sumK (keys T q) (fun κ => w κ * ψ κ) + w κ0 * (z - ψ κ0) := by
  have e : sumK (keys T q) (fun κ => w κ * upd ψ κ0 z κ) = sumK (keys T q) (fun κ => w κ * ψ κ + if κ = κ0 then w κ * (z - ψ κ) else 0) := sumK_congr fun κ _ => by
    unfold upd
    by_cases h : κ = κ0
    · rw [if_pos h, if_pos h, Int.mul_sub]; omega
    · rw [if_neg h, if_neg h]; omega
  rw [e, sumK_add, sumK_one (keys_nodup T q) h (fun κ => w κ * (z - ψ κ))]
theorem dv_upd {T : Tab} {q : List Int} {κ0 : Key} (h : κ0 ∈ keys T q) (ψ : Key → Int) (z : Int) (v : Nat) : dv T q (upd ψ κ0 z) v = dv T q ψ v + (ind (kf T.length κ0 = v) - ind (kt T.length κ0 = v)) * (z - ψ κ0) := sumK_upd h _ ψ z
theorem dS_upd {T : Tab} {q : List Int} {κ0 : Key} (h : κ0 ∈ keys T q) (S : List Nat) (ψ : Key → Int) (z : Int) : dS T q S (upd ψ κ0 z) = dS T q S ψ + (ind (kf T.length κ0 ∈ S) - ind (kt T.length κ0 ∈ S)) * (z - ψ κ0) := by
  rw [dS_keys, dS_keys]; exact sumK_upd h _ ψ z
theorem Cur.congrF {T : Tab} {q : List Int} {g : Net} {F F' : List Key} {φ : Key → Int} (C : Cur T q g F φ) (h : ∀ κ, κ ∈ F' ↔ κ ∈ F) : Cur T q g F' φ :=
  ⟨C.res, C.like, fun κ hκ hF => C.free κ hκ fun z => hF ((h κ).2 z), fun κ hκ => C.done κ ((h κ).1 hκ), C.nn⟩
theorem idx_inj {T : Tab} {q : List Int} {κ κ' : Key} (h : κ ∈ keys T q) (h' : κ' ∈ keys T q) (e : idxK T q κ = idxK T q κ') : κ = κ' := by
  have a := at_idx h
  have b := at_idx h'
  unfold idxK at e
  rw [e, b] at a
  exact (Option.some.inj a).symm
theorem Cur.clear {T : Tab} {q : List Int} {g : Net} {F : List Key} {φ : Key → Int} (C : Cur T q g F φ) {κ0 : Key} (h : κ0 ∈ keys T q) {c : Ch} (hc : c.num = 2 * idxK T q κ0) : Cur T q (clearC g c) (κ0 :: F) φ := by
  obtain ⟨l1, l2⟩ := idx_lt C.like h
  have hx : c.num ^^^ 1 = 2 * idxK T q κ0 + 1 := by rw [hc, xor_even]
  have hroom : ∀ i, (clearC g c).room i = if i = 2 * idxK T q κ0 ∨ i = 2 * idxK T q κ0 + 1 then 0 else g.room i := by
    intro i
    unfold clearC
    rw [hx, hc, setRoom_room _ _ _ _ (by rw [setRoom_len]; exact l2), setRoom_room _ _ _ _ l1]
    by_cases h1 : i = 2 * idxK T q κ0 + 1
    · rw [if_pos h1, if_pos (.inr h1)]
    · rw [if_neg h1]
      by_cases h2 : i = 2 * idxK T q κ0
      · rw [if_pos h2, if_pos (.inl h2)]
      · rw [if_neg h2, if_neg (fun z => z.elim h2 h1)]
  have htip : ∀ i, (clearC g c).tip i = g.tip i := fun i => by unfold clearC; rw [setRoom_tip, setRoom_tip]
  have hlen : (clearC g c).arcs.length = g.arcs.length := clearC_len g c
  have hother : ∀ κ ∈ keys T q, κ ≠ κ0 → roomE T q (clearC g c) κ = roomE T q g κ ∧ roomO T q (clearC g c) κ = roomO T q g κ := by
    intro κ hκ hne
    have hi : idxK T q κ ≠ idxK T q κ0 := fun e => hne (idx_inj hκ h e)
    unfold roomE roomO
    rw [hroom, hroom, if_neg (by omega), if_neg (by omega)]
    exact ⟨rfl, rfl⟩
  refine ⟨⟨C.res.nodes, clearC_ok C.res.ok c, fun v hv k => ?_, fun k hk => ?_⟩, ⟨C.like.out, hlen.trans C.like.len, fun i => (htip i).trans (C.like.tip i)⟩, fun κ hκ hF => ?_, fun κ hκ => ?_, C.nn⟩
  · have : tailA (clearC g c) k = tailA g k := htip _
    rw [hlen, this]
    exact C.res.rows v hv k
  · rw [hlen] at hk
    rw [hroom]
    split
    · exact Int.le_refl _
    · exact C.res.pos k hk
  · rw [List.mem_cons] at hF
    obtain ⟨a, b⟩ := hother κ hκ fun e => hF (.inl e)
    rw [a, b]
    exact C.free κ hκ fun z => hF (.inr z)
  · by_cases e : κ = κ0
    · subst e
      refine ⟨h, ?_, ?_⟩
      · unfold roomE; rw [hroom, if_pos (.inl rfl)]
      · unfold roomO; rw [hroom, if_pos (.inr rfl)]
    · have hF : κ ∈ F := (List.mem_cons.1 hκ).resolve_left e
      obtain ⟨a1, a2, a3⟩ := C.done κ hF
      obtain ⟨a, b⟩ := hother κ a1 e
      exact ⟨a1, by rw [a, a2], by rw [b, a3]⟩
theorem Cur.set {T : Tab} {q : List Int} {g : Net} {F : List Key} {φ : Key → Int} {κ0 : Key} (C : Cur T q g (κ0 :: F) φ) {z : Int} (hz : 0 ≤ z) : Cur T q g (κ0 :: F) (upd φ κ0 z) := by
  refine ⟨C.res, C.like, fun κ hκ hF => ?_, C.done, fun κ hκ => ?_⟩
  · have hne : κ ≠ κ0 := fun e => hF (by rw [e]; exact List.mem_cons_self ..)
    unfold upd
    rw [if_neg hne]
    exact C.free κ hκ hF
  · unfold upd
    split
    · exact hz
    · exact C.nn κ hκ
/-- What a flow that is balanced inside brings to each device, and that no arc bears too much. -/
theorem Cur.feas {T : Tab} {q : List Int} {g : Net} {F : List Key} {φ : Key → Int} (C : Cur T q g F φ) (hF3 : ∀ κ ∈ F, κ.1 = 3) (hb : ∀ v, v ≠ 0 → v ≠ 1 → dv T q φ v = 0) : Feas T q φ := by
  have hfree : ∀ κ ∈ keys T q, κ ∉ F → φ κ ≤ kr T q κ := fun κ hκ hF => by
    obtain ⟨a, _⟩ := C.free κ hκ hF
    have := C.res.pos _ (idx_lt C.like hκ).1
    unfold roomE at a
    omega
  intro κ hκ
  refine ⟨C.nn κ hκ, ?_⟩
  by_cases hF : κ ∈ F
  · rcases mem_keys.1 hκ with ⟨d, hd, rfl⟩ | ⟨i, o, hi, ho, hok, rfl | ⟨t, ht, hokt, rfl⟩⟩
    · have := hF3 _ hF
      have := (keyA_dev T q d).2
      omega
    · have := hF3 _ hF
      cases this
    · have h2k : ((2, i, o, 0) : Key) ∈ keys T q := mem_keys.2 (.inr ⟨i, o, hi, ho, hok, .inl rfl⟩)
      have h2F : ((2, i, o, 0) : Key) ∉ F := fun z => by have := hF3 _ z; cases this
      have h1 := hfree _ h2k h2F
      have hge := stock_ge T.length i o
      have h2 := hb (stockOf T.length i o) (by omega) (by omega)
      rw [dv_stock hi ho hok] at h2
      have h3 : φ (3, i, o, t) ≤ sumR T.length fun t => mvs T q φ i o t := by
        have h4 : mvs T q φ i o t = φ (3, i, o, t) := if_pos ⟨hok, hokt⟩
        rw [← h4, ← sumR_pick ht (fun t => mvs T q φ i o t)]
        refine sumR_le fun t' ht' => ?_
        have h5 : 0 ≤ mvs T q φ i o t' := by
          unfold mvs
          split
          · rename_i hh
            exact C.nn _ (mem_keys.2 (.inr ⟨i, o, hi, ho, hok, .inr ⟨t', ht', hh.2, rfl⟩⟩))
          · exact Int.le_refl _
        split <;> omega
      have e : kr T q (2, i, o, 0) = kr T q (3, i, o, t) := rfl
      omega
  · exact hfree κ hκ hF
/-- The moves of a list of arcs. -/
def movK (φ : Key → Int) (κ : Key) : List Mv := if κ.1 = 3 then (if φ κ = 0 then [] else [⟨κ.2.1, κ.2.2.2, κ.2.2.1, φ κ⟩]) else []
def F3 (l : List Key) : List Key := l.filter fun κ => decide (κ.1 = 3)
theorem mem_F3 {l : List Key} {κ : Key} : κ ∈ F3 l ↔ κ ∈ l ∧ κ.1 = 3 := by unfold F3; rw [List.mem_filter]; simp
theorem run_spec {T : Tab} {q : List Int} (hT : VT T) (hq : Cnt q) (D : Nat → Int) (hD : ∀ v, v ≠ 0 → v ≠ 1 → D v = 0) :
    ∀ (ks pre : List Key) (g : Net) (φ : Key → Int) (mv : List Mv), keys T q = pre ++ ks → Cur T q g (F3 pre) φ → (∀ v, dv T q φ v = D v) →
      ∃ φ', (∀ κ ∈ pre, κ.1 = 3 → φ' κ = φ κ) ∧ Feas T q φ' ∧ (∀ v, dv T q φ' v = D v) ∧ Run g mv (chs T.length pre.length ks) (mv ++ ks.flatMap (movK φ')) ∧
        ∀ a κ0 b, ks = a ++ κ0 :: b → κ0.1 = 3 → ∀ ψ, Feas T q ψ → (∀ v, dv T q ψ v = D v) → (∀ κ ∈ pre ++ a, κ.1 = 3 → ψ κ = φ' κ) → ψ κ0 ≤ φ' κ0 := by
  intro ks
  induction ks with
  | nil =>
    intro pre g φ mv he C hb
    refine ⟨φ, fun _ _ _ => rfl, C.feas (fun κ hκ => (mem_F3.1 hκ).2) (fun v h0 h1 => by rw [hb, hD v h0 h1]), hb, ?_, fun a κ0 b h => ?_⟩
    · show mv = mv ++ []
      rw [List.append_nil]
    · have := congrArg List.length h
      simp at this
  | cons κ0 ks ih =>
    intro pre g φ mv he C hb
    have hn := keys_nodup T q
    have hmem : κ0 ∈ keys T q := by rw [he]; simp
    have hpre : κ0 ∉ pre := by
      rw [he, List.nodup_append] at hn
      intro h
      exact hn.2.2 κ0 h κ0 (List.mem_cons_self ..) rfl
    have he2 : keys T q = (pre ++ [κ0]) ++ ks := by rw [he]; simp
    have hl2 : (pre ++ [κ0]).length = pre.length + 1 := by simp
    by_cases h3 : κ0.1 = 3
    · obtain ⟨i, o, hi, ho, hok, t, ht, hokt, rfl⟩ : ∃ i o, i < T.length ∧ o < T.length ∧ okO T q i o ∧ ∃ t, t < T.length ∧ okT T q o t ∧ κ0 = (3, i, o, t) := by
        rcases mem_keys.1 hmem with ⟨d, hd, rfl⟩ | ⟨i, o, hi, ho, hok, rfl | h⟩
        · have := (keyA_dev T q d).2; omega
        · cases h3
        · exact ⟨i, o, hi, ho, hok, h⟩
      obtain ⟨c, hc⟩ : ∃ c : Ch, c = ⟨i, t, o, 2 * pre.length, stockOf T.length i o, 2 + T.length + t⟩ := ⟨_, rfl⟩
      have hidx : idxK T q (3, i, o, t) = pre.length := by
        refine idx_at hn ?_
        rw [he, List.getElem?_append_right (Nat.le_refl _), Nat.sub_self]; rfl
      have hnum : c.num = 2 * idxK T q (3, i, o, t) := by rw [hc, hidx]
      have hF0 : ((3, i, o, t) : Key) ∉ F3 pre := fun h => hpre (mem_F3.1 h).1
      have hamt : g.room (c.num ^^^ 1) = φ (3, i, o, t) := by
        rw [hnum, xor_even]
        exact (C.free _ hmem hF0).2
      have C1 := C.clear hmem hnum
      have hge := stock_ge T.length i o
      obtain ⟨w1, w2⟩ := C1.small hT hq (2 + T.length + t)
      have hgl : 2 + T.length + t < nodesN T.length := (kf_lt hmem).2
      have hsl : stockOf T.length i o < nodesN T.length := (kf_lt hmem).1
      obtain ⟨f, g2, y, p1, p2, p3, p4, S, s1, s2, s3⟩ := push_spec C1.res (nodes_small hT) hgl hsl (by omega) w1 w2
      obtain ⟨C2, d2⟩ := C1.push p2 p3
      obtain ⟨φ2, hφ2⟩ : ∃ φ2, φ2 = pushed T q g2 ((3, i, o, t) :: F3 pre) φ := ⟨_, rfl⟩
      rw [← hφ2] at C2 d2
      have hφ20 : φ2 (3, i, o, t) = φ (3, i, o, t) := by rw [hφ2]; unfold pushed; rw [if_pos (List.mem_cons_self ..)]
      have hφ2F : ∀ κ ∈ F3 pre, φ2 κ = φ κ := fun κ hκ => by rw [hφ2]; unfold pushed; rw [if_pos (List.mem_cons_of_mem _ hκ)]
      have hnn0 := C.nn _ hmem
      obtain ⟨z, hz⟩ : ∃ z, z = φ (3, i, o, t) + y := ⟨_, rfl⟩
      have C3 := C2.set (z := z) (by omega)
      have hF3 : ∀ κ, κ ∈ F3 (pre ++ [(3, i, o, t)]) ↔ κ ∈ ((3, i, o, t) : Key) :: F3 pre := by
        intro κ
        rw [mem_F3, List.mem_append, List.mem_singleton, List.mem_cons, mem_F3]
        constructor
        · rintro ⟨h | h, h'⟩
          · exact .inr ⟨h, h'⟩
          · exact .inl h
        · rintro (h | ⟨h, h'⟩)
          · exact ⟨.inr h, by rw [h]⟩
          · exact ⟨.inl h, h'⟩
      have hb3 : ∀ v, dv T q (upd φ2 (3, i, o, t) z) v = D v := by
        intro v
        rw [dv_upd hmem, d2, hb, hφ20, hz, kf3, kt3]
        have key : ∀ a y b c x : Int, a + y * (b - c) + (c - b) * (x + y - x) = a := by
          intros a y b c x
          rw [show x + y - x = y by omega, Int.mul_sub, Int.sub_mul, Int.mul_comm y b, Int.mul_comm y c]; omega
        exact key _ _ _ _ _
      obtain ⟨φ', r1, r2, r3, r4, r5⟩ := ih (pre ++ [(3, i, o, t)]) g2 (upd φ2 (3, i, o, t) z) (mv ++ mvOf c z) he2 (C3.congrF hF3) hb3
      have hx0 : φ' (3, i, o, t) = z := by
        rw [r1 _ (by simp) rfl]; unfold upd; rw [if_pos rfl]
      have hpre' : ∀ κ ∈ pre, κ.1 = 3 → φ' κ = φ κ := fun κ hκ h => by
        rw [r1 κ (List.mem_append_left _ hκ) h]
        unfold upd
        rw [if_neg (fun e => hpre (by rw [← e]; exact hκ))]
        exact hφ2F κ (mem_F3.2 ⟨hκ, h⟩)
      have hzb := r2 _ hmem
      rw [hx0] at hzb
      have hkb := kr_bound hT hq hmem
      refine ⟨φ', hpre', r2, r3, ?_, fun a κ1 b hab hk1 ψ hψ hψb hψp => ?_⟩
      · rw [hl2] at r4
        have e1 : chs T.length pre.length ((3, i, o, t) :: ks) = c :: chs T.length (pre.length + 1) ks := by rw [hc]; rfl
        rw [e1]
        refine ⟨f, g2, y, ?_, ?_, ?_⟩
        · rw [hc] at p1 ⊢; exact p1
        · rw [hamt, ← hz]; unfold lim topB at *; omega
        · rw [hamt, ← hz]
          have e2 : (mv ++ mvOf c z) ++ ks.flatMap (movK φ') = mv ++ ((3, i, o, t) :: ks).flatMap (movK φ') := by
            rw [List.append_assoc, List.flatMap_cons]
            congr 2
            unfold movK mvOf
            rw [if_pos rfl, hx0, hc]
          rw [← e2]; exact r4
      · cases a with
        | nil =>
          have hk : κ1 = (3, i, o, t) := by simpa using (List.cons.inj hab).1.symm
          subst hk
          rw [hx0]
          rw [List.append_nil] at hψp
          have hψ' : Feas T q (upd ψ (3, i, o, t) (φ2 (3, i, o, t))) := by
            intro κ hκ
            unfold upd
            by_cases e : κ = (3, i, o, t)
            · rw [if_pos e, e, hφ20]
              obtain ⟨a1, a2⟩ := C.free _ hmem hF0
              have := C.res.pos _ (idx_lt C.like hmem).1
              unfold roomE at a1
              omega
            · rw [if_neg e]; exact hψ κ hκ
          have hagree : ∀ κ ∈ ((3, i, o, t) : Key) :: F3 pre, upd ψ (3, i, o, t) (φ2 (3, i, o, t)) κ = φ2 κ := by
            intro κ hκ
            unfold upd
            by_cases e : κ = (3, i, o, t)
            · rw [if_pos e, e]
            · rw [if_neg e]
              have hκ2 := (List.mem_cons.1 hκ).resolve_left e
              have := mem_F3.1 hκ2
              rw [hψp κ this.1 this.2, hpre' κ this.1 this.2, hφ2F κ hκ2]
          have hcut := cut_best C2 s3 hψ' hagree
          rw [dS_upd hmem, hφ20, kf3, kt3, ind_f s2, ind_t s1] at hcut
          have e1 : dS T q S ψ = sumR (nodesN T.length) fun v => if v ∈ S then D v else 0 := sumR_congr fun v _ => by rw [hψb]
          have e2 : dS T q S φ2 = (sumR (nodesN T.length) fun v => if v ∈ S then D v else 0) + y := by
            have : ∀ v, v < nodesN T.length → (if v ∈ S then dv T q φ2 v else 0) = (if v ∈ S then D v else 0) + (if v = 2 + T.length + t then y else 0) := by
              intro v _
              rw [d2, hb]
              by_cases hv : v ∈ S
              · rw [if_pos hv, if_pos hv]
                have hns : ¬ stockOf T.length i o = v := fun e => s2 (by rw [e]; exact hv)
                rw [ind_f hns]
                by_cases e : v = 2 + T.length + t
                · rw [if_pos e, ind_t e.symm]; simp
                · rw [if_neg e, ind_f (fun z => e z.symm)]; simp
              · rw [if_neg hv, if_neg hv, if_neg (fun e => hv (by rw [e]; exact s1))]; rfl
            unfold dS
            rw [sumR_congr this, sumR_add, sumR_pick hgl (fun _ => y)]
          rw [e1, e2] at hcut
          omega
        | cons κ2 a =>
          have hh := List.cons.inj hab
          refine r5 a κ1 b hh.2 hk1 ψ hψ hψb fun κ hκ h => hψp κ ?_ h
          rw [hh.1] at hκ
          rw [List.append_assoc] at hκ
          exact hκ
    · have hF3 : ∀ κ, κ ∈ F3 (pre ++ [κ0]) ↔ κ ∈ F3 pre := by
        intro κ
        rw [mem_F3, mem_F3, List.mem_append, List.mem_singleton]
        constructor
        · rintro ⟨h | h, h'⟩
          · exact ⟨h, h'⟩
          · exact absurd (by rw [← h]; exact h') h3
        · rintro ⟨h, h'⟩
          exact ⟨.inl h, h'⟩
      obtain ⟨φ', r1, r2, r3, r4, r5⟩ := ih (pre ++ [κ0]) g φ mv he2 (C.congrF hF3) hb
      have e1 : chs T.length pre.length (κ0 :: ks) = chs T.length (pre.length + 1) ks := by
        show chK T.length pre.length κ0 ++ _ = _
        unfold chK
        rw [if_neg h3]; rfl
      have e2 : (κ0 :: ks).flatMap (movK φ') = ks.flatMap (movK φ') := by
        rw [List.flatMap_cons]
        unfold movK
        rw [if_neg h3]; rfl
      refine ⟨φ', fun κ hκ h => r1 κ (List.mem_append_left _ hκ) h, r2, r3, ?_, fun a κ1 b hab hk1 ψ hψ hψb hψp => ?_⟩
      · rw [e1, e2, ← hl2]; exact r4
      · cases a with
        | nil =>
          have hk : κ1 = κ0 := by simpa using (List.cons.inj hab).1.symm
          exact absurd (by rw [← hk]; exact hk1) h3
        | cons κ2 a =>
          have hh := List.cons.inj hab
          refine r5 a κ1 b hh.2 hk1 ψ hψ hψb fun κ hκ h => hψp κ ?_ h
          rw [hh.1] at hκ
          rw [List.append_assoc] at hκ
          exact hκ
end Quo
/- Settle, plain: its moves, and what they make of the table. -/
namespace Quo
set_option linter.unusedVariables false
/-- What leaves the source and enters the sink. -/
def Dfl (tot : Int) (v : Nat) : Int := tot * (ind (0 = v) - ind (1 = v))
theorem Dfl_in {tot : Int} {v : Nat} (h0 : v ≠ 0) (h1 : v ≠ 1) : Dfl tot v = 0 := by
  unfold Dfl
  rw [ind_f (fun e => h0 e.symm), ind_f (fun e => h1 e.symm)]; simp
theorem Dfl_zero (tot : Int) : Dfl tot 0 = tot := by
  unfold Dfl
  rw [ind_t rfl, ind_f (by decide)]; omega
/-- The first push. -/
theorem first_spec {T : Tab} {q : List Int} (hT : VT T) (hq : Cnt q) : ∃ f g1 tot φ, pushF 0 1 f (relief T q).1 0 = some (g1, tot) ∧ Cur T q g1 [] φ ∧ (∀ v, dv T q φ v = Dfl tot v) ∧ 0 ≤ tot ∧
    (∀ ψ, Feas T q ψ → (∀ v, v ≠ 0 → v ≠ 1 → dv T q ψ v = 0) → dv T q ψ 0 ≤ tot) ∧ ∃ S : List Nat, 0 ∈ S ∧ 1 ∉ S ∧ Shut g1 S S := by
  have C := cur_start hT hq
  obtain ⟨w1, w2⟩ := C.small hT hq 0
  have h2 : 2 ≤ nodesN T.length := by unfold nodesN; omega
  obtain ⟨f, g1, tot, p1, p2, p3, p4, S, s1, s2, s3⟩ := push_spec C.res (nodes_small hT) (show 0 < _ by omega) (show 1 < _ by omega) (by decide) w1 w2
  obtain ⟨C1, d1⟩ := C.push p2 p3
  have d0 : ∀ v, dv T q (fun _ => 0) v = 0 := fun v => sumK_zero fun κ _ => by simp
  refine ⟨f, g1, tot, _, p1, C1, fun v => by rw [d1, d0]; unfold Dfl; omega, p4, fun ψ hψ hb => ?_, S, s1, s2, s3⟩
  have hcut := cut_best C1 s3 hψ (fun κ h => by simp at h)
  have pick : ∀ χ : Key → Int, (∀ v, v ≠ 0 → v ≠ 1 → dv T q χ v = 0) → dS T q S χ = dv T q χ 0 := by
    intro χ hχ
    unfold dS
    have : ∀ v, v < nodesN T.length → (if v ∈ S then dv T q χ v else 0) = if v = 0 then dv T q χ v else 0 := by
      intro v _
      by_cases h0 : v = 0
      · subst h0; rw [if_pos s1, if_pos rfl]
      · rw [if_neg h0]
        by_cases h1 : v = 1
        · subst h1; rw [if_neg s2]
        · rw [hχ v h0 h1]; split <;> rfl
    rw [sumR_congr this, sumR_pick (show 0 < nodesN T.length by omega) (fun v => dv T q χ v)]
  rw [pick ψ hb, pick _ (fun v h0 h1 => by rw [d1, d0, ind_f (fun e => h0 e.symm), ind_f (fun e => h1 e.symm)]; simp)] at hcut
  rw [d1, d0, ind_t rfl, ind_f (by decide)] at hcut
  omega
theorem excess_le {T : Tab} {q : List Int} {φ : Key → Int} (h : Feas T q φ) : dv T q φ 0 ≤ (relief T q).2.2 ∧ (¬ dv T q φ 0 < (relief T q).2.2 → ∀ d, d < T.length → over T q d → φ (0, d, 0, 0) = loadOf T d - q.getD d 0) := by
  rw [dv_all, relief_excess]
  have hle : ∀ d, d < T.length → (if over T q d then φ (0, d, 0, 0) else 0) ≤ if over T q d then loadOf T d - q.getD d 0 else 0 := by
    intro d hd
    by_cases hv : over T q d
    · rw [if_pos hv, if_pos hv]
      have := (h (0, d, 0, 0) (mem_keys.2 (.inl ⟨d, hd, (keyA_over hv).symm⟩))).2
      exact this
    · rw [if_neg hv, if_neg hv]; exact Int.le_refl _
  refine ⟨sumR_le hle, fun hn d hd hv => ?_⟩
  have h1 := hle d hd
  rw [if_pos hv, if_pos hv] at h1
  apply Classical.byContradiction
  intro hne
  have hlt : φ (0, d, 0, 0) < loadOf T d - q.getD d 0 := by omega
  apply hn
  have h2 : sumR T.length (fun d' => (if over T q d' then φ (0, d', 0, 0) else 0) + if d' = d then 1 else 0) ≤ sumR T.length fun d => if over T q d then loadOf T d - q.getD d 0 else 0 := sumR_le fun d' hd' => by
    by_cases e : d' = d
    · subst e; rw [if_pos rfl, if_pos hv, if_pos hv]; omega
    · rw [if_neg e]; have := hle d' hd'; omega
  rw [sumR_add, sumR_pick hd (fun _ => 1)] at h2
  omega
/-- A move with numbers of the machine. -/
def mzOf (m : Mv) : Mz := ⟨(m.fr : Int), (m.dst : Int), (m.ow : Int), m.amt⟩
def relMoves (T : Tab) (q : List Int) (φ : Key → Int) : List Mv := (keys T q).flatMap (movK φ)
theorem mem_rel {T : Tab} {q : List Int} {φ : Key → Int} {m : Mv} (h : m ∈ relMoves T q φ) : ∃ i o t, i < T.length ∧ o < T.length ∧ t < T.length ∧ okO T q i o ∧ okT T q o t ∧ φ (3, i, o, t) ≠ 0 ∧ m = ⟨i, t, o, φ (3, i, o, t)⟩ := by
  obtain ⟨κ, hκ, hm⟩ := List.mem_flatMap.1 h
  unfold movK at hm
  by_cases h3 : κ.1 = 3
  · rw [if_pos h3] at hm
    by_cases h0 : φ κ = 0
    · rw [if_pos h0] at hm; simp at hm
    · rw [if_neg h0] at hm
      rcases mem_keys.1 hκ with ⟨d, hd, rfl⟩ | ⟨i, o, hi, ho, hok, rfl | ⟨t, ht, hokt, rfl⟩⟩
      · have := (keyA_dev T q d).2; omega
      · cases h3
      · exact ⟨i, o, t, hi, ho, ht, hok, hokt, h0, by simpa using hm⟩
  · rw [if_neg h3] at hm; simp at hm
theorem sum_flat_moves (l : List Key) (φ : Key → Int) (w : Mv → Int) (hw : ∀ m, m.amt = 0 → w m = 0) : ((l.flatMap (movK φ)).map w).sum = sumK l fun κ => if κ.1 = 3 then w ⟨κ.2.1, κ.2.2.2, κ.2.2.1, φ κ⟩ else 0 := by
  induction l with
  | nil => rfl
  | cons κ l ih =>
    rw [List.flatMap_cons, List.map_append, List.sum_append, ih]
    have e : sumK (κ :: l) (fun κ => if κ.1 = 3 then w ⟨κ.2.1, κ.2.2.2, κ.2.2.1, φ κ⟩ else 0) = (if κ.1 = 3 then w ⟨κ.2.1, κ.2.2.2, κ.2.2.1, φ κ⟩ else 0) + sumK l (fun κ => if κ.1 = 3 then w ⟨κ.2.1, κ.2.2.2, κ.2.2.1, φ κ⟩ else 0) := by unfold sumK; rw [List.map_cons, List.sum_cons]
    rw [e]
    congr 1
    unfold movK
    by_cases h3 : κ.1 = 3
    · rw [if_pos h3, if_pos h3]
      by_cases h0 : φ κ = 0
      · rw [if_pos h0, hw _ h0]; rfl
      · rw [if_neg h0]; simp
    · rw [if_neg h3, if_neg h3]; rfl
theorem mvs_yes {T : Tab} {q : List Int} {φ : Key → Int} {i o t : Nat} (h : okO T q i o) (k : okT T q o t) : mvs T q φ i o t = φ (3, i, o, t) := if_pos ⟨h, k⟩
theorem mvs_no1 {T : Tab} {q : List Int} {φ : Key → Int} {i o t : Nat} (h : ¬ okO T q i o) : mvs T q φ i o t = 0 := if_neg fun z => h z.1
theorem mvs_no2 {T : Tab} {q : List Int} {φ : Key → Int} {i o t : Nat} (h : ¬ okT T q o t) : mvs T q φ i o t = 0 := if_neg fun z => h z.2
/-- A sum over the moves is a sum over holders, owners and takers. -/
theorem sum_moves (T : Tab) (q : List Int) (φ : Key → Int) (P : Nat → Nat → Nat → Prop) [∀ i t o, Decidable (P i t o)] : ((relMoves T q φ).map fun m => if P m.fr m.dst m.ow then m.amt else 0).sum = sumR T.length fun i => sumR T.length fun o => sumR T.length fun t => if P i t o then mvs T q φ i o t else 0 := by
  unfold relMoves
  rw [sum_flat_moves (keys T q) φ (fun m => if P m.fr m.dst m.ow then m.amt else 0) (fun m h => by show (if P m.fr m.dst m.ow then m.amt else 0) = 0; rw [h]; split <;> rfl), sumK_keys]
  have h1 : sumR T.length (fun d => if (keyA T q d).1 = 3 then (if P (keyA T q d).2.1 (keyA T q d).2.2.2 (keyA T q d).2.2.1 then φ (keyA T q d) else 0) else 0) = 0 := sumR_zero fun d _ => by
    rw [if_neg]
    have := (keyA_dev T q d).2
    omega
  rw [show (sumR T.length fun d => if (keyA T q d).1 = 3 then (fun m : Mv => if P m.fr m.dst m.ow then m.amt else 0) ⟨(keyA T q d).2.1, (keyA T q d).2.2.2, (keyA T q d).2.2.1, φ (keyA T q d)⟩ else 0) = 0 from h1, Int.zero_add]
  refine sumR_congr fun i _ => sumR_congr fun o _ => ?_
  by_cases hk : okO T q i o
  · rw [if_pos hk]
    have h2 : (if ((2, i, o, 0) : Key).1 = 3 then (fun m : Mv => if P m.fr m.dst m.ow then m.amt else 0) ⟨i, 0, o, φ (2, i, o, 0)⟩ else 0) = 0 := if_neg (show ¬ (2 = 3) by decide)
    rw [show (if ((2, i, o, 0) : Key).1 = 3 then (fun m : Mv => if P m.fr m.dst m.ow then m.amt else 0) ⟨((2, i, o, 0) : Key).2.1, ((2, i, o, 0) : Key).2.2.2, ((2, i, o, 0) : Key).2.2.1, φ (2, i, o, 0)⟩ else 0) = 0 from h2, Int.zero_add]
    refine sumR_congr fun t _ => ?_
    by_cases ht : okT T q o t
    · rw [if_pos ht, mvs_yes hk ht]; rfl
    · rw [if_neg ht, mvs_no2 ht]; split <;> rfl
  · rw [if_neg hk]
    refine (sumR_zero fun t _ => ?_).symm
    rw [mvs_no1 hk]; split <;> rfl
theorem mvs_nn {T : Tab} {q : List Int} {φ : Key → Int} (h : Feas T q φ) {i o t : Nat} (hi : i < T.length) (ho : o < T.length) (ht : t < T.length) : 0 ≤ mvs T q φ i o t := by
  unfold mvs
  split
  · rename_i hh
    exact (h _ (mem_keys.2 (.inr ⟨i, o, hi, ho, hh.1, .inr ⟨t, ht, hh.2, rfl⟩⟩))).1
  · exact Int.le_refl _
/-- A flow balanced inside. -/
structure Flow (T : Tab) (q : List Int) (φ : Key → Int) : Prop where
  feas : Feas T q φ
  bal : ∀ v, v ≠ 0 → v ≠ 1 → dv T q φ v = 0
theorem Flow.hold {T : Tab} {q : List Int} {φ : Key → Int} (h : Flow T q φ) (hT : VT T) {i o : Nat} (hi : i < T.length) (ho : o < T.length) : (sumR T.length fun t => mvs T q φ i o t) ≤ at2 T i o := by
  by_cases hk : okO T q i o
  · have hge := stock_ge T.length i o
    have h1 := h.bal (stockOf T.length i o) (by omega) (by omega)
    rw [dv_stock hi ho hk] at h1
    have h2 : φ (2, i, o, 0) ≤ at2 T i o := (h.feas _ (mem_keys.2 (.inr ⟨i, o, hi, ho, hk, .inl rfl⟩))).2
    omega
  · rw [sumR_zero fun t _ => by unfold mvs; rw [if_neg (fun z => hk z.1)]]
    exact at2_nonneg hT i o
theorem Flow.give {T : Tab} {q : List Int} {φ : Key → Int} (h : Flow T q φ) {i : Nat} (hi : i < T.length) : (sumR T.length fun o => sumR T.length fun t => mvs T q φ i o t) = if over T q i then φ (0, i, 0, 0) else 0 := by
  by_cases hv : over T q i
  · rw [if_pos hv]
    have h1 := h.bal (2 + i) (by omega) (by omega)
    rw [dv_give hi hv] at h1
    have h2 : (sumR T.length fun o => sumR T.length fun t => mvs T q φ i o t) = sumR T.length fun o => if okO T q i o then φ (2, i, o, 0) else 0 := sumR_congr fun o ho => by
      by_cases hk : okO T q i o
      · rw [if_pos hk]
        have hge := stock_ge T.length i o
        have h3 := h.bal (stockOf T.length i o) (by omega) (by omega)
        rw [dv_stock hi ho hk] at h3
        omega
      · rw [if_neg hk]
        exact sumR_zero fun t _ => by unfold mvs; rw [if_neg (fun z => hk z.1)]
    rw [h2]; omega
  · rw [if_neg hv]
    exact sumR_zero fun o _ => sumR_zero fun t _ => by unfold mvs; rw [if_neg (fun z => hv z.1.1)]
theorem Flow.take {T : Tab} {q : List Int} {φ : Key → Int} (h : Flow T q φ) {t : Nat} (ht : t < T.length) : (sumR T.length fun i => sumR T.length fun o => mvs T q φ i o t) = if over T q t then 0 else φ (1, t, 0, 0) := by
  by_cases hv : over T q t
  · rw [if_pos hv]
    exact sumR_zero fun i _ => sumR_zero fun o _ => by unfold mvs; rw [if_neg (fun z => z.2.1 hv)]
  · rw [if_neg hv]
    have h1 := h.bal (2 + T.length + t) (by omega) (by omega)
    rw [dv_take ht hv] at h1
    omega
theorem Flow.takeLe {T : Tab} {q : List Int} {φ : Key → Int} (h : Flow T q φ) {t : Nat} (ht : t < T.length) (hv : ¬ over T q t) : 0 ≤ φ (1, t, 0, 0) ∧ φ (1, t, 0, 0) ≤ q.getD t 0 - loadOf T t :=
  h.feas (1, t, 0, 0) (mem_keys.2 (.inl ⟨t, ht, (keyA_under hv).symm⟩))

/-- A list of moves, applied. -/
def inSum (ms : List Mz) (a b : Nat) : Int := (ms.map fun m => if m.dst = (a : Int) ∧ m.ow = (b : Int) then m.amt else 0).sum
def outSum (ms : List Mz) (a b : Nat) : Int := (ms.map fun m => if m.fr = (a : Int) ∧ m.ow = (b : Int) then m.amt else 0).sum
theorem sum_nn {α : Type} {w : α → Int} : ∀ {l : List α}, (∀ x ∈ l, 0 ≤ w x) → 0 ≤ (l.map w).sum
  | [], _ => Int.le_refl _
  | x :: l, h => by
    rw [List.map_cons, List.sum_cons]
    have h1 := h x (List.mem_cons_self ..)
    have h2 := sum_nn (l := l) fun y hy => h y (List.mem_cons_of_mem _ hy)
    omega
theorem appR_all : ∀ (ms : List Mz) (S : Tab) (n : Nat), VT S → S.length = n → (∀ m ∈ ms, MovOk n m) → (∀ a b, a < n → b < n → outSum ms a b ≤ at2 S a b) → (∀ a b, a < n → b < n → at2 S a b + inSum ms a b ≤ maxC) →
    ∃ S', appR S ms = (0, S') ∧ VT S' ∧ S'.length = n ∧ ∀ a b, a < n → b < n → at2 S' a b = at2 S a b + inSum ms a b - outSum ms a b
  | [], S, n, hS, hn, _, _, _ => ⟨S, rfl, hS, hn, fun a b _ _ => by simp [inSum, outSum]⟩
  | m :: ms, S, n, hS, hn, hok, ho, hi => by
    have hm := hok m (List.mem_cons_self ..)
    obtain ⟨f, t, o, e1, e2, e3, hf, ht, hoo, hft, hfo, hto⟩ := hm.nat
    have hpos := hm.2.2.2.2.2.2.2.2.2.1
    have hnn : ∀ x ∈ ms, 0 ≤ x.amt := fun x hx => by have := (hok x (List.mem_cons_of_mem _ hx)).2.2.2.2.2.2.2.2.2.1; omega
    have hI : ∀ a b, 0 ≤ inSum ms a b := fun a b => sum_nn fun x hx => by have := hnn x hx; split <;> omega
    have hO : ∀ a b, 0 ≤ outSum ms a b := fun a b => sum_nn fun x hx => by have := hnn x hx; split <;> omega
    have cI : ∀ a b, inSum (m :: ms) a b = (if a = t ∧ b = o then m.amt else 0) + inSum ms a b := by
      intro a b
      unfold inSum
      rw [List.map_cons, List.sum_cons, e2, e3]
      congr 1
      by_cases h : a = t ∧ b = o
      · rw [if_pos h, if_pos ⟨by rw [h.1], by rw [h.2]⟩]
      · rw [if_neg h, if_neg (fun z => h ⟨by omega, by omega⟩)]
    have cO : ∀ a b, outSum (m :: ms) a b = (if a = f ∧ b = o then m.amt else 0) + outSum ms a b := by
      intro a b
      unfold outSum
      rw [List.map_cons, List.sum_cons, e1, e3]
      congr 1
      by_cases h : a = f ∧ b = o
      · rw [if_pos h, if_pos ⟨by rw [h.1], by rw [h.2]⟩]
      · rw [if_neg h, if_neg (fun z => h ⟨by omega, by omega⟩)]
    have h1 : ¬ at2 S m.fr.toNat m.ow.toNat < m.amt := by
      rw [e1, e3, Int.toNat_natCast, Int.toNat_natCast]
      have a1 := ho f o hf hoo
      rw [cO, if_pos ⟨rfl, rfl⟩] at a1
      have := hO f o
      omega
    have h2 : ¬ maxC - m.amt < at2 S m.dst.toNat m.ow.toNat := by
      rw [e2, e3, Int.toNat_natCast, Int.toNat_natCast]
      have a1 := hi t o ht hoo
      rw [cI, if_pos ⟨rfl, rfl⟩] at a1
      have := hI t o
      omega
    obtain ⟨hV, hl⟩ := movT_vt hS (by rw [hn]; exact hm) h1 h2
    have hat := fun a b => movT_at hS hn e1 e2 e3 hf ht hoo hft a b
    have hat2 : ∀ a b, at2 (movT S m) a b = at2 S a b + (if a = t ∧ b = o then m.amt else 0) - (if a = f ∧ b = o then m.amt else 0) := by
      intro a b
      rw [hat]
      by_cases c1 : a = t ∧ b = o
      · rw [if_pos c1, if_pos c1, if_neg (fun z => hft (by rw [← z.1, c1.1])), c1.1, c1.2]; omega
      · rw [if_neg c1, if_neg c1]
        by_cases c2 : a = f ∧ b = o
        · rw [if_pos c2, if_pos c2, c2.1, c2.2]; omega
        · rw [if_neg c2, if_neg c2]; omega
    obtain ⟨S', r1, r2, r3, r4⟩ := appR_all ms (movT S m) n hV (hl.trans hn) (fun x hx => hok x (List.mem_cons_of_mem _ hx)) (fun a b ha hb => by
        have a1 := ho a b ha hb
        rw [cO] at a1
        rw [hat2]
        split <;> (split at a1 <;> first | omega | (split <;> omega))) (fun a b ha hb => by
        have a1 := hi a b ha hb
        rw [cI] at a1
        rw [hat2]
        have : 0 ≤ (if a = f ∧ b = o then m.amt else 0) := by split <;> omega
        omega)
    refine ⟨S', by rw [appR_cons, if_neg h1, if_neg h2]; exact r1, r2, r3, fun a b ha hb => ?_⟩
    rw [r4 a b ha hb, hat2, cI, cO]; omega
end Quo
/- Settle's moves, plain: allowed, in order; what each device holds behind them. -/
namespace Quo
set_option linter.unusedVariables false
theorem sumR_swap (n m : Nat) (f : Nat → Nat → Int) : (sumR n fun i => sumR m fun j => f i j) = sumR m fun j => sumR n fun i => f i j := sum_swap (fun j i => f i j) _ _
theorem load_at {T : Tab} (hT : VT T) {d : Nat} (hd : d < T.length) : loadOf T d = sumR T.length fun b => at2 T d b := by
  unfold loadOf heldF sumR
  have hr := get_some hd ([] : List Int)
  have e : (T.map List.sum).getD d 0 = (T.getD d []).sum := getD_of (by rw [List.getElem?_map, hr]; rfl)
  rw [e, row_at hT rfl hd]
theorem in_rel (T : Tab) (q : List Int) (φ : Key → Int) {a b : Nat} (ha : a < T.length) (hb : b < T.length) : inSum ((relMoves T q φ).map mzOf) a b = sumR T.length fun i => mvs T q φ i b a := by
  unfold inSum
  rw [List.map_map]
  have e : ((relMoves T q φ).map ((fun m : Mz => if m.dst = (a : Int) ∧ m.ow = (b : Int) then m.amt else 0) ∘ mzOf)) = (relMoves T q φ).map fun m => if m.dst = a ∧ m.ow = b then m.amt else 0 := by
    refine List.map_congr_left fun m _ => ?_
    show (if ((m.dst : Nat) : Int) = (a : Int) ∧ ((m.ow : Nat) : Int) = (b : Int) then m.amt else 0) = _
    by_cases h : m.dst = a ∧ m.ow = b
    · rw [if_pos h, if_pos ⟨by rw [h.1], by rw [h.2]⟩]
    · rw [if_neg h, if_neg (fun z => h ⟨by omega, by omega⟩)]
  rw [e, sum_moves T q φ (fun i t o => t = a ∧ o = b)]
  refine sumR_congr fun i _ => ?_
  have h1 : ∀ o, o < T.length → (sumR T.length fun t => if t = a ∧ o = b then mvs T q φ i o t else 0) = if o = b then mvs T q φ i o a else 0 := by
    intro o _
    by_cases h : o = b
    · rw [if_pos h, ← sumR_pick ha (fun t => mvs T q φ i o t)]
      exact sumR_congr fun t _ => by
        by_cases ht : t = a
        · rw [if_pos ht, if_pos ⟨ht, h⟩]
        · rw [if_neg ht, if_neg (fun z => ht z.1)]
    · rw [if_neg h]
      exact sumR_zero fun t _ => if_neg fun z => h z.2
  rw [sumR_congr h1, sumR_pick hb (fun o => mvs T q φ i o a)]
theorem out_rel (T : Tab) (q : List Int) (φ : Key → Int) {a b : Nat} (ha : a < T.length) (hb : b < T.length) : outSum ((relMoves T q φ).map mzOf) a b = sumR T.length fun t => mvs T q φ a b t := by
  unfold outSum
  rw [List.map_map]
  have e : ((relMoves T q φ).map ((fun m : Mz => if m.fr = (a : Int) ∧ m.ow = (b : Int) then m.amt else 0) ∘ mzOf)) = (relMoves T q φ).map fun m => if m.fr = a ∧ m.ow = b then m.amt else 0 := by
    refine List.map_congr_left fun m _ => ?_
    show (if ((m.fr : Nat) : Int) = (a : Int) ∧ ((m.ow : Nat) : Int) = (b : Int) then m.amt else 0) = _
    by_cases h : m.fr = a ∧ m.ow = b
    · rw [if_pos h, if_pos ⟨by rw [h.1], by rw [h.2]⟩]
    · rw [if_neg h, if_neg (fun z => h ⟨by omega, by omega⟩)]
  rw [e, sum_moves T q φ (fun i t o => i = a ∧ o = b)]
  have h1 : ∀ i, i < T.length → (sumR T.length fun o => sumR T.length fun t => if i = a ∧ o = b then mvs T q φ i o t else 0) = if i = a then sumR T.length fun t => mvs T q φ i b t else 0 := by
    intro i _
    by_cases h : i = a
    · rw [if_pos h, ← sumR_pick hb (fun o => sumR T.length fun t => mvs T q φ i o t)]
      refine sumR_congr fun o _ => ?_
      by_cases ho : o = b
      · rw [if_pos ho]
        exact sumR_congr fun t _ => if_pos ⟨h, ho⟩
      · rw [if_neg ho]
        exact sumR_zero fun t _ => if_neg fun z => ho z.2
    · rw [if_neg h]
      exact sumR_zero fun o _ => sumR_zero fun t _ => if_neg fun z => h z.1
  rw [sumR_congr h1, sumR_pick ha (fun i => sumR T.length fun t => mvs T q φ i b t)]
theorem rel_ok {T : Tab} {q : List Int} {φ : Key → Int} (hT : VT T) (h : Flow T q φ) : ∀ m ∈ (relMoves T q φ).map mzOf, MovOk T.length m := by
  intro m hm
  obtain ⟨m', hm', rfl⟩ := List.mem_map.1 hm
  obtain ⟨i, o, t, hi, ho, ht, hok, hokt, hne, rfl⟩ := mem_rel hm'
  have hk : ((3, i, o, t) : Key) ∈ keys T q := mem_keys.2 (.inr ⟨i, o, hi, ho, hok, .inr ⟨t, ht, hokt, rfl⟩⟩)
  obtain ⟨b1, b2⟩ := h.feas _ hk
  have b3 : kr T q (3, i, o, t) = at2 T i o := rfl
  have b4 := at2_small hT i o
  have hit : i ≠ t := fun e => hokt.1 (by rw [← e]; exact hok.1)
  have hio : i ≠ o := fun e => hok.2 (by rw [e]; exact hT.diag ho)
  have hto := hokt.2
  refine ⟨Int.natCast_nonneg i, ?_, Int.natCast_nonneg t, ?_, Int.natCast_nonneg o, ?_, ?_, ?_, ?_, ?_, ?_⟩
  · show (i : Int) < _; omega
  · show (t : Int) < _; omega
  · show (o : Int) < _; omega
  · show (i : Int) ≠ (t : Int); omega
  · show (i : Int) ≠ (o : Int); omega
  · show (t : Int) ≠ (o : Int); omega
  · show 1 ≤ φ (3, i, o, t); omega
  · show φ (3, i, o, t) ≤ maxC; unfold maxC; omega
theorem held_le_row {T : Tab} (hT : VT T) {d b : Nat} (hd : d < T.length) (hb : b < T.length) : at2 T d b ≤ loadOf T d := by
  rw [load_at hT hd, ← sumR_pick hb (fun b => at2 T d b)]
  refine sumR_le fun j _ => ?_
  have := at2_nonneg hT d j
  split <;> omega
theorem fits_plain {T : Tab} {q : List Int} {φ : Key → Int} (hf : VT T ∧ q.length = T.length ∧ Cnt q) (h : Flow T q φ) (hex : ¬ dv T q φ 0 < (relief T q).2.2) :
    ∃ S, appF T ((relMoves T q φ).map mzOf) = (0, S) ∧ VT S ∧ S.length = T.length ∧ ∀ d, d < T.length → (over T q d → loadOf S d = q.getD d 0) ∧ (¬ over T q d → loadOf S d ≤ q.getD d 0 ∧ loadOf T d ≤ loadOf S d) := by
  obtain ⟨hT, hql, hq⟩ := hf
  have hnn := @mvs_nn T q φ h.feas
  have hgive := (excess_le h.feas).2 hex
  have hO : ∀ a b, a < T.length → b < T.length → outSum ((relMoves T q φ).map mzOf) a b ≤ at2 T a b := fun a b ha hb => by
    rw [out_rel T q φ ha hb]; exact h.hold hT ha hb
  have hI : ∀ a b, a < T.length → b < T.length → at2 T a b + inSum ((relMoves T q φ).map mzOf) a b ≤ maxC := fun a b ha hb => by
    rw [in_rel T q φ ha hb]
    by_cases hv : over T q a
    · rw [sumR_zero fun i _ => mvs_no2 fun z => z.1 hv]
      have := at2_small hT a b
      unfold maxC; omega
    · have h1 := h.takeLe ha hv
      have h2 := h.take ha
      rw [if_neg hv] at h2
      have h3 : (sumR T.length fun i => mvs T q φ i b a) ≤ sumR T.length fun i => sumR T.length fun o => mvs T q φ i o a := sumR_le fun i hi => by
        rw [← sumR_pick hb (fun o => mvs T q φ i o a)]
        refine sumR_le fun o ho => ?_
        have := hnn hi ho ha
        split <;> omega
      have h4 := held_le_row hT ha hb
      have h5 := quota_bound hq a
      unfold maxC; omega
  obtain ⟨S, r1, r2, r3, r4⟩ := appR_all _ T T.length hT rfl (rel_ok hT h) hO hI
  refine ⟨S, by rw [appF_yes hT (rel_ok hT h)]; exact r1, r2, r3, fun d hd => ?_⟩
  have hl : loadOf S d = loadOf T d + (if over T q d then 0 else φ (1, d, 0, 0)) - (if over T q d then φ (0, d, 0, 0) else 0) := by
    rw [load_at r2 (by rw [r3]; exact hd), load_at hT hd, r3, ← h.take hd, ← h.give hd, sumR_swap T.length T.length (fun i o => mvs T q φ i o d), ← sumR_add, ← sumR_sub]
    refine sumR_congr fun b hb => ?_
    rw [r4 d b hd hb, in_rel T q φ hd hb, out_rel T q φ hd hb]
  constructor
  · intro hv
    rw [if_pos hv, if_pos hv, hgive d hd hv] at hl
    omega
  · intro hv
    rw [if_neg hv, if_neg hv] at hl
    have := h.takeLe hd hv
    omega
/-- The moves' order. -/
def MvLt (a b : Mv) : Prop := a.fr < b.fr ∨ (a.fr = b.fr ∧ (a.ow < b.ow ∨ (a.ow = b.ow ∧ a.dst < b.dst)))
theorem mem_movK {φ : Key → Int} {κ : Key} {m : Mv} (h : m ∈ movK φ κ) : κ.1 = 3 ∧ m.fr = κ.2.1 ∧ m.ow = κ.2.2.1 ∧ m.dst = κ.2.2.2 := by
  unfold movK at h
  by_cases h3 : κ.1 = 3
  · rw [if_pos h3] at h
    by_cases h0 : φ κ = 0
    · rw [if_pos h0] at h; simp at h
    · rw [if_neg h0] at h
      have : m = ⟨κ.2.1, κ.2.2.2, κ.2.2.1, φ κ⟩ := by simpa using h
      rw [this]; exact ⟨h3, rfl, rfl, rfl⟩
  · rw [if_neg h3] at h; simp at h
theorem movK_pair (φ : Key → Int) (κ : Key) : List.Pairwise MvLt (movK φ κ) := by
  unfold movK
  split
  · split
    · exact List.Pairwise.nil
    · exact List.pairwise_singleton ..
  · exact List.Pairwise.nil
theorem keyLt_pair {l : List Key} {φ : Key → Int} (h : List.Pairwise (fun a b : Key => a.1 = 3 → b.1 = 3 → a.2.1 < b.2.1 ∨ (a.2.1 = b.2.1 ∧ (a.2.2.1 < b.2.2.1 ∨ (a.2.2.1 = b.2.2.1 ∧ a.2.2.2 < b.2.2.2)))) l) : List.Pairwise MvLt (l.flatMap (movK φ)) := by
  rw [List.pairwise_flatMap]
  refine ⟨fun κ _ => movK_pair φ κ, h.imp fun {a b} hab x hx y hy => ?_⟩
  obtain ⟨a1, a2, a3, a4⟩ := mem_movK hx
  obtain ⟨b1, b2, b3, b4⟩ := mem_movK hy
  have := hab a1 b1
  unfold MvLt
  rw [a2, a3, a4, b2, b3, b4]
  exact this
theorem rel_sorted (T : Tab) (q : List Int) (φ : Key → Int) : List.Pairwise MvLt (relMoves T q φ) := by
  unfold relMoves
  refine keyLt_pair ?_
  unfold keys
  rw [List.pairwise_append]
  refine ⟨?_, ?_, fun a ha b hb h => ?_⟩
  · rw [List.pairwise_map]
    refine List.Pairwise.imp (fun {a b} (hab : a < b) h => ?_) List.pairwise_lt_range
    have := (keyA_dev T q a).2
    omega
  · rw [List.pairwise_flatMap]
    refine ⟨fun i _ => ?_, List.Pairwise.imp (fun {a b} (hab : a < b) x hx y hy _ _ => ?_) List.pairwise_lt_range⟩
    · unfold keyI
      rw [List.pairwise_flatMap]
      refine ⟨fun o _ => ?_, List.Pairwise.imp (fun {a b} (hab : a < b) x hx y hy _ _ => ?_) List.pairwise_lt_range⟩
      · unfold keyO
        split
        · exact List.Pairwise.nil
        · rw [List.pairwise_cons]
          refine ⟨(fun x hx h => by cases h), ?_⟩
          rw [List.pairwise_flatMap]
          refine ⟨fun t _ => ?_, List.Pairwise.imp (fun {a b} (hab : a < b) x hx y hy _ _ => ?_) List.pairwise_lt_range⟩
          · unfold keyT
            split
            · exact List.Pairwise.nil
            · exact List.pairwise_singleton ..
          · rw [(mem_keyT.1 hx).2, (mem_keyT.1 hy).2]
            exact .inr ⟨rfl, .inr ⟨rfl, hab⟩⟩
      · have h1 := (mem_keyO.1 hx).2
        have h2 := (mem_keyO.1 hy).2
        have e1 : x.2.2.1 = a ∧ x.2.1 = i := by rcases h1 with h | ⟨_, _, _, h⟩ <;> (rw [h]; exact ⟨rfl, rfl⟩)
        have e2 : y.2.2.1 = b ∧ y.2.1 = i := by rcases h2 with h | ⟨_, _, _, h⟩ <;> (rw [h]; exact ⟨rfl, rfl⟩)
        exact .inr ⟨by rw [e1.2, e2.2], .inl (by rw [e1.1, e2.1]; exact hab)⟩
    · unfold keyI at hx hy
      obtain ⟨o1, _, h1⟩ := List.mem_flatMap.1 hx
      obtain ⟨o2, _, h2⟩ := List.mem_flatMap.1 hy
      have h1 := (mem_keyO.1 h1).2
      have h2 := (mem_keyO.1 h2).2
      have e1 : x.2.1 = a := by rcases h1 with h | ⟨_, _, _, h⟩ <;> rw [h]
      have e2 : y.2.1 = b := by rcases h2 with h | ⟨_, _, _, h⟩ <;> rw [h]
      exact .inl (by rw [e1, e2]; exact hab)
  · obtain ⟨d, _, rfl⟩ := List.mem_map.1 ha
    have := (keyA_dev T q d).2
    omega
end Quo
/- quota: Settle, for all tables and quotas that fit. -/
namespace Quo
set_option linter.unusedVariables false
/-- A relief of all, taken first where there is a choice. -/
structure Best (T : Tab) (q : List Int) (φ : Key → Int) : Prop where
  flow : Flow T q φ
  all : ¬ dv T q φ 0 < (relief T q).2.2
  best : ∀ a κ0 b, keys T q = a ++ κ0 :: b → κ0.1 = 3 → ∀ ψ, Flow T q ψ → ¬ dv T q ψ 0 < (relief T q).2.2 → (∀ κ ∈ a, κ.1 = 3 → ψ κ = φ κ) → ψ κ0 ≤ φ κ0
/-- There is no relief of all. -/
def Full (T : Tab) (q : List Int) : Prop := ∀ ψ, Flow T q ψ → dv T q ψ 0 < (relief T q).2.2
theorem dv_sum (T : Tab) (q : List Int) (ψ : Key → Int) : (sumR (nodesN T.length) fun v => dv T q ψ v) = 0 := by
  have h := dS_keys T q (List.range (nodesN T.length)) ψ
  have e : dS T q (List.range (nodesN T.length)) ψ = sumR (nodesN T.length) fun v => dv T q ψ v := sumR_congr fun v hv => if_pos (List.mem_range.2 hv)
  rw [← e, h]
  refine sumK_zero fun κ hκ => ?_
  obtain ⟨h1, h2⟩ := kf_lt hκ
  rw [ind_t (List.mem_range.2 h1), ind_t (List.mem_range.2 h2)]; simp
theorem Flow.sink {T : Tab} {q : List Int} {ψ : Key → Int} (h : Flow T q ψ) (v : Nat) : dv T q ψ v = Dfl (dv T q ψ 0) v := by
  by_cases h0 : v = 0
  · subst h0; rw [Dfl_zero]
  · by_cases h1 : v = 1
    · subst h1
      have h2 : 2 ≤ nodesN T.length := by unfold nodesN; omega
      have hs := dv_sum T q ψ
      have e : (sumR (nodesN T.length) fun v => dv T q ψ v) = sumR (nodesN T.length) fun v => (if v = 0 then dv T q ψ v else 0) + (if v = 1 then dv T q ψ v else 0) := sumR_congr fun v _ => by
        by_cases a : v = 0
        · subst a; simp
        · by_cases b : v = 1
          · subst b; simp
          · rw [h.bal v a b, if_neg a, if_neg b]; rfl
      rw [e, sumR_add, sumR_pick (show 0 < nodesN T.length by omega) (fun v => dv T q ψ v), sumR_pick (show 1 < nodesN T.length by omega) (fun v => dv T q ψ v)] at hs
      unfold Dfl
      rw [ind_f (by decide), ind_t rfl]; omega
    · rw [h.bal v h0 h1, Dfl_in h0 h1]
theorem mem_chs {n : Nat} : ∀ {ks : List Key} {j : Nat} {c : Ch}, c ∈ chs n j ks → ∃ i κ, ks[i]? = some κ ∧ κ.1 = 3 ∧ c = ⟨κ.2.1, κ.2.2.2, κ.2.2.1, 2 * (j + i), stockOf n κ.2.1 κ.2.2.1, 2 + n + κ.2.2.2⟩
  | [], j, c, h => by simp [chs] at h
  | κ :: ks, j, c, h => by
    rcases List.mem_append.1 h with h | h
    · unfold chK at h
      by_cases h3 : κ.1 = 3
      · rw [if_pos h3] at h
        exact ⟨0, κ, rfl, h3, by simpa using h⟩
      · rw [if_neg h3] at h; simp at h
    · obtain ⟨i, κ', h1, h2, h3⟩ := mem_chs h
      exact ⟨i + 1, κ', h1, h2, by rw [h3]; congr 1; omega⟩
theorem chs_len (n : Nat) : ∀ (ks : List Key) (j : Nat), (chs n j ks).length ≤ ks.length
  | [], _ => Nat.le_refl _
  | κ :: ks, j => by
    show (chK n j κ ++ chs n (j + 1) ks).length ≤ _
    rw [List.length_append, List.length_cons]
    have := chs_len n ks (j + 1)
    have : (chK n j κ).length ≤ 1 := by unfold chK; split <;> simp
    omega
theorem ch_ok {T : Tab} {q : List Int} : ∀ c ∈ (relief T q).2.1, ChOk (relief T q).1 c := by
  intro c hc
  obtain ⟨B, hB⟩ := relief_built T q
  rw [hB] at hc
  obtain ⟨i, κ, h1, h2, rfl⟩ := mem_chs hc
  have hk := List.mem_of_getElem? h1
  have hi := (List.getElem?_eq_some_iff.1 h1).1
  obtain ⟨k1, k2⟩ := kf_lt hk
  have e1 : kf T.length κ = stockOf T.length κ.2.1 κ.2.2.1 := by unfold kf; rw [if_neg (by omega), if_neg (by omega), if_neg (by omega)]
  have e2 : kt T.length κ = 2 + T.length + κ.2.2.2 := by unfold kt; rw [if_neg (by omega), if_neg (by omega), if_neg (by omega)]
  have hge := stock_ge T.length κ.2.1 κ.2.2.1
  rw [e1] at k1; rw [e2] at k2
  have hd : κ.2.2.2 < T.length := by
    rcases mem_keys.1 hk with ⟨d, hd, rfl⟩ | ⟨i, o, hi, ho, _, rfl | ⟨t, ht, _, rfl⟩⟩
    · have := (keyA_dev T q d).2; omega
    · cases h2
    · exact ht
  refine ⟨?_, ?_, ?_, ?_⟩
  · show 2 * (0 + i) < _; rw [B.len]; omega
  · rw [B.shp.nodes]; exact k1
  · rw [B.shp.nodes]; exact k2
  · show 2 + T.length + κ.2.2.2 ≠ stockOf T.length κ.2.1 κ.2.2.1; omega
/-- What Settle does. -/
theorem settle_plain {T : Tab} {q : List Int} (hT : VT T) (hq : Cnt q) : ∃ f g1 tot, pushF 0 1 f (relief T q).1 0 = some (g1, tot) ∧
    (tot < (relief T q).2.2 → Full T q) ∧ (¬ tot < (relief T q).2.2 → ∃ φ, Best T q φ ∧ Run g1 [] (relief T q).2.1 (relMoves T q φ)) := by
  obtain ⟨f, g1, tot, φ1, p1, C, d1, h0, hmax, S, s1, s2, s3⟩ := first_spec hT hq
  refine ⟨f, g1, tot, p1, fun hlt ψ hψ => ?_, fun hnl => ?_⟩
  · have := hmax ψ hψ.feas hψ.bal
    omega
  · obtain ⟨φ, r1, r2, r3, r4, r5⟩ := run_spec hT hq (Dfl tot) (fun v a b => Dfl_in a b) (keys T q) [] g1 φ1 [] rfl C d1
    have hF : Flow T q φ := ⟨r2, fun v a b => by rw [r3, Dfl_in a b]⟩
    have ht : dv T q φ 0 = tot := by rw [r3, Dfl_zero]
    refine ⟨φ, ⟨hF, by rw [ht]; exact hnl, fun a κ0 b he h3 ψ hψ hall hp => ?_⟩, ?_⟩
    · refine r5 a κ0 b he h3 ψ hψ.feas (fun v => ?_) fun κ hκ h => hp κ (by simpa using hκ) h
      have e : dv T q ψ 0 = tot := by
        have h1 := (excess_le hψ.feas).1
        have h2 := (excess_le hF.feas).1
        rw [ht] at h2
        omega
      rw [hψ.sink v, e]
    · rw [(relief_built T q).2]
      exact r4
end Quo
namespace Go.Proofs.Ytpecepfnmkpmmaa
open Go.RowKit Go.Kin Quo
set_option maxRecDepth 100000
set_option linter.unusedVariables false
theorem vm_vmz (m : Mv) : vm m = vmz (mzOf m) := rfl
theorem OwnA.moves {w : World} {B : Nat} {E : TypeId} {a : Option Addr} {n c : Nat} {r : List Mv} (h : OwnA vm 4 B E w a n c r) : RdA vmz 4 w a n c (r.map mzOf) := by
  have h1 := OwnA.rda h vm_len
  refine ⟨by rw [List.length_map]; exact h1.1, h1.2.1, h1.2.2.1, fun i x hx => ?_⟩
  rw [List.getElem?_map] at hx
  cases hr : r[i]? with
  | none => rw [hr] at hx; cases hx
  | some m =>
    rw [hr] at hx
    cases hx
    exact h1.2.2.2 i m hr
theorem settle_any (ta : Option Addr) (n tc : Nat) (T : Tab) (qa : Option Addr) (qc : Nat) (q : List Int) (w : World) (h : RdT w ta n tc T) (h2 : Rd vi w qa n qc q) (hf : Fit T q) :
    Calls Try.prog 28 #[.slice ta n tc, .slice qa n qc] w fun e w' => Below w.heap.size w w' ∧
      ((Full T q ∧ e = .returned (.tuple #[.slice none 0 0, .int .i64 7])) ∨
       ∃ φ ma mc, Best T q φ ∧ e = .returned (.tuple #[.slice ma (relMoves T q φ).length mc, .int .i64 0]) ∧ RdA vmz 4 w' ma (relMoves T q φ).length mc ((relMoves T q φ).map mzOf)) := by
  obtain ⟨f, g1, tot, p1, p2, p3⟩ := settle_plain hf.1 hf.2.2
  have hN : 1 < (relief T q).1.out.length := by rw [(relief_built T q).1.shp.nodes]; unfold nodesN; omega
  by_cases hlt : tot < (relief T q).2.2
  · refine (settle_full reliefAny ta n tc T qa qc q w h h2 hf hN f g1 tot p1 hlt).mono ?_
    rintro e w' ⟨rfl, hb⟩
    exact ⟨hb, .inl ⟨p2 hlt, rfl⟩⟩
  · obtain ⟨φ, hB, hR⟩ := p3 hlt
    have hcl : (relief T q).2.1.length ≤ 100000 := by
      rw [(relief_built T q).2]
      have h1 := chs_len T.length (keys T q) 0
      have h2 := keys_length (q := q) hf.1.1
      omega
    refine (settle_ok reliefAny ta n tc T qa qc q w h h2 hf hN ch_ok hcl f g1 tot p1 hlt _ hR).mono ?_
    rintro e w' ⟨ma, mc, rfl, ho, hb⟩
    exact ⟨hb, .inr ⟨φ, ma, mc, hB, rfl, OwnA.moves ho⟩⟩
end Go.Proofs.Ytpecepfnmkpmmaa
