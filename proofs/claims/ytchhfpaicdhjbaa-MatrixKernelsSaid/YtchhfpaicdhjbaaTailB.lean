/- A still head and a forced tail, where two operations that look at no memory float. -/
import Derived.Test.YtchhfpaicdhjbaaTail
namespace Go.Kin
open Region

/-- The operations of the list lie ahead of all else; otherwise the edge must follow from two that stand. -/
def okEdgeS (is : List Nat) (l : List Oper) (e : Nat × Nat) : Bool := is.contains e.2 || (List.range l.length).any fun y => waitsFor .any l.toArray e.1 y && waitsFor .any l.toArray y e.2
def okEdgesS (is : List Nat) : List Oper → List (Nat × Nat) → Bool
  | _, [] => true
  | l, e :: es => okEdgeS is l e && okEdgesS is (addEdge l e) es

/-- What has come up is closed, and holds the list. -/
def ShutdS (is : List Nat) (l : List Oper) (listed : Array Bool) : Prop :=
  (∀ i ∈ is, listed.getD i false = true) ∧ ∀ (j : Nat) (o : Oper), l[j]? = some o → listed.getD j false = true → ∀ e ∈ o.after, binds .any e = true → listed.getD e.on false = true
theorem ShutdS.waits {is : List Nat} {l : List Oper} {listed : Array Bool} (h : ShutdS is l listed) {j y : Nat} (hj : listed.getD j false = true) (hw : waitsFor .any l.toArray j y = true) : listed.getD y false = true := by
  obtain ⟨o, ho, e, he, hb, rfl⟩ := waitsFor_spec hw
  exact h.2 j o (by simpa using ho) hj e he hb

theorem okEdgeS_listed {is : List Nat} {l : List Oper} {listed : Array Bool} {e : Nat × Nat} (h : ShutdS is l listed) (hk : okEdgeS is l e = true) (ha : ∀ y, waitsFor .any l.toArray e.1 y = true → listed.getD y false = true) : listed.getD e.2 false = true := by
  unfold okEdgeS at hk
  rw [Bool.or_eq_true, List.contains_iff_mem, List.any_eq_true] at hk
  rcases hk with hk | ⟨y, _, hy⟩
  · exact h.1 _ hk
  · rw [Bool.and_eq_true] at hy
    exact h.waits (ha y hy.1) hy.2

theorem shutdS_add {is : List Nat} {l : List Oper} {listed : Array Bool} {e : Nat × Nat} (h : ShutdS is l listed) (hk : okEdgeS is l e = true) : ShutdS is (addEdge l e) listed := by
  refine ⟨h.1, fun j o ho hj x hx hb => ?_⟩
  unfold addEdge at ho
  rw [List.getElem?_modify] at ho
  cases ho2 : l[j]? with
  | none => rw [ho2] at ho; cases ho
  | some o2 =>
    rw [ho2, Option.map_eq_map, Option.map_some] at ho
    by_cases hej : e.1 = j
    · rw [if_pos hej] at ho
      cases ho
      rcases Array.mem_push.1 hx with hx | rfl
      · exact h.2 j _ ho2 hj x hx hb
      · exact okEdgeS_listed h hk fun y hy => h.waits (by rw [hej]; exact hj) hy
    · rw [if_neg hej] at ho
      cases ho
      exact h.2 j _ ho2 hj x hx hb
theorem readyS_add {is : List Nat} {l : List Oper} {listed : Array Bool} {e : Nat × Nat} (h : ShutdS is l listed) (hk : okEdgeS is l e = true) (j : Nat) : j ∈ ready .any (addEdge l e).toArray listed ↔ j ∈ ready .any l.toArray listed := by
  rw [mem_ready, mem_ready]
  refine and_congr_right fun _ => ?_
  constructor
  · rintro ⟨o, ho, hall⟩
    simp only [addEdge, List.getElem?_toArray, List.getElem?_modify] at ho
    cases ho2 : l[j]? with
    | none => rw [ho2] at ho; cases ho
    | some o2 =>
      rw [ho2, Option.map_eq_map, Option.map_some] at ho
      refine ⟨o2, by simpa using ho2, fun x hx hb => hall x ?_ hb⟩
      by_cases hej : e.1 = j
      · rw [if_pos hej] at ho; cases ho; exact Array.mem_push.2 (.inl hx)
      · rw [if_neg hej] at ho; cases ho; exact hx
  · rintro ⟨o, ho, hall⟩
    have ho2 : l[j]? = some o := by simpa using ho
    by_cases hej : e.1 = j
    · refine ⟨{ o with after := o.after.push ⟨e.2, .data⟩ }, by simp only [addEdge, List.getElem?_toArray, List.getElem?_modify, ho2, if_pos hej]; rfl, fun x hx hb => ?_⟩
      rcases Array.mem_push.1 hx with hx | rfl
      · exact hall x hx hb
      · refine okEdgeS_listed h hk fun y hy => ?_
        obtain ⟨o3, ho3, x3, hx3, hb3, rfl⟩ := waitsFor_spec hy
        rw [hej, ho] at ho3
        cases ho3
        exact hall x3 hx3 hb3
    · exact ⟨o, by simp only [addEdge, List.getElem?_toArray, List.getElem?_modify, ho2, if_neg hej]; rfl, hall⟩
theorem readyS_adds {is : List Nat} {listed : Array Bool} (j : Nat) : ∀ (es : List (Nat × Nat)) (l : List Oper), ShutdS is l listed → okEdgesS is l es = true → (j ∈ ready .any (addEdges l es).toArray listed ↔ j ∈ ready .any l.toArray listed)
  | [], _, _, _ => Iff.rfl
  | e :: es, l, h, hk => by
    rw [okEdgesS, Bool.and_eq_true] at hk
    exact (readyS_adds j es (addEdge l e) (shutdS_add h hk.1) hk.2).trans (readyS_add h hk.1 j)


section
variable {P : Program} {Q : Exit → Act → World → Prop}

theorem wpAnyS_alike {is : List Nat} {l : List Oper} {es : List (Nat × Nat)} (hk : okEdgesS is l es = true) (hg : ∀ (j : Nat) (o : Oper), l[j]? = some o → o.guard = none) :
    ∀ (fuel : Nat) (listed : Array Bool) (a : Act) (w : World), ShutdS is l listed → listed.size = l.length → wpAny P .any (addEdges l es).toArray Q fuel listed a w → wpAny P .any l.toArray Q fuel listed a w
  | 0, listed, a, w, hs, _, h => by
    refine ⟨?_, h.2⟩
    have h1 := h.1
    rw [List.eq_nil_iff_forall_not_mem] at h1 ⊢
    exact fun j hj => h1 j ((readyS_adds j es l hs hk).2 hj)
  | fuel + 1, listed, a, w, hs, hz, h => by
    refine ⟨fun h1 => h.1 ?_, fun j hj => ?_⟩
    · rw [List.eq_nil_iff_forall_not_mem] at h1 ⊢
      exact fun j hj => h1 j ((readyS_adds j es l hs hk).1 hj)
    · have h2 := wpOp_alike (alike_adds es l) hg (h.2 j ((readyS_adds j es l hs hk).2 hj))
      obtain ⟨_, oj, hoj, hall⟩ := mem_ready.1 hj
      have hoj' : l[j]? = some oj := by simpa using hoj
      refine wpOp_mono (fun a' w' h3 => wpAnyS_alike hk hg fuel _ a' w' ⟨fun i hi => getD_set_true (hs.1 i hi), fun k ok hok hl e he hb => ?_⟩ (by simpa using hz) h3) h2
      by_cases hjk : j = k
      · subst hjk
        rw [hoj'] at hok
        cases hok
        exact getD_set_true (hall e he hb)
      · rw [getD_set_ne false hjk] at hl
        exact getD_set_true (hs.2 k ok hok hl e he hb)

/-- As 'wp_region_still_tail_move', for two operations that may come up late. -/
theorem wp_region_still_tail_moves {id : Nat} {a : Act} {w : World} {l : List Oper} (n i j : Nat) (es : List (Nat × Nat)) (oi oj : Oper) (x y : Operand) (hm : P.follows .mixedOrders = true)
    (hi : l[i]? = some oi) (hj : l[j]? = some oj) (hij : i ≠ j) (hop : oi.op = .move x) (hoq : oj.op = .move y) (hB : lexTailB .any (addEdges l es).toArray n = true) (hk : okEdgesS [i, j] l es = true) (hg : l.all (fun o => o.guard.isNone) = true)
    (hs : noSelect l.toArray = true) (hf : free .any l.toArray (Array.replicate l.length false) i = true) (hf2 : free .any l.toArray ((Array.replicate l.length false).setIfInBounds i true) j = true)
    (hr : (ready .any l.toArray (Array.replicate l.length false)).contains i = true) (hr2 : (ready .any l.toArray ((Array.replicate l.length false).setIfInBounds i true)).contains j = true)
    (hrs : (ready .any (addEdges l es).toArray (Array.replicate l.length false)).contains i = true) (hrs2 : (ready .any (addEdges l es).toArray ((Array.replicate l.length false).setIfInBounds i true)).contains j = true)
    (hno : oi.after.all (fun e => !binds .any e) = true) (hno2 : oj.after.all (fun e => !binds .any e) = true)
    (hQ : ∀ c a v w, Q (.panic c) (a.put oi.dst v) w → Q (.panic c) a w) (hQ2 : ∀ c a v w, Q (.panic c) (a.put oj.dst v) w → Q (.panic c) a w)
    (h : wpStill P l.toArray { w with drawn := w.drawn + 1 } (fun a' => wpList P l.toArray Q (l.drop n) a' { w with drawn := w.drawn + 1 }) (l.take n) a) : (Code.region id l.toArray true).wp P Q a w := by
  have hg' : ∀ (j : Nat) (o : Oper), l[j]? = some o → o.guard = none := fun j o ho => by
    have := List.all_eq_true.1 hg o (List.mem_of_getElem? ho)
    simpa using this
  have hA := alike_adds es l
  rw [wpStill_alike (ops' := (addEdges l es).toArray) (hA.take n) (fun j o ho => hg' j o (by rw [List.getElem?_take] at ho; split at ho; exact ho; cases ho))] at h
  rw [wpList_alike (ops' := (addEdges l es).toArray) (hA.drop n) (fun j o ho => hg' (n + j) o (by rwa [List.getElem?_drop] at ho))] at h
  have H := wpAny_still_tail n hB h
  refine wp_region_any hm ?_
  have hlt : i < l.length := (List.getElem?_eq_some_iff.1 hi).1
  have hltj : j < l.length := (List.getElem?_eq_some_iff.1 hj).1
  obtain ⟨m, hmm⟩ : ∃ m, l.length = m + 1 + 1 := ⟨l.length - 2, by omega⟩
  rw [hA.1] at H
  have hsz : l.toArray.size = l.length := by simp
  rw [hsz]
  have hw : ∀ b : Act, wanted oi (yielded l.toArray b.tmps) = true := fun b => by simp [Region.wanted, hg' i oi hi]
  have hw2 : ∀ b : Act, wanted oj (yielded l.toArray b.tmps) = true := fun b => by simp [Region.wanted, hg' j oj hj]
  have hrun : ∀ (b : Act) w, (execOp b.eval oi).run P w = .ok (.value (b.eval x)) w := fun b w => BigFrame.run_move x hop w
  have hrun2 : ∀ (b : Act) w, (execOp b.eval oj).run P w = .ok (.value (b.eval y)) w := fun b w => BigFrame.run_move y hoq w
  have key : wpAny P .any (addEdges l es).toArray Q m (((Array.replicate l.length false).setIfInBounds i true).setIfInBounds j true) ((a.put oi.dst (a.eval x)).put oj.dst ((a.put oi.dst (a.eval x)).eval y)) { w with drawn := w.drawn + 1 } := by
    generalize hl0 : l.length = len at *
    subst hmm
    have h1 := wpOp_alike hA hg' (H.2 i (by simpa using hrs))
    unfold wpOp at h1
    simp only [List.getElem?_toArray, hi, hw, if_true] at h1
    have h2 : wpAny P .any (addEdges l es).toArray Q (m + 1) ((Array.replicate (m + 1 + 1) false).setIfInBounds i true) (a.put oi.dst (a.eval x)) { w with drawn := w.drawn + 1 } := by
      rcases h1 with h1 | ⟨h1, _⟩
      · unfold Oper.wp at h1
        rw [hrun] at h1
        exact h1
      · unfold Oper.asks at h1
        have h2 := h1.1
        unfold execOp at h2
        rw [hop] at h2
        exact absurd h2 (by change ¬ noRoomEvent ∈ (#[] : Array Event); simp)
    have h3 := wpOp_alike hA hg' (h2.2 j (by simpa using hrs2))
    unfold wpOp at h3
    simp only [List.getElem?_toArray, hj, hw2, if_true] at h3
    rcases h3 with h3 | ⟨h3, _⟩
    · unfold Oper.wp at h3
      rw [hrun2] at h3
      exact h3
    · unfold Oper.asks at h3
      have h4 := h3.1
      unfold execOp at h4
      rw [hoq] at h4
      exact absurd h4 (by change ¬ noRoomEvent ∈ (#[] : Array Event); simp)
  have hsh : ShutdS [i, j] l (((Array.replicate l.length false).setIfInBounds i true).setIfInBounds j true) := by
    have s1 : ((Array.replicate l.length false).setIfInBounds i true).getD i false = true := by simp [hlt]
    refine ⟨fun k hk => ?_, fun k o ho hk e he hb => ?_⟩
    · rcases List.mem_cons.1 hk with rfl | hk
      · exact getD_set_true s1
      · rw [List.mem_singleton] at hk; subst hk; simp [hltj]
    · by_cases hjk : j = k
      · subst hjk
        rw [hj] at ho
        cases ho
        have := Array.all_eq_true'.1 hno2 e he
        rw [hb] at this; cases this
      · rw [getD_set_ne false hjk] at hk
        by_cases hik : i = k
        · subst hik
          rw [hi] at ho
          cases ho
          have := Array.all_eq_true'.1 hno e he
          rw [hb] at this; cases this
        · rw [getD_set_ne false hik, getD_replicate_false] at hk; cases hk
  have key2 := wpAnyS_alike hk hg' m _ _ _ hsh (by simp) key
  rw [hmm] at key2 ⊢
  rw [hmm] at hf hr hf2 hr2
  have key3 := wpAny_take (i := j) (oi := oj) (v := (a.put oi.dst (a.eval x)).eval y) (by simpa using hj) hs hf2 hr2 (fun c a w => hQ2 c a _ w) (.inl ⟨hw2 _, hrun2 _⟩) key2
  exact wpAny_take (i := i) (by simpa using hi) hs hf hr (fun c a w => hQ c a _ w) (.inl ⟨hw _, hrun _⟩) key3
end
end Go.Kin
