/- A still head and a forced tail, where one operation that looks at no memory floats: edges that the order implies may be added. -/
import Derived.StillTailTactics
import Derived.BigRegion
namespace Go.Kin
open Region

/-- l with operation e.1 waiting for e.2 too. -/
def addEdge (l : List Oper) (e : Nat × Nat) : List Oper := l.modify e.1 fun o => { o with after := o.after.push ⟨e.2, .data⟩ }
/-- i lies ahead of all else; otherwise the edge must follow from two that stand. -/
def okEdge (i : Nat) (l : List Oper) (e : Nat × Nat) : Bool := e.2 == i || (List.range l.length).any fun y => waitsFor .any l.toArray e.1 y && waitsFor .any l.toArray y e.2
def okEdges (i : Nat) : List Oper → List (Nat × Nat) → Bool
  | _, [] => true
  | l, e :: es => okEdge i l e && okEdges i (addEdge l e) es
def addEdges : List Oper → List (Nat × Nat) → List Oper
  | l, [] => l
  | l, e :: es => addEdges (addEdge l e) es

/-- OpAlike but for what they wait for, and without a guard. -/
def OpAlike (l l' : List Oper) : Prop := l'.length = l.length ∧ ∀ (j : Nat) (o : Oper), l[j]? = some o → ∃ af, l'[j]? = some { o with after := af }
theorem OpAlike.refl (l : List Oper) : OpAlike l l := ⟨rfl, fun _ o h => ⟨o.after, h⟩⟩
theorem OpAlike.trans {a b c : List Oper} (h : OpAlike a b) (k : OpAlike b c) : OpAlike a c :=
  ⟨k.1.trans h.1, fun j o ho => by obtain ⟨x, hx⟩ := h.2 j o ho; obtain ⟨y, hy⟩ := k.2 j _ hx; exact ⟨y, hy⟩⟩
theorem alike_add (l : List Oper) (e : Nat × Nat) : OpAlike l (addEdge l e) := by
  refine ⟨List.length_modify .., fun j o ho => ?_⟩
  unfold addEdge
  rw [List.getElem?_modify, ho, Option.map_eq_map, Option.map_some]
  by_cases h : e.1 = j
  · exact ⟨o.after.push ⟨e.2, .data⟩, by rw [if_pos h]⟩
  · exact ⟨o.after, by rw [if_neg h]⟩
theorem alike_adds : ∀ (es : List (Nat × Nat)) (l : List Oper), OpAlike l (addEdges l es)
  | [], l => OpAlike.refl l
  | e :: es, l => (alike_add l e).trans (alike_adds es (addEdge l e))

/-- What has come up is closed, and holds i. -/
def Shutd (i : Nat) (l : List Oper) (listed : Array Bool) : Prop :=
  listed.getD i false = true ∧ ∀ (j : Nat) (o : Oper), l[j]? = some o → listed.getD j false = true → ∀ e ∈ o.after, binds .any e = true → listed.getD e.on false = true
theorem Shutd.waits {i : Nat} {l : List Oper} {listed : Array Bool} (h : Shutd i l listed) {j y : Nat} (hj : listed.getD j false = true) (hw : waitsFor .any l.toArray j y = true) : listed.getD y false = true := by
  obtain ⟨o, ho, e, he, hb, rfl⟩ := waitsFor_spec hw
  exact h.2 j o (by simpa using ho) hj e he hb

theorem okEdge_listed {i : Nat} {l : List Oper} {listed : Array Bool} {e : Nat × Nat} (h : Shutd i l listed) (hk : okEdge i l e = true) (ha : ∀ y, waitsFor .any l.toArray e.1 y = true → listed.getD y false = true) : listed.getD e.2 false = true := by
  unfold okEdge at hk
  rw [Bool.or_eq_true, beq_iff_eq, List.any_eq_true] at hk
  rcases hk with hk | ⟨y, _, hy⟩
  · rw [hk]; exact h.1
  · rw [Bool.and_eq_true] at hy
    exact h.waits (ha y hy.1) hy.2

theorem shutd_add {i : Nat} {l : List Oper} {listed : Array Bool} {e : Nat × Nat} (h : Shutd i l listed) (hk : okEdge i l e = true) : Shutd i (addEdge l e) listed := by
  refine ⟨h.1, fun j o ho hj x hx hb => ?_⟩
  unfold addEdge at ho
  rw [List.getElem?_modify] at ho
  cases ho2 : l[j]? with
  | none => rw [ho2] at ho; cases ho
  | some o2 =>
    rw [ho2, Option.map_eq_map, Option.map_some] at ho
    by_cases hej : e.1 = j
    · rw [if_pos hej] at ho
      cases ho
      rcases Array.mem_push.1 hx with hx | rfl
      · exact h.2 j _ ho2 hj x hx hb
      · exact okEdge_listed h hk fun y hy => h.waits (by rw [hej]; exact hj) hy
    · rw [if_neg hej] at ho
      cases ho
      exact h.2 j _ ho2 hj x hx hb
theorem ready_add {i : Nat} {l : List Oper} {listed : Array Bool} {e : Nat × Nat} (h : Shutd i l listed) (hk : okEdge i l e = true) (j : Nat) : j ∈ ready .any (addEdge l e).toArray listed ↔ j ∈ ready .any l.toArray listed := by
  rw [mem_ready, mem_ready]
  refine and_congr_right fun _ => ?_
  constructor
  · rintro ⟨o, ho, hall⟩
    simp only [addEdge, List.getElem?_toArray, List.getElem?_modify] at ho
    cases ho2 : l[j]? with
    | none => rw [ho2] at ho; cases ho
    | some o2 =>
      rw [ho2, Option.map_eq_map, Option.map_some] at ho
      refine ⟨o2, by simpa using ho2, fun x hx hb => hall x ?_ hb⟩
      by_cases hej : e.1 = j
      · rw [if_pos hej] at ho; cases ho; exact Array.mem_push.2 (.inl hx)
      · rw [if_neg hej] at ho; cases ho; exact hx
  · rintro ⟨o, ho, hall⟩
    have ho2 : l[j]? = some o := by simpa using ho
    by_cases hej : e.1 = j
    · refine ⟨{ o with after := o.after.push ⟨e.2, .data⟩ }, by simp only [addEdge, List.getElem?_toArray, List.getElem?_modify, ho2, if_pos hej]; rfl, fun x hx hb => ?_⟩
      rcases Array.mem_push.1 hx with hx | rfl
      · exact hall x hx hb
      · refine okEdge_listed h hk fun y hy => ?_
        obtain ⟨o3, ho3, x3, hx3, hb3, rfl⟩ := waitsFor_spec hy
        rw [hej, ho] at ho3
        cases ho3
        exact hall x3 hx3 hb3
    · exact ⟨o, by simp only [addEdge, List.getElem?_toArray, List.getElem?_modify, ho2, if_neg hej]; rfl, hall⟩
theorem ready_adds {i : Nat} {listed : Array Bool} (j : Nat) : ∀ (es : List (Nat × Nat)) (l : List Oper), Shutd i l listed → okEdges i l es = true → (j ∈ ready .any (addEdges l es).toArray listed ↔ j ∈ ready .any l.toArray listed)
  | [], _, _, _ => Iff.rfl
  | e :: es, l, h, hk => by
    rw [okEdges, Bool.and_eq_true] at hk
    exact (ready_adds j es (addEdge l e) (shutd_add h hk.1) hk.2).trans (ready_add h hk.1 j)

section
variable {P : Program} {Q : Exit → Act → World → Prop}

theorem wp_alike (o : Oper) (af : Array Edge) (a : Act) (w : World) (K : Act → World → Prop) : ({ o with after := af } : Oper).wp P a w K Q = o.wp P a w K Q := rfl
theorem still_alike (o : Oper) (af : Array Edge) (a : Act) (w : World) (K : Act → Prop) : ({ o with after := af } : Oper).still P a w K = o.still P a w K := rfl
theorem asks_alike (o : Oper) (af : Array Edge) (a : Act) (w : World) : ({ o with after := af } : Oper).asks P a w = o.asks P a w := rfl

theorem wpOp_alike {l l' : List Oper} (hA : OpAlike l l') (hg : ∀ (j : Nat) (o : Oper), l[j]? = some o → o.guard = none) {j : Nat} {K : Act → World → Prop} {a : Act} {w : World} (h : wpOp P l'.toArray Q j K a w) : wpOp P l.toArray Q j K a w := by
  unfold wpOp at h ⊢
  simp only [List.getElem?_toArray] at h ⊢
  cases ho : l[j]? with
  | none =>
    have : l'[j]? = none := by rw [List.getElem?_eq_none_iff] at ho ⊢; rw [hA.1]; exact ho
    rw [this] at h; exact h
  | some o =>
    obtain ⟨af, hx⟩ := hA.2 j o ho
    rw [hx] at h
    have hn := hg j o ho
    simp only [Region.wanted, hn, if_true] at h ⊢
    exact h
theorem wpAny_alike {i : Nat} {l : List Oper} {es : List (Nat × Nat)} (hk : okEdges i l es = true) (hg : ∀ (j : Nat) (o : Oper), l[j]? = some o → o.guard = none) :
    ∀ (fuel : Nat) (listed : Array Bool) (a : Act) (w : World), Shutd i l listed → listed.size = l.length → wpAny P .any (addEdges l es).toArray Q fuel listed a w → wpAny P .any l.toArray Q fuel listed a w
  | 0, listed, a, w, hs, _, h => by
    refine ⟨?_, h.2⟩
    have h1 := h.1
    rw [List.eq_nil_iff_forall_not_mem] at h1 ⊢
    exact fun j hj => h1 j ((ready_adds j es l hs hk).2 hj)
  | fuel + 1, listed, a, w, hs, hz, h => by
    refine ⟨fun h1 => h.1 ?_, fun j hj => ?_⟩
    · rw [List.eq_nil_iff_forall_not_mem] at h1 ⊢
      exact fun j hj => h1 j ((ready_adds j es l hs hk).1 hj)
    · have h2 := wpOp_alike (alike_adds es l) hg (h.2 j ((ready_adds j es l hs hk).2 hj))
      obtain ⟨_, oj, hoj, hall⟩ := mem_ready.1 hj
      have hoj' : l[j]? = some oj := by simpa using hoj
      refine wpOp_mono (fun a' w' h3 => wpAny_alike hk hg fuel _ a' w' ⟨getD_set_true hs.1, fun k ok hok hl e he hb => ?_⟩ (by simpa using hz) h3) h2
      by_cases hjk : j = k
      · subst hjk
        rw [hoj'] at hok
        cases hok
        exact getD_set_true (hall e he hb)
      · rw [getD_set_ne false hjk] at hl
        exact getD_set_true (hs.2 k ok hok hl e he hb)
theorem wpList_alike {ops ops' : Array Oper} : ∀ {l l' : List Oper}, OpAlike l l' → (∀ (j : Nat) (o : Oper), l[j]? = some o → o.guard = none) → wpList P ops Q l = wpList P ops' Q l'
  | [], l', hA, _ => by
    obtain rfl : l' = [] := List.eq_nil_of_length_eq_zero hA.1
    rfl
  | o :: l, [], hA, _ => by have := hA.1; cases this
  | o :: l, o' :: l', hA, hg => by
    obtain ⟨af, hx⟩ := hA.2 0 o rfl
    have hx' : o' = { o with after := af } := by simpa using hx
    have hn := hg 0 o rfl
    have ih := wpList_alike (ops := ops) (ops' := ops') (l := l) (l' := l') ⟨by have := hA.1; simpa using this, fun j oj hj => hA.2 (j + 1) oj hj⟩ (fun j oj hj => hg (j + 1) oj hj)
    funext a w
    simp only [wpList, Region.wanted, hn, hx', if_true, ih]
    rfl
theorem wpStill_alike {ops ops' : Array Oper} {w : World} {K : Act → Prop} : ∀ {l l' : List Oper}, OpAlike l l' → (∀ (j : Nat) (o : Oper), l[j]? = some o → o.guard = none) → wpStill P ops w K l = wpStill P ops' w K l'
  | [], l', hA, _ => by
    obtain rfl : l' = [] := List.eq_nil_of_length_eq_zero hA.1
    rfl
  | o :: l, [], hA, _ => by have := hA.1; cases this
  | o :: l, o' :: l', hA, hg => by
    obtain ⟨af, hx⟩ := hA.2 0 o rfl
    have hx' : o' = { o with after := af } := by simpa using hx
    have hn := hg 0 o rfl
    have ih := wpStill_alike (ops := ops) (ops' := ops') (w := w) (K := K) (l := l) (l' := l') ⟨by have := hA.1; simpa using this, fun j oj hj => hA.2 (j + 1) oj hj⟩ (fun j oj hj => hg (j + 1) oj hj)
    funext a
    simp only [wpStill, Region.wanted, hn, hx', if_true, ih]
    rfl
theorem OpAlike.take {l l' : List Oper} (h : OpAlike l l') (n : Nat) : OpAlike (l.take n) (l'.take n) := by
  refine ⟨by simp [h.1], fun j o ho => ?_⟩
  rw [List.getElem?_take] at ho ⊢
  by_cases hj : j < n
  · rw [if_pos hj] at ho ⊢; exact h.2 j o ho
  · rw [if_neg hj] at ho; cases ho
theorem OpAlike.drop {l l' : List Oper} (h : OpAlike l l') (n : Nat) : OpAlike (l.drop n) (l'.drop n) := by
  refine ⟨by simp [h.1], fun j o ho => ?_⟩
  rw [List.getElem?_drop] at ho ⊢
  exact h.2 _ o ho

theorem wpAny_still_tail {l : List Oper} {a : Act} {w : World} (n : Nat) (hB : lexTailB .any l.toArray n = true)
    (h : wpStill P l.toArray w (fun a' => wpList P l.toArray Q (l.drop n) a' w) (l.take n) a) : wpAny P .any l.toArray Q l.length (Array.replicate l.length false) a w := by
  simp only [lexTailB, Bool.and_eq_true, decide_eq_true_eq] at hB
  obtain ⟨⟨⟨⟨hsel, hn⟩, hs⟩, hc⟩, hlex⟩ := hB
  have hn' : n < l.length := by simpa using hn
  have htl : (l.take n).length = n := by rw [List.length_take]; omega
  have hdl : (l.drop n).length = l.toArray.size - n := by simp
  have H := wpAnyL_lex (md := .any) (g := l.toArray.size - n) hsel hs hc hn (l.take n) 0 _ a (fun j hj => by simp [show j < n by omega]) (by rw [Nat.zero_add]; exact htl)
    (⟨by simp, fun j oj _ hl => (by rw [getD_replicate_false] at hl; cases hl), fun t _ ht => getD_in (by simpa using ht) (getD_replicate_false _ _)⟩ : HeadInv .any l.toArray n (Array.replicate l.toArray.size false)) (by rw [htl]; exact hlex) h
  have G := wpAny_of_head (Q' := Q) (g := l.toArray.size - n) (fun listed a' hL => by
    have := wpAny_of_seq (md := .any) (Q' := Q) (l.drop n) n listed a' w (fun j => by simp [List.getElem?_drop]) (by rw [hdl]; exact hL.1) hL.2
    rwa [hdl] at this) _ _ _ H
  rw [htl, show n + (l.toArray.size - n) = l.length by simp; omega] at G
  simpa using G

/-- A region whose head looks only, and whose tail comes in one order, but for operation i, a 'move', which may come up late. -/
theorem wp_region_still_tail_move {id : Nat} {a : Act} {w : World} {l : List Oper} (n i : Nat) (es : List (Nat × Nat)) (oi : Oper) (x : Operand) (hm : P.follows .mixedOrders = true)
    (hi : l[i]? = some oi) (hop : oi.op = .move x) (hB : lexTailB .any (addEdges l es).toArray n = true) (hk : okEdges i l es = true) (hg : l.all (fun o => o.guard.isNone) = true)
    (hs : noSelect l.toArray = true) (hf : free .any l.toArray (Array.replicate l.length false) i = true) (hr : (ready .any l.toArray (Array.replicate l.length false)).contains i = true) (hrs : (ready .any (addEdges l es).toArray (Array.replicate l.length false)).contains i = true)
    (hno : oi.after.all (fun e => !binds .any e) = true)
    (hQ : ∀ c a v w, Q (.panic c) (a.put oi.dst v) w → Q (.panic c) a w)
    (h : wpStill P l.toArray { w with drawn := w.drawn + 1 } (fun a' => wpList P l.toArray Q (l.drop n) a' { w with drawn := w.drawn + 1 }) (l.take n) a) : (Code.region id l.toArray true).wp P Q a w := by
  have hg' : ∀ (j : Nat) (o : Oper), l[j]? = some o → o.guard = none := fun j o ho => by
    have := List.all_eq_true.1 hg o (List.mem_of_getElem? ho)
    simpa using this
  have hA := alike_adds es l
  rw [wpStill_alike (ops' := (addEdges l es).toArray) (hA.take n) (fun j o ho => hg' j o (by rw [List.getElem?_take] at ho; split at ho; exact ho; cases ho))] at h
  rw [wpList_alike (ops' := (addEdges l es).toArray) (hA.drop n) (fun j o ho => hg' (n + j) o (by rwa [List.getElem?_drop] at ho))] at h
  have H := wpAny_still_tail n hB h
  refine wp_region_any hm ?_
  have hlt : i < l.length := (List.getElem?_eq_some_iff.1 hi).1
  obtain ⟨m, hmm⟩ : ∃ m, l.length = m + 1 := ⟨l.length - 1, by omega⟩
  rw [hA.1] at H
  have hsz : l.toArray.size = l.length := by simp
  rw [hsz]
  have hw : wanted oi (yielded l.toArray a.tmps) = true := by simp [Region.wanted, hg' i oi hi]
  have hrun : ∀ w, (execOp a.eval oi).run P w = .ok (.value (a.eval x)) w := fun w => BigFrame.run_move x hop w
  have key : wpAny P .any (addEdges l es).toArray Q m ((Array.replicate l.length false).setIfInBounds i true) (a.put oi.dst (a.eval x)) { w with drawn := w.drawn + 1 } := by
    generalize hl0 : l.length = len at *
    subst hmm
    have h1 := wpOp_alike hA hg' (H.2 i (by simpa using hrs))
    unfold wpOp at h1
    simp only [List.getElem?_toArray, hi, hw, if_true] at h1
    rcases h1 with h1 | ⟨h1, _⟩
    · unfold Oper.wp at h1
      rw [hrun] at h1
      exact h1
    · unfold Oper.asks at h1
      have h2 := h1.1
      unfold execOp at h2
      rw [hop] at h2
      exact absurd h2 (by change ¬ noRoomEvent ∈ (#[] : Array Event); simp)
  have hsh : Shutd i l ((Array.replicate l.length false).setIfInBounds i true) := by
    refine ⟨by simp [hlt], fun j o ho hj e he hb => ?_⟩
    by_cases hij : i = j
    · subst hij
      rw [hi] at ho
      cases ho
      have := Array.all_eq_true'.1 hno e he
      rw [hb] at this; cases this
    · rw [getD_set_ne false hij, getD_replicate_false] at hj; cases hj
  have key2 := wpAny_alike hk hg' m _ _ _ hsh (by simp) key
  rw [hmm] at key2 ⊢
  rw [hmm] at hf hr
  exact wpAny_take (i := i) (by simpa using hi) hs hf hr (fun c a w => hQ c a _ w) (.inl ⟨hw, hrun⟩) key2
end
end Go.Kin
