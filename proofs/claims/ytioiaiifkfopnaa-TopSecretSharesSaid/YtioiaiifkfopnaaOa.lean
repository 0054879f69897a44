/- Slices of structs: the call's own, and such as can be read. -/
import Derived.Test.YtioiaiifkfopnaaKitP
import Derived.Test.YtioiaiifkfopnaaStep
import Derived.Handy
namespace Go.Kin
open Go.RowKit
section
variable {α : Type}
/-- A slice of the call's own whose elements take s cells each. -/
def OwnA (f : α → List Value) (s : Nat) (B : Nat) (E : TypeId) (w : World) (a : Option Addr) (n c : Nat) (l : List α) : Prop :=
  l.length = n ∧ ((a = none ∧ n = 0 ∧ c = 0) ∨ ∃ g cur, a = some ⟨g, 0, none⟩ ∧ B ≤ g ∧ w.heap[g]? = some (.cells cur E (0, 0)) ∧ n ≤ c ∧ c ≤ maxLen ∧ cur.size = c * s ∧ cur.toList.take (n * s) = l.flatMap f)
theorem OwnA.nil (f : α → List Value) (s B : Nat) (E : TypeId) (w : World) : OwnA f s B E w none 0 0 [] := ⟨rfl, .inl ⟨rfl, rfl, rfl⟩⟩
theorem OwnA.same {f : α → List Value} {s B : Nat} {E : TypeId} {w w' : World} {a : Option Addr} {n c : Nat} {l : List α} (h : OwnA f s B E w a n c l) (hk : ∀ x, a = some x → w'.heap[x.block]? = w.heap[x.block]?) : OwnA f s B E w' a n c l := by
  obtain ⟨hl, h | ⟨g, cur, rfl, hB, hg, r⟩⟩ := h
  · exact ⟨hl, .inl h⟩
  · exact ⟨hl, .inr ⟨g, cur, rfl, hB, (hk _ rfl).trans hg, r⟩⟩
theorem Own.same {f : α → Value} {B : Nat} {E : TypeId} {w w' : World} {a : Option Addr} {n c : Nat} {l : List α} (h : Own f B E w a n c l) (hk : ∀ x, a = some x → w'.heap[x.block]? = w.heap[x.block]?) : Own f B E w' a n c l := by
  obtain ⟨hl, h | ⟨g, cur, rfl, hB, hg, r⟩⟩ := h
  · exact ⟨hl, .inl h⟩
  · exact ⟨hl, .inr ⟨g, cur, rfl, hB, (hk _ rfl).trans hg, r⟩⟩
theorem OwnA.blt {f : α → List Value} {s B : Nat} {E : TypeId} {w : World} {a : Option Addr} {n c : Nat} {l : List α} (h : OwnA f s B E w a n c l) {x : Addr} (hx : a = some x) : x.block < w.heap.size ∧ B ≤ x.block ∧ ∃ cur, w.heap[x.block]? = some (.cells cur E (0, 0)) := by
  obtain ⟨hl, h | ⟨g, cur, rfl, hB, hg, r⟩⟩ := h
  · rw [h.1] at hx; cases hx
  · cases hx; exact ⟨(Array.getElem?_eq_some_iff.1 hg).1, hB, cur, hg⟩
theorem Own.typ {f : α → Value} {B : Nat} {E : TypeId} {w : World} {a : Option Addr} {n c : Nat} {l : List α} (h : Own f B E w a n c l) {x : Addr} (hx : a = some x) : ∃ cur, w.heap[x.block]? = some (.cells cur E (0, 0)) := by
  obtain ⟨hl, h | ⟨g, cur, rfl, hB, hg, r⟩⟩ := h
  · rw [h.1] at hx; cases hx
  · cases hx; exact ⟨cur, hg⟩
theorem OwnA.ownsRow {f : α → List Value} {s B : Nat} {E : TypeId} {w : World} {a : Option Addr} {n c : Nat} {l : List α} (h : OwnA f s B E w a n c l) (hs : ∀ x, (f x).length = s) : w.ownsRow B E s (.slice a n c) n (l.flatMap f) := by
  have hlen : ∀ l : List α, (l.flatMap f).length = l.length * s := by
    intro l
    induction l with
    | nil => simp
    | cons x l ih => rw [List.flatMap_cons, List.length_append, hs, ih, List.length_cons, Nat.succ_mul, Nat.add_comm]
  obtain ⟨hl, ⟨rfl, rfl, rfl⟩ | ⟨g, cur, rfl, hB, hg, hnc, hm, hc, ht⟩⟩ := h
  · obtain rfl : l = [] := List.eq_nil_of_length_eq_zero hl
    exact ⟨by simp, .inl ⟨rfl, rfl⟩⟩
  · exact ⟨by rw [hlen, hl], .inr ⟨g, c, cur, rfl, hB, hg, hnc, hm, hc, ht⟩⟩
theorem OwnA.of_ownsRow {f : α → List Value} {s B : Nat} {E : TypeId} {w : World} {g n c : Nat} {l : List α} (h : w.ownsRow B E s (.slice (some ⟨g, 0, none⟩) n c) n (l.flatMap f)) (hl : l.length = n) : OwnA f s B E w (some ⟨g, 0, none⟩) n c l := by
  obtain ⟨_, ⟨h1, _⟩ | ⟨g', cap, cur, h1, hB, hg, hnc, hm, hc, ht⟩⟩ := h
  · cases h1
  · cases h1
    exact ⟨hl, .inr ⟨g, cur, rfl, hB, hg, hnc, hm, hc, ht⟩⟩
end
set_option linter.unusedVariables false
/-- One struct, appended in the walk. -/
theorem wpList_pushA {α : Type} {P : Program} {w : World} {ops : Array Oper} {rest : List Oper} {o : Oper} {a : Act} {Q : Exit → Act → World → Prop} (hgd : o.guard = none) (s x : Operand) (t : TypeId)
    (ho : o.op = .call { callee := .builtin .append, args := #[s, x], argTypes := #[t, t] }) (f : α → List Value) (sz : Nat) (hlen : ∀ x, (f x).length = sz) (hf : ∀ x, ∀ u ∈ f x, u.oneCell' = true)
    (base : Nat) (e : TypeId) (i : TypeInfo) (z : Value) (bytes : Nat) (ht : P.underlying t = some (.slice e)) (hi : P.info? e = some i) (hz : i.zero = some z)
    (hsize : i.size = sz) (hby : i.bytes = bytes) (hzs : z.cells.size = sz) (hsz : 0 < sz)
    (sa : Option Addr) (n c : Nat) (L : List α) (hs : a.eval s = .slice sa n c) (hown : OwnA f sz base e w sa n c L)
    (g0 : Nat) (v : α) (cs : Array Value) (hcs : cs.toList = f v) (T : TypeId) (fr : Nat × Nat) (hx : a.eval x = .slice (some ⟨g0, 0, none⟩) 1 1) (hX : w.heap[g0]? = some (.cells cs T fr))
    (hn : n ≤ 100000) (hby2 : bytes ≤ 100) (hbase : base ≤ w.heap.size)
    (h : ∀ g c' w', OwnA f sz base e w' (some ⟨g, 0, none⟩) (n + 1) c' (L ++ [v]) → w.grownBy w' (Value.slice sa n c).ownBlock → ((Value.slice sa n c).ownBlock = some g ∨ g = w.heap.size) → wpList P ops Q rest (a.put o.dst (.slice (some ⟨g, 0, none⟩) (n + 1) c')) w') : wpList P ops Q (o :: rest) a w := by
  refine wpList_append_lies w hgd s x t ho base e i z sz bytes ht hi hz hsize hby hzs hsz (.slice sa n c) n (L.flatMap f) hs (hown.ownsRow hlen) ⟨g0, 0, none⟩ 1 1 (f v) hx (by rw [hlen, Nat.one_mul]) ?_ (hf v) (by omega) (by unfold maxLen; omega) (by have : (n + 1) * bytes ≤ 100001 * 100 := Nat.mul_le_mul (by omega) hby2; omega) hbase _ rfl ?_
  · intro k u hu
    have e : (⟨g0, 0, none⟩ : Addr).add k = ⟨g0, 0 + k, none⟩ := by unfold Addr.add; split <;> simp_all
    rw [Nat.zero_add] at e
    rw [e, cell_of_row w g0 k _ _ _ hX, ← hu, ← hcs]
    exact Array.getElem?_toList.symm
  · intro g cap w' h1 h2 h3 _
    refine h g cap w' (OwnA.of_ownsRow ?_ (by rw [List.length_append, hown.1]; rfl)) h2 h3
    rw [List.flatMap_append]
    simpa using h1
theorem OwnA.lt {α : Type} {f : α → List Value} {s B : Nat} {E : TypeId} {w : World} {a : Option Addr} {n c : Nat} {l : List α} (h : OwnA f s B E w a n c l) : ∀ k, (Value.slice a n c).ownBlock = some k → B ≤ k ∧ k < w.heap.size := by
  intro k hk
  cases a with
  | none => cases hk
  | some x =>
    cases hk
    have := h.blt rfl
    exact ⟨this.2.1, this.1⟩
theorem OwnA.fw {α : Type} {f : α → List Value} {s B : Nat} {E : TypeId} {w w' : World} {a : Option Addr} {n c : Nat} {l : List α} (h : OwnA f s B E w a n c l) (hb : Below w.heap.size w w') : OwnA f s B E w' a n c l :=
  h.same fun x hx => hb.block _ (h.blt hx).1
theorem OwnA.mono {α : Type} {f : α → List Value} {s B B' : Nat} {E : TypeId} {w : World} {a : Option Addr} {n c : Nat} {l : List α} (h : OwnA f s B E w a n c l) (hB : B' ≤ B) : OwnA f s B' E w a n c l := by
  obtain ⟨hl, h | ⟨g, cur, rfl, hB1, r⟩⟩ := h
  · exact ⟨hl, .inl h⟩
  · exact ⟨hl, .inr ⟨g, cur, rfl, Nat.le_trans hB hB1, r⟩⟩
theorem flat_cells {α : Type} {f : α → List Value} {s : Nat} (hs : ∀ x, (f x).length = s) : ∀ (l : List α) (i : Nat) (x : α), l[i]? = some x → ∀ k, k < s → (l.flatMap f)[i * s + k]? = (f x)[k]?
  | [], i, x, h, k, hk => by simp at h
  | y :: l, 0, x, h, k, hk => by
    cases h
    rw [List.flatMap_cons, Nat.zero_mul, Nat.zero_add, List.getElem?_append_left (by rw [hs]; exact hk)]
  | y :: l, i + 1, x, h, k, hk => by
    have := flat_cells hs l i x h k hk
    rw [List.flatMap_cons, List.getElem?_append_right (by rw [hs, Nat.succ_mul]; omega), hs, ← this]
    congr 1
    rw [Nat.succ_mul]; omega
theorem OwnA.cells {α : Type} {f : α → List Value} {s B : Nat} {E : TypeId} {w : World} {a : Option Addr} {n c : Nat} {l : List α} (h : OwnA f s B E w a n c l) (hs : ∀ x, (f x).length = s) {i : Nat} {x : α} (hx : l[i]? = some x) :
    ∃ g, a = some ⟨g, 0, none⟩ ∧ ∀ k v, (f x)[k]? = some v → w.cell? ⟨g, i * s + k, none⟩ = some v := by
  obtain ⟨hl, ⟨rfl, rfl, rfl⟩ | ⟨g, cur, rfl, hB, hg, hnc, hm, hc, ht⟩⟩ := h
  · obtain rfl : l = [] := List.eq_nil_of_length_eq_zero hl
    simp at hx
  · have hi : i < n := by rw [← hl]; exact (List.getElem?_eq_some_iff.1 hx).1
    refine ⟨g, rfl, fun k v hk => ?_⟩
    have hks : k < s := by rw [← hs x]; exact (List.getElem?_eq_some_iff.1 hk).1
    rw [cell_of_row w g _ cur _ _ hg, ← Array.getElem?_toList]
    have e := flat_cells hs l i x hx k hks
    rw [hk] at e
    have hlt : i * s + k < n * s := by
      have : (i + 1) * s ≤ n * s := Nat.mul_le_mul_right s hi
      rw [Nat.succ_mul] at this; omega
    rw [← e, ← ht, List.getElem?_take, if_pos hlt]
/-- A slice of structs that can be read: s cells each. -/
def RdA {α : Type} (f : α → List Value) (s : Nat) (w : World) (a : Option Addr) (n c : Nat) (l : List α) : Prop :=
  l.length = n ∧ n ≤ c ∧ c ≤ maxLen ∧ ∀ (i : Nat) (x : α), l[i]? = some x → ∃ b o, a = some ⟨b, o, none⟩ ∧ ∀ (k : Nat) (v : Value), (f x)[k]? = some v → w.cell? ⟨b, o + i * s + k, none⟩ = some v
theorem RdA.fw {α : Type} {f : α → List Value} {s : Nat} {w w' : World} {a : Option Addr} {n c : Nat} {l : List α} (h : RdA f s w a n c l) (hb : Below w.heap.size w w') : RdA f s w' a n c l :=
  ⟨h.1, h.2.1, h.2.2.1, fun i x hx => by
    obtain ⟨b, o, ha, hc⟩ := h.2.2.2 i x hx
    exact ⟨b, o, ha, fun k v hk => (cellBelow hb (lt_of_cell (hc k v hk))).trans (hc k v hk)⟩⟩
theorem RdA.lim {α : Type} {f : α → List Value} {s : Nat} {w : World} {a : Option Addr} {n c : Nat} {l : List α} (h : RdA f s w a n c l) : n ≤ 9223372036854775807 := by
  have := h.2.1; have := h.2.2.1; unfold maxLen at *; omega
theorem OwnA.rda {α : Type} {f : α → List Value} {s B : Nat} {E : TypeId} {w : World} {a : Option Addr} {n c : Nat} {l : List α} (h : OwnA f s B E w a n c l) (hs : ∀ x, (f x).length = s) : RdA f s w a n c l := by
  refine ⟨h.1, ?_, ?_, fun i x hx => ?_⟩
  · obtain ⟨_, ⟨_, h1, h2⟩ | ⟨_, _, _, _, _, h1, _⟩⟩ := h <;> omega
  · obtain ⟨_, ⟨_, h1, h2⟩ | ⟨_, _, _, _, _, _, h1, _⟩⟩ := h
    · rw [h2]; exact Nat.zero_le _
    · exact h1
  · obtain ⟨g, ha, hc⟩ := OwnA.cells h hs hx
    exact ⟨g, 0, ha, fun k v hk => by rw [Nat.zero_add]; exact hc k v hk⟩
end Go.Kin
