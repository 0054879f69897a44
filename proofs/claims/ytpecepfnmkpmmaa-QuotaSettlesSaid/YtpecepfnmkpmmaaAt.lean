/- Slices that begin anywhere in a block of the call's own; one element appended to such a slice. -/
import Derived.Test.YtpecepfnmkpmmaaStep
import Derived.Deep.RegionLaw
import Derived.Deep.RegionLawGrows
namespace Go.Kin
open Go.RowKit
section
variable {α : Type} {f : α → Value} {B : Nat} {E : TypeId}
/-- The slice at a lies in a block of the call's own, from whichever cell on, with its room behind it. -/
def At (f : α → Value) (B : Nat) (E : TypeId) (w : World) (a : Option Addr) (n c : Nat) (l : List α) : Prop :=
  l.length = n ∧ c ≤ maxLen ∧ n ≤ c ∧ ((a = none ∧ c = 0) ∨ ∃ g o cur, a = some ⟨g, o, none⟩ ∧ B ≤ g ∧ w.heap[g]? = some (.cells cur E (0, 0)) ∧ o + c ≤ cur.size ∧ ∀ i x, l[i]? = some x → cur[o + i]? = some (f x))
theorem At.nil (f : α → Value) (B : Nat) (E : TypeId) (w : World) : At f B E w none 0 0 [] := ⟨rfl, by simp, Nat.le_refl _, .inl ⟨rfl, rfl⟩⟩
theorem At.len {w : World} {a : Option Addr} {n c : Nat} {l : List α} (h : At f B E w a n c l) : l.length = n := h.1
theorem At.rd {w : World} {a : Option Addr} {n c : Nat} {l : List α} (h : At f B E w a n c l) : Rd f w a n c l := by
  obtain ⟨hl, hm, hnc, ⟨rfl, rfl⟩ | ⟨g, o, cur, rfl, hB, hg, hs, hc⟩⟩ := h
  · obtain rfl : n = 0 := by omega
    obtain rfl : l = [] := List.eq_nil_of_length_eq_zero hl
    exact Rd.nil f w
  · refine ⟨hl, hnc, hm, by simp, fun i x hx => ⟨g, o, rfl, ?_⟩⟩
    rw [cell_of_row w g _ cur _ _ hg, hc i x hx]
theorem At.below {w w' : World} {a : Option Addr} {n c : Nat} {l : List α} (h : At f B E w a n c l) {B' : Nat} (hb : Below B' w w') (hB : w.heap.size ≤ B') : At f B E w' a n c l := by
  obtain ⟨hl, hm, hnc, h | ⟨g, o, cur, rfl, hB1, hg, r⟩⟩ := h
  · exact ⟨hl, hm, hnc, .inl h⟩
  · refine ⟨hl, hm, hnc, .inr ⟨g, o, cur, rfl, hB1, ?_, r⟩⟩
    rw [hb.block g (Nat.lt_of_lt_of_le (Array.getElem?_eq_some_iff.1 hg).1 hB)]
    exact hg
theorem At.fw {w w' : World} {a : Option Addr} {n c : Nat} {l : List α} (h : At f B E w a n c l) (hb : Below w.heap.size w w') : At f B E w' a n c l := h.below hb (Nat.le_refl _)
theorem At.same {w w' : World} {a : Option Addr} {n c : Nat} {l : List α} (h : At f B E w a n c l) (hk : ∀ x, a = some x → w'.heap[x.block]? = w.heap[x.block]?) : At f B E w' a n c l := by
  obtain ⟨hl, hm, hnc, h | ⟨g, o, cur, rfl, hB1, hg, r⟩⟩ := h
  · exact ⟨hl, hm, hnc, .inl h⟩
  · exact ⟨hl, hm, hnc, .inr ⟨g, o, cur, rfl, hB1, (hk _ rfl).trans hg, r⟩⟩
theorem At.other {w : World} {a : Option Addr} {n c : Nat} {l : List α} {p : Addr} (h : At f B E w a n c l) (hp : ∀ x, a = some x → x.block ≠ p.block) (v : Value) : At f B E (w.setCell p v) a n c l :=
  h.same fun x hx => Below.heap_setCell _ _ _ _ (hp x hx)
theorem At.blt {w : World} {a : Option Addr} {n c : Nat} {l : List α} (h : At f B E w a n c l) {x : Addr} (hx : a = some x) : x.block < w.heap.size ∧ B ≤ x.block ∧ ∃ cur, w.heap[x.block]? = some (.cells cur E (0, 0)) := by
  obtain ⟨hl, hm, hnc, h | ⟨g, o, cur, rfl, hB1, hg, r⟩⟩ := h
  · rw [h.1] at hx; cases hx
  · cases hx; exact ⟨(Array.getElem?_eq_some_iff.1 hg).1, hB1, cur, hg⟩
theorem At.otherT {w : World} {a : Option Addr} {n c : Nat} {l : List α} {E' : TypeId} {cur : Array Value} {p : Addr} (h : At f B E w a n c l) (hp : w.heap[p.block]? = some (.cells cur E' (0, 0))) (hE : E ≠ E') (v : Value) : At f B E (w.setCell p v) a n c l :=
  h.other (fun x hx e => by
    obtain ⟨_, _, cur2, h2⟩ := h.blt hx
    rw [e, hp] at h2
    cases h2; exact hE rfl) v
theorem At.take {w : World} {a : Option Addr} {n c : Nat} {l : List α} (h : At f B E w a n c l) {k : Nat} (hk : k ≤ n) : At f B E w a k c (l.take k) := by
  obtain ⟨hl, hm, hnc, h⟩ := h
  refine ⟨by rw [List.length_take, hl]; omega, hm, by omega, ?_⟩
  rcases h with h | ⟨g, o, cur, rfl, hB1, hg, hs, hc⟩
  · exact .inl h
  · refine .inr ⟨g, o, cur, rfl, hB1, hg, hs, fun i x hx => ?_⟩
    rw [List.getElem?_take] at hx
    split at hx
    · exact hc i x hx
    · cases hx
theorem Own.at {w : World} {a : Option Addr} {n c : Nat} {l : List α} (h : Own f B E w a n c l) : At f B E w a n c l := by
  obtain ⟨hl, ⟨rfl, rfl, rfl⟩ | ⟨g, cur, rfl, hB, hg, hnc, hm, hs, ht⟩⟩ := h
  · obtain rfl : l = [] := List.eq_nil_of_length_eq_zero hl
    exact At.nil f B E w
  · refine ⟨hl, hm, hnc, .inr ⟨g, 0, cur, rfl, hB, hg, by omega, fun i x hx => ?_⟩⟩
    have hi := (List.getElem?_eq_some_iff.1 hx).1
    have e : (cur.toList.take n)[i]? = (l.map f)[i]? := by rw [ht]
    rw [List.getElem?_take, if_pos (by omega), List.getElem?_map, hx, Array.getElem?_toList] at e
    rw [Nat.zero_add, e]; rfl
theorem Blk.at {w : World} {g : Nat} {l : List α} (h : Blk f E w g l) (hB : B ≤ g) (hm : l.length ≤ maxLen) : At f B E w (some ⟨g, 0, none⟩) l.length l.length l := (h.own hB hm).at
/-- The cell behind the slice's last element. -/
theorem At.room {w : World} {a : Option Addr} {n c : Nat} {l : List α} (h : At f B E w a n c l) (hn : n < c) : ∃ g o, a = some ⟨g, o, none⟩ ∧ (w.cell? ⟨g, o + n, none⟩).isSome = true ∧ w.frozen? ⟨g, o + n, none⟩ = false ∧ ∀ v, At f B E (w.setCell ⟨g, o + n, none⟩ (f v)) a (n + 1) c (l ++ [v]) := by
  obtain ⟨hl, hm, hnc, h | ⟨g, o, cur, rfl, hB1, hg, hs, hc⟩⟩ := h
  · omega
  · refine ⟨g, o, rfl, ?_, frozen_of_row w g _ _ _ hg, fun v => ?_⟩
    · rw [cell_of_row w g _ cur _ _ hg, Array.getElem?_eq_getElem (by omega)]; rfl
    · refine ⟨by rw [List.length_append, hl]; rfl, hm, by omega, .inr ⟨g, o, cur.setIfInBounds (o + n) (f v), rfl, hB1, heap_setCell_same w g (o + n) _ E _ hg, by simpa using hs, fun i x hx => ?_⟩⟩
      rw [Array.getElem?_setIfInBounds]
      by_cases e : i < n
      · rw [if_neg (by omega)]
        rw [List.getElem?_append_left (by omega)] at hx
        exact hc i x hx
      · have hi : i = n := by
          have := (List.getElem?_eq_some_iff.1 hx).1
          rw [List.length_append] at this
          simp at this; omega
        subst hi
        rw [List.getElem?_append_right (by omega), hl, Nat.sub_self] at hx
        cases hx
        rw [if_pos rfl, if_pos (by omega)]
/-- One element appended: in the same place with the same room, or in a new block. -/
theorem wp_push_at {P : Program} {w : World} {o : Oper} {a : Act} {K : Act → World → Prop} {Q : Exit → Act → World → Prop} (s x : Operand) (t : TypeId)
    (ho : o.op = .call { callee := .builtin .append, args := #[s, x], argTypes := #[t, t] }) (f : α → Value) (hf : ∀ x, (f x).oneCell' = true)
    (base : Nat) (e : TypeId) (i : TypeInfo) (z : Value) (bytes : Nat) (ht : P.underlying t = some (.slice e)) (hi : P.info? e = some i) (hz : i.zero = some z)
    (hsize : i.size = 1) (hby : i.bytes = bytes) (hzs : z.cells.size = 1)
    (sa : Option Addr) (n c : Nat) (L : List α) (hs : a.eval s = .slice sa n c) (hown : At f base e w sa n c L)
    (g0 : Nat) (v : α) (T : TypeId) (fr : Nat × Nat) (hx : a.eval x = .slice (some ⟨g0, 0, none⟩) 1 1) (hX : w.heap[g0]? = some (.cells #[f v] T fr))
    (hn : n ≤ 100000) (hby2 : bytes ≤ 100) (hbase : base ≤ w.heap.size)
    (h : ∀ sa' c' w', At f base e w' sa' (n + 1) c' (L ++ [v]) → ((sa' = sa ∧ c' = c ∧ w.grownBy w' (Value.slice sa n c).ownBlock ∧ w'.heap.size = w.heap.size) ∨ (w.grownBy w' none ∧ ∃ g, sa' = some ⟨g, 0, none⟩ ∧ w.heap.size ≤ g)) → K (a.put o.dst (.slice sa' (n + 1) c')) w') : Oper.wp P o a w K Q := by
  have hcell : ∀ j u, [f v][j]? = some u → w.cell? ((⟨g0, 0, none⟩ : Addr).add j) = some u := by
    intro j u hu
    have hj : j = 0 := by have := (List.getElem?_eq_some_iff.1 hu).1; simp at this; omega
    subst hj
    cases hu
    have e : (⟨g0, 0, none⟩ : Addr).add 0 = ⟨g0, 0, none⟩ := by simp [Addr.add]
    rw [e, cell_of_row w g0 0 _ _ _ hX]; rfl
  have h1c : ∀ u ∈ [f v], u.oneCell' = true := by intro u hu; simp at hu; subst hu; exact hf v
  by_cases hroom : n < c
  · obtain ⟨g, off, rfl, h1, h2, h3⟩ := hown.room hroom
    have hrun := run_append_room_cells (P := P) w t o.type e i ht hi g off n c ⟨g0, 0, none⟩ 1 1 [f v] (by simp [hsize]) hcell h1c (by omega) (fun j hj => by
      have : j = 0 := by simp at hj; omega
      subst this; rw [hsize, Nat.mul_one]; exact h1) (fun j hj => by
      have : j = 0 := by simp at hj; omega
      subst this; rw [hsize, Nat.mul_one]; exact h2)
    unfold Oper.wp
    simp [execOp, ho, resolve, invoke, builtin, hs, hx, hrun, Result.andThen]
    have := h (some ⟨g, off, none⟩) c (w.setCell ⟨g, off + n, none⟩ (f v)) (h3 v) (.inl ⟨rfl, rfl, ⟨rfl, rfl, rfl, by simp [World.setCell], fun k hk hne => Below.heap_setCell _ _ _ _ (by intro e; apply hne; rw [e]; rfl)⟩, by simp [World.setCell]⟩)
    rw [hsize, Nat.mul_one]
    exact this
  · have hnc := hown.2.2.1
    have hgrow : ∃ v' w', (Builtin.append_ #[t, t] o.type #[.slice sa n c, .slice (some ⟨g0, 0, none⟩) 1 1]).run P w = .ok v' w' ∧ w'.ownsRow w.heap.size e 1 v' (n + 1) (L.map f ++ [f v]) ∧ w.grownBy w' none := by
      cases sa with
      | none =>
        obtain ⟨v', w', r1, r2, r3, _⟩ := run_append_own (P := P) w w.heap.size t o.type e i z 1 bytes ht hi hz hsize hby hzs (by omega) (.slice none n c) n (L.map f) (by
          have h0 := hown.rd.none0 rfl
          have hl := hown.len
          obtain rfl : c = 0 := h0
          obtain rfl : n = 0 := by omega
          obtain rfl : L = [] := List.eq_nil_of_length_eq_zero hl
          exact World.ownsRow_nil w w.heap.size e 1) ⟨g0, 0, none⟩ 1 1 [f v] (by simp) hcell h1c (by unfold maxLen; omega) (by have : (n + 1) * bytes ≤ 100001 * 100 := Nat.mul_le_mul (by omega) hby2; omega) (Nat.le_refl _)
        exact ⟨v', w', r1, r2, by simpa [Value.ownBlock] using r3⟩
      | some b =>
        exact run_append_arg_grows (P := P) w t o.type e i z 1 bytes ht hi hz hsize hby hzs (by omega) b n c (L.map f) (by rw [List.length_map, hown.len, Nat.mul_one]) (fun j u hu => by
          rw [List.getElem?_map] at hu
          cases hj : L[j]? with
          | none => rw [hj] at hu; cases hu
          | some y =>
            rw [hj] at hu; cases hu
            obtain ⟨b', o', ha, hc⟩ := hown.rd.cell j y hj
            cases ha
            have e : (⟨b', o', none⟩ : Addr).add j = ⟨b', o' + j, none⟩ := by unfold Addr.add; split <;> simp_all
            rw [e]; exact hc) ⟨g0, 0, none⟩ 1 1 [f v] (by simp) hcell (by omega) (by unfold maxLen; omega) (by have : (n + 1) * bytes ≤ 100001 * 100 := Nat.mul_le_mul (by omega) hby2; omega)
    obtain ⟨v', w', hrun, h1, h2⟩ := hgrow
    have e1 : L.map f ++ [f v] = (L ++ [v]).map f := by simp
    rw [e1] at h1
    obtain ⟨sa', c', rfl, ho'⟩ := Own.of_ownsRow h1
    unfold Oper.wp
    simp [execOp, ho, resolve, invoke, builtin, hs, hx, hrun, Result.andThen]
    refine h sa' c' w' ?_ (.inr ⟨h2, ?_⟩)
    · have := ho'.at
      obtain ⟨k1, k2, k3, k4 | ⟨g, o, cur, k4, k5, k6⟩⟩ := this
      · exact ⟨k1, k2, k3, .inl k4⟩
      · exact ⟨k1, k2, k3, .inr ⟨g, o, cur, k4, Nat.le_trans hbase k5, k6⟩⟩
    · obtain ⟨hl, hh | ⟨g, cur, hh, hB, _⟩⟩ := ho'
      · have := hh.2.1; omega
      · exact ⟨g, hh, hB⟩
/-- The same in the walk. -/
theorem wpList_push_at {P : Program} {w : World} {ops : Array Oper} {rest : List Oper} {o : Oper} {a : Act} {Q : Exit → Act → World → Prop} (hgd : o.guard = none) (s x : Operand) (t : TypeId)
    (ho : o.op = .call { callee := .builtin .append, args := #[s, x], argTypes := #[t, t] }) (f : α → Value) (hf : ∀ x, (f x).oneCell' = true)
    (base : Nat) (e : TypeId) (i : TypeInfo) (z : Value) (bytes : Nat) (ht : P.underlying t = some (.slice e)) (hi : P.info? e = some i) (hz : i.zero = some z)
    (hsize : i.size = 1) (hby : i.bytes = bytes) (hzs : z.cells.size = 1)
    (sa : Option Addr) (n c : Nat) (L : List α) (hs : a.eval s = .slice sa n c) (hown : At f base e w sa n c L)
    (g0 : Nat) (v : α) (T : TypeId) (fr : Nat × Nat) (hx : a.eval x = .slice (some ⟨g0, 0, none⟩) 1 1) (hX : w.heap[g0]? = some (.cells #[f v] T fr))
    (hn : n ≤ 100000) (hby2 : bytes ≤ 100) (hbase : base ≤ w.heap.size)
    (h : ∀ sa' c' w', At f base e w' sa' (n + 1) c' (L ++ [v]) → ((sa' = sa ∧ c' = c ∧ w.grownBy w' (Value.slice sa n c).ownBlock ∧ w'.heap.size = w.heap.size) ∨ (w.grownBy w' none ∧ ∃ g, sa' = some ⟨g, 0, none⟩ ∧ w.heap.size ≤ g)) → wpList P ops Q rest (a.put o.dst (.slice sa' (n + 1) c')) w') : wpList P ops Q (o :: rest) a w :=
  wpList_plain hgd fun _ hK => wp_push_at s x t ho f hf base e i z bytes ht hi hz hsize hby hzs sa n c L hs hown g0 v T fr hx hX hn hby2 hbase fun sa' c' w' h1 h2 => hK _ _ (h sa' c' w' h1 h2)
/-- The same at a step of a region that draws its order. -/
theorem step_push_at {P : Program} (w : World) {ops : Array Oper} {o : Oper} {a : Act} {K : Act → World → Prop} {Q : Exit → Act → World → Prop} {E' : Prop} (hgd : o.guard = none) (s x : Operand) (t : TypeId)
    (ho : o.op = .call { callee := .builtin .append, args := #[s, x], argTypes := #[t, t] }) (f : α → Value) (hf : ∀ x, (f x).oneCell' = true)
    (base : Nat) (e : TypeId) (i : TypeInfo) (z : Value) (bytes : Nat) (ht : P.underlying t = some (.slice e)) (hi : P.info? e = some i) (hz : i.zero = some z)
    (hsize : i.size = 1) (hby : i.bytes = bytes) (hzs : z.cells.size = 1)
    (sa : Option Addr) (n c : Nat) (L : List α) (hs : a.eval s = .slice sa n c) (hown : At f base e w sa n c L)
    (g0 : Nat) (v : α) (T : TypeId) (fr : Nat × Nat) (hx : a.eval x = .slice (some ⟨g0, 0, none⟩) 1 1) (hX : w.heap[g0]? = some (.cells #[f v] T fr))
    (hn : n ≤ 100000) (hby2 : bytes ≤ 100) (hbase : base ≤ w.heap.size)
    (h : ∀ sa' c' w', At f base e w' sa' (n + 1) c' (L ++ [v]) → ((sa' = sa ∧ c' = c ∧ w.grownBy w' (Value.slice sa n c).ownBlock ∧ w'.heap.size = w.heap.size) ∨ (w.grownBy w' none ∧ ∃ g, sa' = some ⟨g, 0, none⟩ ∧ w.heap.size ≤ g)) → K (a.put o.dst (.slice sa' (n + 1) c')) w') :
    if Region.wanted o (yielded ops a.tmps) = true then Oper.wp P o a w K Q else E' := by
  have hw : Region.wanted o (yielded ops a.tmps) = true := by simp [Region.wanted, hgd]
  rw [if_pos hw]
  exact wp_push_at s x t ho f hf base e i z bytes ht hi hz hsize hby hzs sa n c L hs hown g0 v T fr hx hX hn hby2 hbase h
end
end Go.Kin
