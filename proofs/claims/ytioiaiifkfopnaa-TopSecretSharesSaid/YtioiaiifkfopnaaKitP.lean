/- A block that begins with a list; append of a slice that can be read onto a slice of the call's own. -/
import Derived.Test.YtioiaiifkfopnaaKitC
import Derived.Laws.AppendOwnNone
import Derived.Deep.AppendLies
namespace Go.Kin
open Go.RowKit
section
variable {α : Type}

/-- Block g, of c cells, begins with the list l. -/
def Pre (f : α → Value) (E : TypeId) (w : World) (g c : Nat) (l : List α) : Prop :=
  ∃ cur, w.heap[g]? = some (.cells cur E (0, 0)) ∧ cur.size = c ∧ l.length ≤ c ∧ cur.toList.take l.length = l.map f

theorem Blk.pre {f : α → Value} {E : TypeId} {w : World} {g : Nat} {l : List α} (h : Blk f E w g l) : Pre f E w g l.length l :=
  ⟨_, h, row_size f l, Nat.le_refl _, by rw [row_toList, List.take_of_length_le (by simp)]⟩
theorem Pre.blk {f : α → Value} {E : TypeId} {w : World} {g c : Nat} {l : List α} (h : Pre f E w g c l) (hc : l.length = c) : Blk f E w g l := by
  obtain ⟨cur, hg, hs, hle, ht⟩ := h
  have e : cur = row f l := by
    rw [List.take_of_length_le (by simp; omega)] at ht
    apply Array.toList_inj.1
    rw [ht, row_toList]
  rw [e] at hg
  exact hg
theorem Pre.le {f : α → Value} {E : TypeId} {w : World} {g c : Nat} {l : List α} (h : Pre f E w g c l) : l.length ≤ c := by obtain ⟨_, _, _, h, _⟩ := h; exact h
theorem Pre.lt {f : α → Value} {E : TypeId} {w : World} {g c : Nat} {l : List α} (h : Pre f E w g c l) : g < w.heap.size := by
  obtain ⟨_, hg, _⟩ := h
  exact (Array.getElem?_eq_some_iff.1 hg).1
theorem Pre.cell {f : α → Value} {E : TypeId} {w : World} {g c : Nat} {l : List α} (h : Pre f E w g c l) {i : Nat} {x : α} (hx : l[i]? = some x) : w.cell? ⟨g, i, none⟩ = some (f x) := by
  obtain ⟨cur, hg, hs, hle, ht⟩ := h
  have hi := (List.getElem?_eq_some_iff.1 hx).1
  have e : (cur.toList.take l.length)[i]? = (l.map f)[i]? := by rw [ht]
  rw [List.getElem?_take, if_pos hi, List.getElem?_map, hx, Array.getElem?_toList] at e
  rw [cell_of_row w g i cur _ _ hg, e]; rfl
theorem Pre.frozen {f : α → Value} {E : TypeId} {w : World} {g c : Nat} {l : List α} (h : Pre f E w g c l) (i : Nat) : w.frozen? ⟨g, i, none⟩ = false := by
  obtain ⟨cur, hg, _⟩ := h
  exact frozen_of_row w g i _ _ hg
theorem Pre.set {f : α → Value} {E : TypeId} {w : World} {g c : Nat} {l : List α} (h : Pre f E w g c l) (i : Nat) (x : α) : Pre f E (w.setCell ⟨g, i, none⟩ (f x)) g c (l.set i x) := by
  obtain ⟨cur, hg, hs, hle, ht⟩ := h
  refine ⟨cur.setIfInBounds i (f x), heap_setCell_same w g i _ E _ hg, by simpa using hs, by simpa using hle, ?_⟩
  rw [List.length_set, Array.toList_setIfInBounds, List.map_set, ← ht, List.take_set]
theorem Pre.below {f : α → Value} {E : TypeId} {w w' : World} {g c : Nat} {l : List α} (h : Pre f E w g c l) {B : Nat} (hb : Below B w w') (hB : g < B) : Pre f E w' g c l := by
  obtain ⟨cur, hg, r⟩ := h
  exact ⟨cur, (hb.block g hB).trans hg, r⟩
theorem Pre.fw {f : α → Value} {E : TypeId} {w w' : World} {g c : Nat} {l : List α} (h : Pre f E w g c l) (hb : Below w.heap.size w w') : Pre f E w' g c l := h.below hb h.lt
theorem Pre.other {f : α → Value} {E : TypeId} {w : World} {g c : Nat} {l : List α} (h : Pre f E w g c l) (a : Addr) (v : Value) (hne : g ≠ a.block) : Pre f E (w.setCell a v) g c l := by
  obtain ⟨cur, hg, r⟩ := h
  exact ⟨cur, by rw [Below.heap_setCell _ _ _ _ hne]; exact hg, r⟩
theorem Pre.grown {f : α → Value} {E : TypeId} {w w' : World} {g b c : Nat} {l : List α} (h : Pre f E w g c l) (hg : w.grownBy w' (some b)) (hne : g ≠ b) : Pre f E w' g c l := by
  have hlt := h.lt
  obtain ⟨cur, hc, r⟩ := h
  exact ⟨cur, (hg.block g hlt (by intro e; cases e; exact hne rfl)).trans hc, r⟩
theorem Pre.drew {f : α → Value} {E : TypeId} {w : World} {g c : Nat} {l : List α} (h : Pre f E w g c l) (n : Nat) : Pre f E (w.drewN n) g c l := h
theorem Pre.rd {f : α → Value} {E : TypeId} {w : World} {g c : Nat} {l : List α} (h : Pre f E w g c l) {n : Nat} (hn : l.length = n) (hm : c ≤ maxLen) : Rd f w (some ⟨g, 0, none⟩) n c l :=
  ⟨hn, by rw [← hn]; exact h.le, hm, by simp, fun i x hx => ⟨g, 0, rfl, by rw [Nat.zero_add]; exact h.cell hx⟩⟩
theorem Pre.own {f : α → Value} {E : TypeId} {w : World} {g c : Nat} {l : List α} (h : Pre f E w g c l) {n B : Nat} (hn : l.length = n) (hm : c ≤ maxLen) (hB : B ≤ g) : Own f B E w (some ⟨g, 0, none⟩) n c l := by
  obtain ⟨cur, hg, hs, hle, ht⟩ := h
  exact ⟨hn, .inr ⟨g, cur, rfl, hB, hg, by omega, hm, hs, by rw [← hn]; exact ht⟩⟩
theorem Own.pre {f : α → Value} {B : Nat} {E : TypeId} {w : World} {a : Option Addr} {n c : Nat} {l : List α} (h : Own f B E w a n c l) (hn : 0 < n) : ∃ g, a = some ⟨g, 0, none⟩ ∧ B ≤ g ∧ c ≤ maxLen ∧ Pre f E w g c l := by
  obtain ⟨hl, h | ⟨g, cur, rfl, hB, hg, hnc, hm, hs, ht⟩⟩ := h
  · omega
  · exact ⟨g, rfl, hB, hm, cur, hg, hs, by omega, by rw [hl]; exact ht⟩

theorem blk_new (f : α → Value) (E : TypeId) (w : World) (l : List α) : Blk f E (w.alloc (.cells (row f l) E (0, 0))) w.heap.size l := heap_alloc_new w _

theorem Rd.take {f : α → Value} {w : World} {a : Option Addr} {n c : Nat} {l : List α} (h : Rd f w a n c l) {k : Nat} (hk : k ≤ n) : Rd f w a k c (l.take k) := by
  refine ⟨by rw [List.length_take, h.len]; omega, Nat.le_trans hk h.cap, h.max, h.none0, fun i x hx => ?_⟩
  rw [List.getElem?_take] at hx
  split at hx
  · exact h.cell i x hx
  · cases hx

/-- append(s, x...), s the call's own, x any slice that can be read. -/
theorem wpList_append_rd {P : Program} {w : World} {ops : Array Oper} {rest : List Oper} {o : Oper} {a : Act} {Q : Exit → Act → World → Prop} (hgd : o.guard = none) (s x : Operand) (t : TypeId)
    (ho : o.op = .call { callee := .builtin .append, args := #[s, x], argTypes := #[t, t] }) (f : α → Value) (hf : ∀ x, (f x).oneCell' = true)
    (base : Nat) (e : TypeId) (i : TypeInfo) (z : Value) (bytes : Nat) (ht : P.underlying t = some (.slice e)) (hi : P.info? e = some i) (hz : i.zero = some z)
    (hsize : i.size = 1) (hby : i.bytes = bytes) (hzs : z.cells.size = 1)
    (sa : Option Addr) (n c : Nat) (L : List α) (hs : a.eval s = .slice sa n c) (hown : Own f base e w sa n c L)
    (xa : Option Addr) (m d : Nat) (X : List α) (hx : a.eval x = .slice xa m d) (hX : Rd f w xa m d X)
    (h63 : n + m ≤ maxLen) (hbytes : (n + m) * bytes ≤ 140737488355328) (hbase : base ≤ w.heap.size)
    (h : ∀ sa' c' w', Own f base e w' sa' (n + m) c' (L ++ X) → w.grownBy w' (Value.slice sa n c).ownBlock → wpList P ops Q rest (a.put o.dst (.slice sa' (n + m) c')) w') : wpList P ops Q (o :: rest) a w := by
  cases xa with
  | none =>
    obtain ⟨rfl, rfl⟩ : m = 0 ∧ d = 0 := by
      have h1 := hX.none0 rfl
      have h2 := hX.cap
      exact ⟨by omega, h1⟩
    obtain rfl : X = [] := List.eq_nil_of_length_eq_zero hX.len
    refine wpList_append_own_none hgd s x t ho base e i 1 ht hi (.slice sa n c) n (L.map f) hs hown.ownsRow hx ?_
    have := h sa c w (by rw [List.append_nil]; exact hown) ⟨rfl, rfl, rfl, Nat.le_refl _, fun _ _ _ => rfl⟩
    exact this
  | some ad =>
    refine wpList_append_own w hgd s x t ho base e i z 1 bytes ht hi hz hsize hby hzs (by omega) (.slice sa n c) n (L.map f) hs hown.ownsRow ad m d (X.map f) hx (by rw [List.length_map, hX.len, Nat.mul_one]) ?_ ?_ h63 hbytes hbase ?_
    · intro j u hu
      rw [List.getElem?_map] at hu
      cases hj : X[j]? with
      | none => rw [hj] at hu; cases hu
      | some y =>
        rw [hj] at hu
        cases hu
        obtain ⟨b, o, ha, hc⟩ := hX.cell j y hj
        cases ha
        have e : (⟨b, o, none⟩ : Addr).add j = ⟨b, o + j, none⟩ := by unfold Addr.add; split <;> simp_all
        rw [e]; exact hc
    · intro u hu
      obtain ⟨y, _, rfl⟩ := List.mem_map.1 hu
      exact hf y
    · intro v' w' h1 h2 _
      rw [← List.map_append] at h1
      obtain ⟨sa', c', rfl, ho'⟩ := Own.of_ownsRow h1
      exact h sa' c' w' ho' h2
end
end Go.Kin
