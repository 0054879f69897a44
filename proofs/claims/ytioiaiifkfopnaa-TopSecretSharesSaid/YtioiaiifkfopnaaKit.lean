/- Small laws on worlds for the walks of this claim: a whole row written, worlds below a block. -/
import Derived.WalkKit
import Derived.WalkSpells
import Derived.WalkLawsBesides
import Derived.Outline
import Derived.Lib.Hide
import Derived.Laws.Rows
import Derived.Laws.Tables
import Derived.RegionTactic
import Derived.Below
import Derived.BigQuiet
import Derived.Deep.QuietTactic
import Derived.StillTailTactics
namespace Go.Kin
open Go.RowKit

theorem ret_int {k : IntKind} {a b : Int} (h : a = b) : Ending.returned (.int k a) = .returned (.int k b) := by rw [h]
theorem ret_bool {a b : Bool} (h : a = b) : Ending.returned (.bool a) = .returned (.bool b) := by rw [h]
theorem ret_two {k l : IntKind} {a b c d : Int} (h : a = b) (g : c = d) : Ending.returned (.tuple #[.int k a, .int l c]) = .returned (.tuple #[.int k b, .int l d]) := by rw [h, g]

/-- A callee that leaves the world as it is, met inside a region that only reads. -/
theorem qsame {P : Program} {f : FuncId} {args : Array Value} {w : World} {n : Nat} {v : Value}
    (h : Calls P f args (w.drewN n) fun e w' => e = .returned v ∧ w.drewN n = w') : Calls P f args (w.drewN n) fun e w'' => e = .returned v ∧ ∃ m, w'' = w.drewN m :=
  h.mono fun _ _ ⟨he, hm⟩ => ⟨he, n, hm.symm⟩

/-- The world w' is w but for block g, which now holds the row cs. -/
structure Wrote (w : World) (g : Nat) (cs : Array Value) (t : TypeId) (w' : World) : Prop where
  os : w'.os = w.os
  tape : w'.tape = w.tape
  output : w'.output = w.output
  size : w'.heap.size = w.heap.size
  row : w'.heap[g]? = some (.cells cs t (0, 0))
  other : ∀ k, k ≠ g → w'.heap[k]? = w.heap[k]?

theorem Wrote.of_setRow (w : World) (g : Nat) (old cs : Array Value) (t : TypeId) (hg : w.heap[g]? = some (.cells old t (0, 0))) : Wrote w g cs t (w.setRow g cs) :=
  ⟨rfl, rfl, rfl, setRow_size w g cs, setRow_heap w g old cs t (0, 0) hg, fun k hk => setRow_other w g k cs hk⟩

theorem Wrote.below {w w' : World} {g : Nat} {cs : Array Value} {t : TypeId} (h : Wrote w g cs t w') {B : Nat} {w0 : World} (hb : Below B w0 w) (hB : B ≤ g) : Below B w0 w' :=
  hb.trans ⟨h.os, h.tape, h.output, by rw [h.size]; exact Nat.le_refl _, fun k hk => h.other k (by omega)⟩

theorem wpList_store_row_any {P : Program} {ops : Array Oper} {rest : List Oper} {o : Oper} {a : Act} {w : World} {Q : Exit → Act → World → Prop} (hgd : o.guard = none) (ty : TypeId) (x y : Operand) (ho : o.op = .store ty x y)
    (g : Nat) (cells : Array Value) (hx : a.eval x = .pointer (some ⟨g, 0, none⟩)) (hy : a.eval y = .agg cells)
    (t : TypeId) (old : Array Value) (hg : w.heap[g]? = some (.cells old t (0, 0))) (hi : (P.info? ty).map (·.size) = some cells.size)
    (hold : old.size = cells.size) (h1 : cells.all (·.oneCell') = true)
    (h : ∀ w', Wrote w g cells t w' → wpList P ops Q rest (a.put o.dst undef) w') : wpList P ops Q (o :: rest) a w :=
  wpList_store_row hgd ty x y ho g cells hx hy t old hg hi hold h1 (h _ (Wrote.of_setRow w g old cells t hg))

theorem bcell {W w1 : World} (hb : Below W.heap.size W w1) : (∀ b o, b < W.heap.size → w1.cell? ⟨b, o, none⟩ = W.cell? ⟨b, o, none⟩) ∧ (∀ b o, b < W.heap.size → w1.frozen? ⟨b, o, none⟩ = W.frozen? ⟨b, o, none⟩) :=
  ⟨fun b o h => hb.cell (p := ⟨b, o, none⟩) h, fun b o h => hb.frozen (p := ⟨b, o, none⟩) h⟩

theorem cellBelow {W w1 : World} {B : Nat} (hb : Below B W w1) {b o : Nat} (h : b < B) : w1.cell? ⟨b, o, none⟩ = W.cell? ⟨b, o, none⟩ := hb.cell (p := ⟨b, o, none⟩) h

theorem lt_of_cell {w : World} {b o : Nat} {v : Value} (h : w.cell? ⟨b, o, none⟩ = some v) : b < w.heap.size := block_lt_of_cell (a := ⟨b, o, none⟩) h

section
variable {α : Type}

/-- The slice at a, of length n and capacity c, whose elements take one cell each, reads as the list l. -/
structure Rd (f : α → Value) (w : World) (a : Option Addr) (n c : Nat) (l : List α) : Prop where
  len : l.length = n
  cap : n ≤ c
  max : c ≤ maxLen
  none0 : a = none → c = 0
  cell : ∀ i x, l[i]? = some x → ∃ b o, a = some ⟨b, o, none⟩ ∧ w.cell? ⟨b, o + i, none⟩ = some (f x)

theorem Rd.below {f : α → Value} {w w' : World} {a : Option Addr} {n c : Nat} {l : List α} (h : Rd f w a n c l) {B : Nat} (hb : Below B w w') (hB : w.heap.size ≤ B) : Rd f w' a n c l := by
  refine ⟨h.len, h.cap, h.max, h.none0, fun i x hx => ?_⟩
  obtain ⟨b, o, ha, hc⟩ := h.cell i x hx
  exact ⟨b, o, ha, (cellBelow hb (Nat.lt_of_lt_of_le (lt_of_cell hc) hB)).trans hc⟩

theorem Rd.nil (f : α → Value) (w : World) : Rd f w none 0 0 [] := ⟨rfl, by omega, by simp [maxLen], fun _ => rfl, by simp⟩

theorem Rd.at {f : α → Value} {w : World} {a : Option Addr} {n c : Nat} {l : List α} (h : Rd f w a n c l) {i : Nat} (hi : i < n) :
    ∃ b o, a = some ⟨b, o, none⟩ ∧ w.cell? ⟨b, o + i, none⟩ = some (f (l[i]'(by rw [h.len]; exact hi))) :=
  h.cell i _ (List.getElem?_eq_getElem (by rw [h.len]; exact hi))

/-- The slice at a is the call's own (nil, or at the head of a row of a block from B on), and holds the list l. -/
def Own (f : α → Value) (B : Nat) (E : TypeId) (w : World) (a : Option Addr) (n c : Nat) (l : List α) : Prop :=
  l.length = n ∧ ((a = none ∧ n = 0 ∧ c = 0) ∨ ∃ g cur, a = some ⟨g, 0, none⟩ ∧ B ≤ g ∧ w.heap[g]? = some (.cells cur E (0, 0)) ∧ n ≤ c ∧ c ≤ maxLen ∧ cur.size = c ∧ cur.toList.take n = l.map f)

theorem Own.rd {f : α → Value} {B : Nat} {E : TypeId} {w : World} {a : Option Addr} {n c : Nat} {l : List α} (h : Own f B E w a n c l) : Rd f w a n c l := by
  obtain ⟨hl, h | ⟨g, cur, rfl, hB, hg, hnc, hm, hs, ht⟩⟩ := h
  · obtain ⟨rfl, rfl, rfl⟩ := h
    obtain rfl : l = [] := List.eq_nil_of_length_eq_zero hl
    exact Rd.nil f w
  · refine ⟨hl, hnc, hm, by simp, fun i x hx => ⟨g, 0, rfl, ?_⟩⟩
    rw [cell_of_row w g _ cur _ _ hg, Nat.zero_add]
    have hi : i < n := by rw [← hl]; exact (List.getElem?_eq_some_iff.1 hx).1
    have := congrArg (fun z => z[i]?) ht
    simp only [List.getElem?_take, if_pos hi, List.getElem?_map, hx, Option.map_some] at this
    simpa using this

theorem Own.below {f : α → Value} {B : Nat} {E : TypeId} {w w' : World} {a : Option Addr} {n c : Nat} {l : List α} (h : Own f B E w a n c l) {B' : Nat} (hb : Below B' w w') (hB : w.heap.size ≤ B') : Own f B E w' a n c l := by
  obtain ⟨hl, h | ⟨g, cur, rfl, hB1, hg, r⟩⟩ := h
  · exact ⟨hl, .inl h⟩
  · refine ⟨hl, .inr ⟨g, cur, rfl, hB1, ?_, r⟩⟩
    rw [hb.block g (Nat.lt_of_lt_of_le (Array.getElem?_eq_some_iff.1 hg).1 hB)]
    exact hg

theorem Own.ownsRow {f : α → Value} {B : Nat} {E : TypeId} {w : World} {a : Option Addr} {n c : Nat} {l : List α} (h : Own f B E w a n c l) : w.ownsRow B E 1 (.slice a n c) n (l.map f) := by
  obtain ⟨hl, h | ⟨g, cur, rfl, hB, hg, hnc, hm, hs, ht⟩⟩ := h
  · obtain ⟨rfl, rfl, rfl⟩ := h
    exact ⟨by simp [hl], .inl ⟨rfl, rfl⟩⟩
  · exact ⟨by simp [hl], .inr ⟨g, c, cur, rfl, hB, hg, hnc, hm, by rw [hs, Nat.mul_one], by rw [Nat.mul_one]; exact ht⟩⟩

theorem Own.of_ownsRow {f : α → Value} {B : Nat} {E : TypeId} {w : World} {v : Value} {n : Nat} {l : List α} (h : w.ownsRow B E 1 v n (l.map f)) : ∃ a c, v = .slice a n c ∧ Own f B E w a n c l := by
  obtain ⟨hl, ⟨rfl, rfl⟩ | ⟨g, cap, cur, rfl, hB, hg, hnc, hm, hs, ht⟩⟩ := h
  · exact ⟨none, 0, rfl, by simpa using hl, .inl ⟨rfl, rfl, rfl⟩⟩
  · exact ⟨_, cap, rfl, by simpa using hl, .inr ⟨g, cur, rfl, hB, hg, hnc, hm, by rw [hs, Nat.mul_one], by rw [Nat.mul_one] at ht; exact ht⟩⟩

end

/-- A byte, a number as a value. -/
def vb (n : Nat) : Value := .int .u8 (n : Int)
def vi (n : Int) : Value := .int .i64 n

end Go.Kin
