/- The flow network: what it is, plain; how it lies in memory. -/
import Derived.Test.YtpecepfnmkpmmaaQk
namespace Quo
structure Net where
  arcs : List (Nat × Int)
  out : List (List Nat)
def pushAt (o : List (List Nat)) (i k : Nat) : List (List Nat) := o.set i (o.getD i [] ++ [k])
def Net.add (g : Net) (f t : Nat) (r : Int) : Net := ⟨g.arcs ++ [(t, r), (f, 0)], pushAt (pushAt g.out f g.arcs.length) t (g.arcs.length + 1)⟩
def Net.tip (g : Net) (k : Nat) : Nat := (g.arcs.getD k (0, 0)).1
def Net.room (g : Net) (k : Nat) : Int := (g.arcs.getD k (0, 0)).2
def Net.setRoom (g : Net) (k : Nat) (r : Int) : Net := ⟨g.arcs.set k (g.tip k, r), g.out⟩
theorem pushAt_length (o : List (List Nat)) (i k : Nat) : (pushAt o i k).length = o.length := by unfold pushAt; rw [List.length_set]
end Quo

namespace Go.Kin
open Go.RowKit
section
variable {α : Type}
/-- A slice of the call's own whose elements take s cells each. -/
def OwnA (f : α → List Value) (s : Nat) (B : Nat) (E : TypeId) (w : World) (a : Option Addr) (n c : Nat) (l : List α) : Prop :=
  l.length = n ∧ ((a = none ∧ n = 0 ∧ c = 0) ∨ ∃ g cur, a = some ⟨g, 0, none⟩ ∧ B ≤ g ∧ w.heap[g]? = some (.cells cur E (0, 0)) ∧ n ≤ c ∧ c ≤ maxLen ∧ cur.size = c * s ∧ cur.toList.take (n * s) = l.flatMap f)
theorem OwnA.nil (f : α → List Value) (s B : Nat) (E : TypeId) (w : World) : OwnA f s B E w none 0 0 [] := ⟨rfl, .inl ⟨rfl, rfl, rfl⟩⟩
theorem OwnA.same {f : α → List Value} {s B : Nat} {E : TypeId} {w w' : World} {a : Option Addr} {n c : Nat} {l : List α} (h : OwnA f s B E w a n c l) (hk : ∀ x, a = some x → w'.heap[x.block]? = w.heap[x.block]?) : OwnA f s B E w' a n c l := by
  obtain ⟨hl, h | ⟨g, cur, rfl, hB, hg, r⟩⟩ := h
  · exact ⟨hl, .inl h⟩
  · exact ⟨hl, .inr ⟨g, cur, rfl, hB, (hk _ rfl).trans hg, r⟩⟩
theorem Own.same {f : α → Value} {B : Nat} {E : TypeId} {w w' : World} {a : Option Addr} {n c : Nat} {l : List α} (h : Own f B E w a n c l) (hk : ∀ x, a = some x → w'.heap[x.block]? = w.heap[x.block]?) : Own f B E w' a n c l := by
  obtain ⟨hl, h | ⟨g, cur, rfl, hB, hg, r⟩⟩ := h
  · exact ⟨hl, .inl h⟩
  · exact ⟨hl, .inr ⟨g, cur, rfl, hB, (hk _ rfl).trans hg, r⟩⟩
theorem OwnA.blt {f : α → List Value} {s B : Nat} {E : TypeId} {w : World} {a : Option Addr} {n c : Nat} {l : List α} (h : OwnA f s B E w a n c l) {x : Addr} (hx : a = some x) : x.block < w.heap.size ∧ B ≤ x.block ∧ ∃ cur, w.heap[x.block]? = some (.cells cur E (0, 0)) := by
  obtain ⟨hl, h | ⟨g, cur, rfl, hB, hg, r⟩⟩ := h
  · rw [h.1] at hx; cases hx
  · cases hx; exact ⟨(Array.getElem?_eq_some_iff.1 hg).1, hB, cur, hg⟩
theorem Own.typ {f : α → Value} {B : Nat} {E : TypeId} {w : World} {a : Option Addr} {n c : Nat} {l : List α} (h : Own f B E w a n c l) {x : Addr} (hx : a = some x) : ∃ cur, w.heap[x.block]? = some (.cells cur E (0, 0)) := by
  obtain ⟨hl, h | ⟨g, cur, rfl, hB, hg, r⟩⟩ := h
  · rw [h.1] at hx; cases hx
  · cases hx; exact ⟨cur, hg⟩
theorem OwnA.ownsRow {f : α → List Value} {s B : Nat} {E : TypeId} {w : World} {a : Option Addr} {n c : Nat} {l : List α} (h : OwnA f s B E w a n c l) (hs : ∀ x, (f x).length = s) : w.ownsRow B E s (.slice a n c) n (l.flatMap f) := by
  have hlen : ∀ l : List α, (l.flatMap f).length = l.length * s := by
    intro l
    induction l with
    | nil => simp
    | cons x l ih => rw [List.flatMap_cons, List.length_append, hs, ih, List.length_cons, Nat.succ_mul, Nat.add_comm]
  obtain ⟨hl, ⟨rfl, rfl, rfl⟩ | ⟨g, cur, rfl, hB, hg, hnc, hm, hc, ht⟩⟩ := h
  · obtain rfl : l = [] := List.eq_nil_of_length_eq_zero hl
    exact ⟨by simp, .inl ⟨rfl, rfl⟩⟩
  · exact ⟨by rw [hlen, hl], .inr ⟨g, c, cur, rfl, hB, hg, hnc, hm, hc, ht⟩⟩
theorem OwnA.of_ownsRow {f : α → List Value} {s B : Nat} {E : TypeId} {w : World} {g n c : Nat} {l : List α} (h : w.ownsRow B E s (.slice (some ⟨g, 0, none⟩) n c) n (l.flatMap f)) (hl : l.length = n) : OwnA f s B E w (some ⟨g, 0, none⟩) n c l := by
  obtain ⟨_, ⟨h1, _⟩ | ⟨g', cap, cur, h1, hB, hg, hnc, hm, hc, ht⟩⟩ := h
  · cases h1
  · cases h1
    exact ⟨hl, .inr ⟨g, cur, rfl, hB, hg, hnc, hm, hc, ht⟩⟩
end
/-- Blocks of another type than the one that is appended to stay. -/
theorem keepT {β : Type} {f' : β → Value} {B' : Nat} {E E' : TypeId} {w w' : World} {a' : Option Addr} {q n' c' : Nat} {l' : List β} {cur : Array Value} (h : w.heap[q]? = some (.cells cur E (0, 0))) (h' : Own f' B' E' w a' n' c' l') (hE : E ≠ E') (hg : w.grownBy w' (Value.slice a' n' c').ownBlock) : w'.heap[q]? = w.heap[q]? := by
  refine hg.block q (Array.getElem?_eq_some_iff.1 h).1 fun e => ?_
  cases a' with
  | none => simp [Value.ownBlock] at e
  | some x =>
    obtain ⟨cur', h2⟩ := h'.typ rfl
    have : q = x.block := by simpa [Value.ownBlock] using e
    rw [← this, h] at h2
    cases h2
    exact hE rfl
/-- What a call on a network leaves alone. -/
structure Fr (B : Nat) (X : List Nat) (w w' : World) : Prop where
  os : w'.os = w.os
  tape : w'.tape = w.tape
  output : w'.output = w.output
  size : w.heap.size ≤ w'.heap.size
  block : ∀ k, k < w.heap.size → k < B ∨ k ∈ X → w'.heap[k]? = w.heap[k]?
theorem Fr.refl (B : Nat) (X : List Nat) (w : World) : Fr B X w w := ⟨rfl, rfl, rfl, Nat.le_refl _, fun _ _ _ => rfl⟩
theorem Fr.trans {B : Nat} {X : List Nat} {a b c : World} (h : Fr B X a b) (k : Fr B X b c) : Fr B X a c :=
  ⟨k.os.trans h.os, k.tape.trans h.tape, k.output.trans h.output, Nat.le_trans h.size k.size, fun q hq hx => (k.block q (Nat.lt_of_lt_of_le hq h.size) hx).trans (h.block q hq hx)⟩
theorem Fr.of_below {B : Nat} {X : List Nat} {a b : World} (h : Below a.heap.size a b) : Fr B X a b := ⟨h.os, h.tape, h.output, h.size, fun q hq _ => h.block q hq⟩
theorem Fr.below {B : Nat} {X : List Nat} {a b : World} (h : Fr B X a b) (hB : B ≤ a.heap.size) : Below B a b := ⟨h.os, h.tape, h.output, h.size, fun q hq => h.block q (by omega) (.inl hq)⟩
theorem Fr.setCell {B : Nat} {X : List Nat} {a b : World} (h : Fr B X a b) {p : Addr} (hB : B ≤ p.block) (hX : p.block ∉ X) (v : Value) : Fr B X a (b.setCell p v) :=
  ⟨h.os, h.tape, h.output, by simp [World.setCell]; exact h.size, fun q hq hx => (Below.heap_setCell _ _ _ _ (by rintro rfl; rcases hx with hx | hx; omega; exact hX hx)).trans (h.block q hq hx)⟩
theorem Fr.grown {B : Nat} {X : List Nat} {a b c : World} (h : Fr B X a b) {o : Option Nat} (hg : b.grownBy c o) (ho : ∀ k, o = some k → B ≤ k ∧ k ∉ X) : Fr B X a c :=
  ⟨hg.os.trans h.os, hg.tape.trans h.tape, hg.output.trans h.output, Nat.le_trans h.size hg.size, fun q hq hx => (hg.block q (Nat.lt_of_lt_of_le hq h.size) (fun e => by
    have := ho q e.symm
    rcases hx with hx | hx
    · omega
    · exact this.2 hx)).trans (h.block q hq hx)⟩
theorem Fr.mono {B B' : Nat} {X X' : List Nat} {a b : World} (h : Fr B X a b) (hB : B' ≤ B) (hX : ∀ x ∈ X', x ∈ X) : Fr B' X' a b :=
  ⟨h.os, h.tape, h.output, h.size, fun q hq hx => h.block q hq (by rcases hx with hx | hx; left; omega; exact .inr (hX q hx))⟩
end Go.Kin

namespace Go.Proofs.Ytpecepfnmkpmmaa
open Go.RowKit Go.Kin Quo
set_option maxRecDepth 100000
set_option linter.unusedVariables false
/-- An arc's two cells. -/
def va (x : Nat × Int) : List Value := [.int .i64 (x.1 : Int), .int .i64 x.2]
theorem va_len (x : Nat × Int) : (va x).length = 2 := rfl
theorem arcs_cells (l : List (Nat × Int)) (i : Nat) (x : Nat × Int) (h : l[i]? = some x) : (l.flatMap va)[i * 2]? = some (.int .i64 (x.1 : Int)) ∧ (l.flatMap va)[i * 2 + 1]? = some (.int .i64 x.2) := by
  induction l generalizing i with
  | nil => simp at h
  | cons y l ih =>
    cases i with
    | zero => cases h; exact ⟨rfl, rfl⟩
    | succ i =>
      have := ih i h
      rw [List.flatMap_cons]
      have e1 : (i + 1) * 2 = i * 2 + 2 := by omega
      rw [e1]
      exact this
theorem arcs_set (l : List (Nat × Int)) (i : Nat) (t : Nat) (r : Int) (x : Nat × Int) (h : l[i]? = some x) (ht : x.1 = t) : (l.flatMap va).set (i * 2 + 1) (.int .i64 r) = (l.set i (t, r)).flatMap va := by
  induction l generalizing i with
  | nil => simp at h
  | cons y l ih =>
    cases i with
    | zero => cases h; subst ht; rfl
    | succ i =>
      have := ih i h
      rw [List.flatMap_cons, List.set_cons_succ, List.flatMap_cons]
      have e1 : (i + 1) * 2 + 1 = i * 2 + 1 + 1 + 1 := by omega
      rw [e1]
      show va y ++ ((l.flatMap va).set (i * 2 + 1) _) = _
      rw [this]
theorem OwnA.arc {B : Nat} {E : TypeId} {w : World} {a : Option Addr} {n c : Nat} {l : List (Nat × Int)} (h : OwnA va 2 B E w a n c l) {i : Nat} {x : Nat × Int} (hx : l[i]? = some x) :
    ∃ g, a = some ⟨g, 0, none⟩ ∧ B ≤ g ∧ w.cell? ⟨g, i * 2, none⟩ = some (.int .i64 (x.1 : Int)) ∧ w.cell? ⟨g, i * 2 + 1, none⟩ = some (.int .i64 x.2) ∧ w.frozen? ⟨g, i * 2 + 1, none⟩ = false ∧ (∃ cur, w.heap[g]? = some (.cells cur E (0, 0))) ∧ ∀ r, OwnA va 2 B E (w.setCell ⟨g, i * 2 + 1, none⟩ (.int .i64 r)) a n c (l.set i (x.1, r)) := by
  obtain ⟨hl, ⟨rfl, rfl, rfl⟩ | ⟨g, cur, rfl, hB, hg, hnc, hm, hc, ht⟩⟩ := h
  · obtain rfl : l = [] := List.eq_nil_of_length_eq_zero hl
    simp at hx
  · have hi : i < n := by rw [← hl]; exact (List.getElem?_eq_some_iff.1 hx).1
    obtain ⟨k1, k2⟩ := arcs_cells l i x hx
    have e1 : cur[i * 2]? = some (.int .i64 (x.1 : Int)) := by
      rw [← Array.getElem?_toList, ← k1, ← ht, List.getElem?_take, if_pos (by omega)]
    have e2 : cur[i * 2 + 1]? = some (.int .i64 x.2) := by
      rw [← Array.getElem?_toList, ← k2, ← ht, List.getElem?_take, if_pos (by omega)]
    refine ⟨g, rfl, hB, by rw [cell_of_row w g _ cur _ _ hg]; exact e1, by rw [cell_of_row w g _ cur _ _ hg]; exact e2, frozen_of_row w g _ _ _ hg, ⟨cur, hg⟩, fun r => ?_⟩
    refine ⟨by rw [List.length_set]; exact hl, .inr ⟨g, cur.setIfInBounds (i * 2 + 1) (.int .i64 r), rfl, hB, heap_setCell_same w g _ _ _ _ hg, hnc, hm, by simpa using hc, ?_⟩⟩
    rw [Array.toList_setIfInBounds, ← arcs_set l i x.1 r x hx rfl, ← ht, List.take_set]

def rowsI (o : List (List Nat)) : Tab := o.map fun r => r.map Int.ofNat
/-- The network g, as it lies in memory: in blocks from B on, none of them one of X. -/
def NetM (w : World) (B : Nat) (X : List Nat) (bg : Nat) (g : Net) : Prop :=
  ∃ aa ac oo oc L, w.heap[bg]? = some (.cells #[.slice aa g.arcs.length ac, .slice (some ⟨oo, 0, none⟩) g.out.length oc] 76 (0, 0)) ∧
    OwnA va 2 B 73 w aa g.arcs.length ac g.arcs ∧ Own vh B 26 w (some ⟨oo, 0, none⟩) g.out.length oc L ∧ Scat L ∧
    (∀ (i : Nat) (h : Option Addr × Nat × Nat) (m : List Nat), L[i]? = some h → g.out[i]? = some m → Own vi B 3 w h.1 h.2.1 h.2.2 (m.map Int.ofNat)) ∧
    B ≤ bg ∧ bg ∉ X ∧ oo ∉ X ∧ (∀ x, aa = some x → x.block ∉ X) ∧ ∀ (i : Nat) (h : Option Addr × Nat × Nat) x, L[i]? = some h → h.1 = some x → x.block ∉ X
theorem nt1 : (76 : TypeId) ≠ 3 := by decide
theorem nt2 : (76 : TypeId) ≠ 26 := by decide
theorem nt3 : (76 : TypeId) ≠ 73 := by decide
theorem nt4 : (73 : TypeId) ≠ 3 := by decide
theorem nt5 : (73 : TypeId) ≠ 26 := by decide
theorem NetM.lt {w : World} {B : Nat} {X : List Nat} {bg : Nat} {g : Net} (h : NetM w B X bg g) : bg < w.heap.size := by
  obtain ⟨aa, ac, oo, oc, L, h1, _⟩ := h
  exact (Array.getElem?_eq_some_iff.1 h1).1
theorem NetM.fw {w w' : World} {B : Nat} {X : List Nat} {bg : Nat} {g : Net} (h : NetM w B X bg g) (hb : Below w.heap.size w w') : NetM w' B X bg g := by
  have hl := h.lt
  obtain ⟨aa, ac, oo, oc, L, h1, h2, h3, h4, h5, h6⟩ := h
  exact ⟨aa, ac, oo, oc, L, (hb.block _ hl).trans h1, h2.same fun x hx => hb.block _ (h2.blt hx).1, h3.fw hb, h4, fun i x m hi hm => (h5 i x m hi hm).fw hb, h6⟩
/-- A block that is not the network's own may be named. -/
theorem NetM.exclude {w : World} {B : Nat} {X : List Nat} {bg : Nat} {g : Net} (h : NetM w B X bg g) {x : Nat} (hx : w.heap.size ≤ x) : NetM w B (x :: X) bg g := by
  have hl := h.lt
  obtain ⟨aa, ac, oo, oc, L, h1, h2, h3, h4, h5, h6, h7, h8, h9, h10⟩ := h
  have ho : oo < w.heap.size := h3.blt (x := ⟨oo, 0, none⟩) rfl
  refine ⟨aa, ac, oo, oc, L, h1, h2, h3, h4, h5, h6, ?_, ?_, ?_, ?_⟩
  · rw [List.mem_cons]; rintro (e | e); omega; exact h7 e
  · rw [List.mem_cons]; rintro (e | e); omega; exact h8 e
  · intro y hy
    have := (h2.blt hy).1
    rw [List.mem_cons]; rintro (e | e); omega; exact h9 y hy e
  · intro i hd y hi hy
    have hil : i < g.out.length := by have := (List.getElem?_eq_some_iff.1 hi).1; rw [h3.len] at this; exact this
    have := (h5 i hd _ hi (List.getElem?_eq_getElem hil)).blt hy
    rw [List.mem_cons]; rintro (e | e); omega; exact h10 i hd y hi hy e
theorem NetM.fr {w w' : World} {B : Nat} {X Y : List Nat} {bg : Nat} {g : Net} (h : NetM w B X bg g) (hf : ∀ k, k < w.heap.size → k ∉ X → B ≤ k → w'.heap[k]? = w.heap[k]?) : NetM w' B X bg g := by
  have hl := h.lt
  obtain ⟨aa, ac, oo, oc, L, h1, h2, h3, h4, h5, h6, h7, h8, h9, h10⟩ := h
  refine ⟨aa, ac, oo, oc, L, (hf _ hl h7 h6).trans h1, h2.same fun x hx => hf _ (h2.blt hx).1 (h9 x hx) (h2.blt hx).2.1, h3.same fun x hx => ?_, h4, fun i x m hi hm => (h5 i x m hi hm).same fun y hy => hf _ ((h5 i x m hi hm).blt hy) (h10 i x y hi hy) ((h5 i x m hi hm).bge hy), h6, h7, h8, h9, h10⟩
  cases hx
  exact hf _ (h3.blt (x := ⟨oo, 0, none⟩) rfl) h8 (h3.bge (x := ⟨oo, 0, none⟩) rfl)
end Go.Proofs.Ytpecepfnmkpmmaa
