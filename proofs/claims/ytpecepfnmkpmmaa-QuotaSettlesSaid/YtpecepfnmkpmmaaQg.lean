/- quota: firstCycle's closure. -/
import Derived.Test.YtpecepfnmkpmmaaQf
import Derived.Test.YtpecepfnmkpmmaaAt
namespace Quo
/-- The first cycle that begins with a path, k devices longer. -/
def ext (T : Tab) : Nat → List Nat → Option (List Nat)
  | 0, p => if at2 T (p.getLastD 0) (p.headD 0) = 0 then none else some p
  | k + 1, p => (List.range' (p.headD 0 + 1) (T.length - (p.headD 0 + 1))).findSome? fun d => if d ∈ p ∨ at2 T (p.getLastD 0) d = 0 then none else ext T k (p ++ [d])
/-- The devices after the first one that are on the path. -/
def usedL (p : List Nat) : List Bool := (List.range 12).map fun d => decide (d ∈ p.tail)
theorem usedL_get (p : List Nat) {d : Nat} (h : d < 12) : (usedL p)[d]? = some (decide (d ∈ p.tail)) := by simp [usedL, h]
theorem usedL_length (p : List Nat) : (usedL p).length = 12 := by simp [usedL]
theorem usedL_snoc {p : List Nat} (hp : p ≠ []) {d : Nat} (h : d < 12) : (usedL p).set d true = usedL (p ++ [d]) := by
  apply List.ext_getElem?
  intro i
  rw [List.getElem?_set, usedL_length]
  by_cases hi : i < 12
  · rw [usedL_get (p ++ [d]) hi]
    have ht : (p ++ [d]).tail = p.tail ++ [d] := by cases p with
      | nil => exact absurd rfl hp
      | cons x p => rfl
    rw [ht]
    by_cases e : d = i
    · subst e
      rw [if_pos rfl, if_pos h]; simp
    · rw [if_neg e, usedL_get _ hi]
      congr 2
      simp [Ne.symm e]
  · rw [List.getElem?_eq_none (l := usedL (p ++ [d])) (by rw [usedL_length]; omega)]
    split
    · omega
    · exact List.getElem?_eq_none (by rw [usedL_length]; omega)
theorem usedL_back {p : List Nat} (hp : p ≠ []) {d : Nat} (h : d < 12) (hd : d ∉ p.tail) : (usedL (p ++ [d])).set d false = usedL p := by
  apply List.ext_getElem?
  intro i
  rw [List.getElem?_set, usedL_length]
  by_cases hi : i < 12
  · have ht : (p ++ [d]).tail = p.tail ++ [d] := by cases p with
      | nil => exact absurd rfl hp
      | cons x p => rfl
    rw [usedL_get p hi]
    by_cases e : d = i
    · subst e
      rw [if_pos rfl, if_pos h]; simp [hd]
    · rw [if_neg e, usedL_get _ hi, ht]
      congr 2
      simp [Ne.symm e]
  · rw [List.getElem?_eq_none (l := usedL p) (by rw [usedL_length]; omega)]
    split
    · omega
    · exact List.getElem?_eq_none (by rw [usedL_length]; omega)
/-- What is on the path, behind its first device, is that first device's successor or later. -/
def Path (n : Nat) (p : List Nat) : Prop := p ≠ [] ∧ (∀ d ∈ p, d < n) ∧ ∀ d ∈ p.tail, p.headD 0 < d
theorem Path.mem {n : Nat} {p : List Nat} (h : Path n p) {d : Nat} (hd : p.headD 0 < d) : d ∈ p ↔ d ∈ p.tail := by
  obtain ⟨h1, h2, h3⟩ := h
  cases p with
  | nil => exact absurd rfl h1
  | cons x p =>
    simp at hd ⊢
    omega
theorem Path.snoc {n : Nat} {p : List Nat} (h : Path n p) {d : Nat} (hd : p.headD 0 < d) (hn : d < n) : Path n (p ++ [d]) := by
  obtain ⟨h1, h2, h3⟩ := h
  cases p with
  | nil => exact absurd rfl h1
  | cons x p =>
    refine ⟨by simp, fun y hy => ?_, fun y hy => ?_⟩
    · rcases List.mem_append.1 hy with hy | hy
      · exact h2 y hy
      · have : y = d := by simpa using hy
        omega
    · simp at hy hd h3 ⊢
      rcases hy with hy | hy
      · exact h3 y hy
      · omega
theorem Path.first {n : Nat} {p : List Nat} (h : Path n p) : p[0]? = some (p.headD 0) ∧ p.headD 0 < n := by
  obtain ⟨h1, h2, h3⟩ := h
  cases p with
  | nil => exact absurd rfl h1
  | cons x p => exact ⟨rfl, h2 x (by simp)⟩
theorem Path.last {n : Nat} {p : List Nat} (h : Path n p) : p[p.length - 1]? = some (p.getLastD 0) ∧ p.getLastD 0 < n := by
  obtain ⟨h1, h2, h3⟩ := h
  have : p[p.length - 1]? = some (p.getLastD 0) := by
    rw [List.getLastD_eq_getLast?, List.getLast?_eq_getElem?]
    cases h : p[p.length - 1]? with
    | none =>
      have := List.length_pos_iff.2 h1
      rw [List.getElem?_eq_none_iff] at h
      omega
    | some x => rfl
  exact ⟨this, h2 _ (List.mem_of_getElem? this)⟩
end Quo

namespace Go.Proofs.Ytpecepfnmkpmmaa
open Go.RowKit Go.Kin Quo
set_option maxRecDepth 100000
set_option linter.unusedVariables false
def vbo (b : Bool) : Value := .bool b
/-- The closure's captured variables lie in four blocks behind the world w0. -/
def caps (B : Nat) : Array Value := #[.pointer (some ⟨B, 0, none⟩), .pointer (some ⟨B + 1, 0, none⟩), .pointer (some ⟨B + 2, 0, none⟩), .pointer (some ⟨B + 3, 0, none⟩)]
structure Fc (w0 : World) (T : Tab) (ta : Option Addr) (n tc : Nat) (U : List Bool) (fv : Value) (w : World) : Prop where
  bl : Below w0.heap.size w0 w
  ct : w.heap[w0.heap.size]? = some (.cells #[.slice ta n tc] 22 (0, 0))
  cf : w.heap[w0.heap.size + 1]? = some (.cells #[fv] 26 (0, 0))
  cu : Blk vbo 87 w (w0.heap.size + 2) U
  ce : w.heap[w0.heap.size + 3]? = some (.cells #[.func (.func 56) #[] (caps w0.heap.size)] 88 (0, 0))
theorem Fc.fw {w0 w w' : World} {T : Tab} {ta : Option Addr} {n tc : Nat} {U : List Bool} {fv : Value} (h : Fc w0 T ta n tc U fv w) (hb : Below w.heap.size w w') : Fc w0 T ta n tc U fv w' := by
  have hs := (Array.getElem?_eq_some_iff.1 h.ce).1
  exact ⟨bt h.bl hb, (hb.block _ (by omega)).trans h.ct, (hb.block _ (by omega)).trans h.cf, h.cu.fw hb, (hb.block _ (by omega)).trans h.ce⟩
theorem Fc.size {w0 w : World} {T : Tab} {ta : Option Addr} {n tc : Nat} {U : List Bool} {fv : Value} (h : Fc w0 T ta n tc U fv w) : w0.heap.size + 4 ≤ w.heap.size := (Array.getElem?_eq_some_iff.1 h.ce).1
theorem Fc.used {w0 w : World} {T : Tab} {ta : Option Addr} {n tc : Nat} {U : List Bool} {fv : Value} (h : Fc w0 T ta n tc U fv w) (i : Nat) (b : Bool) : Fc w0 T ta n tc (U.set i b) fv (w.setCell ⟨w0.heap.size + 2, i, none⟩ (.bool b)) :=
  ⟨h.bl.setCell (p := ⟨w0.heap.size + 2, i, none⟩) (by show w0.heap.size ≤ w0.heap.size + 2; omega) _,
   (Below.heap_setCell _ _ _ _ (by show w0.heap.size ≠ w0.heap.size + 2; omega)).trans h.ct,
   (Below.heap_setCell _ _ _ _ (by show w0.heap.size + 1 ≠ w0.heap.size + 2; omega)).trans h.cf,
   h.cu.set i b,
   (Below.heap_setCell _ _ _ _ (by show w0.heap.size + 3 ≠ w0.heap.size + 2; omega)).trans h.ce⟩
theorem Fc.found {w0 w : World} {T : Tab} {ta : Option Addr} {n tc : Nat} {U : List Bool} {fv : Value} (h : Fc w0 T ta n tc U fv w) (v : Value) : Fc w0 T ta n tc U v (w.setCell ⟨w0.heap.size + 1, 0, none⟩ v) :=
  ⟨h.bl.setCell (p := ⟨w0.heap.size + 1, 0, none⟩) (by show w0.heap.size ≤ w0.heap.size + 1; omega) _,
   (Below.heap_setCell _ _ _ _ (by show w0.heap.size ≠ w0.heap.size + 1; omega)).trans h.ct,
   heap_setCell_same w (w0.heap.size + 1) 0 _ _ _ h.cf,
   (Below.heap_setCell _ _ _ _ (by show w0.heap.size + 2 ≠ w0.heap.size + 1; omega)).trans h.cu,
   (Below.heap_setCell _ _ _ _ (by show w0.heap.size + 3 ≠ w0.heap.size + 1; omega)).trans h.ce⟩
theorem Fc.grown {w0 w w' : World} {T : Tab} {ta : Option Addr} {n tc : Nat} {U : List Bool} {fv : Value} (h : Fc w0 T ta n tc U fv w) {b : Option Nat} (hg : w.grownBy w' b) (hb : ∀ k, b = some k → w0.heap.size + 4 ≤ k) : Fc w0 T ta n tc U fv w' := by
  have hs := h.size
  have key : ∀ k, k < w0.heap.size + 4 → w'.heap[k]? = w.heap[k]? := fun k hk => hg.block k (by omega) (fun e => by have := hb k e.symm; omega)
  exact ⟨h.bl.grown hg h.bl.size fun k e => by have := hb k e; omega, (key _ (by omega)).trans h.ct, (key _ (by omega)).trans h.cf, (key _ (by omega)).trans h.cu, (key _ (by omega)).trans h.ce⟩
theorem cell_one {w : World} {g : Nat} {v : Value} {t : TypeId} (h : w.heap[g]? = some (.cells #[v] t (0, 0))) : w.cell? ⟨g, 0, none⟩ = some v := by
  rw [cell_of_row w g 0 _ _ _ h]; rfl
theorem free_one {w : World} {g : Nat} {cs : Array Value} {t : TypeId} (h : w.heap[g]? = some (.cells cs t (0, 0))) (i : Nat) : w.frozen? ⟨g, i, none⟩ = false := frozen_of_row w g i _ _ h
/-- Behind a call only the path's own block (and the variables) may have changed. -/
def Off (B : Nat) (v : Value) (w w' : World) : Prop := w.heap.size ≤ w'.heap.size ∧ ∀ k, B + 4 ≤ k → k < w.heap.size → some k ≠ v.ownBlock → w'.heap[k]? = w.heap[k]?
/-- What the closure leaves. -/
def After (w0 : World) (T : Tab) (ta : Option Addr) (n tc : Nat) (p : List Nat) (a : Option Addr) (m c : Nat) (R : Option (List Nat)) (w : World) (e : Ending) (w' : World) : Prop :=
  e = .returned (.bool R.isSome) ∧ (∃ fv, Fc w0 T ta n tc (usedL p) fv w' ∧ (R = none → fv = .slice none 0 0) ∧ ∀ q, R = some q → ∃ fa fc, fv = .slice fa q.length fc ∧ Own vi (w0.heap.size + 4) 3 w' fa q.length fc (q.map Int.ofNat)) ∧
    At vi (w0.heap.size + 4) 3 w' a m c (p.map Int.ofNat) ∧ Off w0.heap.size (.slice a m c) w w'
theorem After.ce {w0 : World} {T : Tab} {ta : Option Addr} {n tc : Nat} {p : List Nat} {a : Option Addr} {m c : Nat} {R : Option (List Nat)} {w : World} {e : Ending} {w' : World} (h : After w0 T ta n tc p a m c R w e w') : w'.cell? ⟨w0.heap.size + 3, 0, none⟩ = some (.func (.func 56) #[] (caps w0.heap.size)) := by
  obtain ⟨_, ⟨_, h2, _⟩, _⟩ := h
  exact cell_one h2.ce

/-- Behind the path's append. -/
structure Psh (w0 : World) (T : Tab) (ta : Option Addr) (n tc : Nat) (p : List Nat) (d : Nat) (b o m c : Nat) (w1 : World) (sa : Option Addr) (c5 : Nat) (w5 : World) : Prop where
  fc : Fc w0 T ta n tc (usedL (p ++ [d])) (.slice none 0 0) w5
  at5 : At vi (w0.heap.size + 4) 3 w5 sa (m + 1) c5 ((p ++ [d]).map Int.ofNat)
  size : w1.heap.size ≤ w5.heap.size
  other : ∀ k, k < w1.heap.size → k ≠ b → w5.heap[k]? = w1.heap[k]?
  way : (sa = some ⟨b, o, none⟩ ∧ c5 = c) ∨ (w5.heap[b]? = w1.heap[b]? ∧ ∃ g, sa = some ⟨g, 0, none⟩ ∧ w1.heap.size ≤ g)
theorem Psh.mk' {w0 : World} {T : Tab} {ta : Option Addr} {n tc : Nat} {p : List Nat} {d b o m c : Nat} {w1 wx : World} {sa : Option Addr} {c5 : Nat} {w5 : World} (hF : Fc w0 T ta n tc (usedL (p ++ [d])) (.slice none 0 0) w1) (hO : At vi (w0.heap.size + 4) 3 w1 (some ⟨b, o, none⟩) m c (p.map Int.ofNat)) (hb : Below w1.heap.size w1 wx)
    (hA : At vi (w0.heap.size + 4) 3 w5 sa (m + 1) c5 (p.map Int.ofNat ++ [(d : Int)])) (hg : (sa = some ⟨b, o, none⟩ ∧ c5 = c ∧ wx.grownBy w5 (Value.slice (some ⟨b, o, none⟩) m c).ownBlock ∧ w5.heap.size = wx.heap.size) ∨ (wx.grownBy w5 none ∧ ∃ g, sa = some ⟨g, 0, none⟩ ∧ wx.heap.size ≤ g)) : Psh w0 T ta n tc p d b o m c w1 sa c5 w5 := by
  have hbb : w0.heap.size + 4 ≤ b := (hO.blt rfl).2.1
  have hbl : b < w1.heap.size := (hO.blt rfl).1
  have hs := hb.size
  have hA' : At vi (w0.heap.size + 4) 3 w5 sa (m + 1) c5 ((p ++ [d]).map Int.ofNat) := by rw [List.map_append]; exact hA
  rcases hg with ⟨h1, h2, h3, h4⟩ | ⟨h1, g, h2, h3⟩
  · refine ⟨(hF.fw hb).grown h3 fun k hk => ?_, hA', by omega, fun k hk hne => ?_, .inl ⟨h1, h2⟩⟩
    · have : b = k := by simpa [Value.ownBlock] using hk
      omega
    · rw [h3.block k (by omega) (by simp [Value.ownBlock]; omega)]
      exact hb.block k hk
  · refine ⟨(hF.fw hb).grown h1 (by simp), hA', Nat.le_trans hs h1.size, fun k hk _ => ?_, .inr ⟨?_, g, h2, by omega⟩⟩
    · rw [h1.block k (by omega) (by simp)]
      exact hb.block k hk
    · have hbl2 : b < w1.heap.size := hbl
      rw [h1.block b (by omega) (by simp)]
      exact hb.block b hbl2
/-- Behind the call with the longer path. -/
theorem Psh.back {w0 : World} {T : Tab} {ta : Option Addr} {n tc : Nat} {p : List Nat} {d b o m c : Nat} {w w1 : World} {sa : Option Addr} {c5 : Nat} {w5 w6 : World} {R : Option (List Nat)} {e : Ending} (h : Psh w0 T ta n tc p d b o m c w1 sa c5 w5) (hO : At vi (w0.heap.size + 4) 3 w1 (some ⟨b, o, none⟩) m c (p.map Int.ofNat)) (hp : p.length = m) (hA : After w0 T ta n tc (p ++ [d]) sa (m + 1) c5 R w5 e w6) (hoff : Off w0.heap.size (.slice (some ⟨b, o, none⟩) m c) w w1) :
    At vi (w0.heap.size + 4) 3 w6 (some ⟨b, o, none⟩) m c (p.map Int.ofNat) ∧ Off w0.heap.size (.slice (some ⟨b, o, none⟩) m c) w w6 := by
  obtain ⟨_, _, h3, h4⟩ := hA
  have hbb : w0.heap.size + 4 ≤ b := (hO.blt rfl).2.1
  have hbl : b < w1.heap.size := (hO.blt rfl).1
  have hs5 := h.size
  have hsz : w.heap.size ≤ w6.heap.size := by have := hoff.1; have := h4.1; omega
  rcases h.way with ⟨rfl, rfl⟩ | ⟨hb5, g, rfl, hg⟩
  · refine ⟨?_, hsz, fun k hk hk2 hne => ?_⟩
    · have := h3.take (k := m) (by omega)
      rwa [List.map_append, List.take_left' (by rw [List.length_map]; exact hp)] at this
    · have hk1 : k < w1.heap.size := Nat.lt_of_lt_of_le hk2 hoff.1
      have hkb : k ≠ b := by intro e; apply hne; rw [e]; rfl
      rw [h4.2 k hk (by omega) hne, h.other k hk1 hkb, hoff.2 k hk hk2 hne]
  · refine ⟨hO.same fun x hx => ?_, hsz, fun k hk hk2 hne => ?_⟩
    · cases hx
      show w6.heap[b]? = w1.heap[b]?
      rw [h4.2 b hbb (by omega) (by simp [Value.ownBlock]; omega)]
      exact hb5
    · have hk1 : k < w1.heap.size := Nat.lt_of_lt_of_le hk2 hoff.1
      have hkb : k ≠ b := by intro e; apply hne; rw [e]; rfl
      rw [h4.2 k hk (by omega) (by simp [Value.ownBlock]; omega), h.other k hk1 hkb, hoff.2 k hk hk2 hne]
end Go.Proofs.Ytpecepfnmkpmmaa
