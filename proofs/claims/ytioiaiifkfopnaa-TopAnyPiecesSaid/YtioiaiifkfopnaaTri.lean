/- Three slices that grow side by side (indices, pieces, rows), and a map of what has been used. -/
import Derived.Test.YtioiaiifkfopnaaRsf
import Derived.Test.YtioiaiifkfopnaaUsed
import Derived.Test.YtioiaiifkfopnaaStep
namespace Go.Kin
open Go.RowKit
def Apart (a b : Option Addr) : Prop := ∀ x y, a = some x → b = some y → x.block ≠ y.block
theorem Own.grownP {α : Type} {f : α → Value} {B : Nat} {E : TypeId} {w w' : World} {a a' : Option Addr} {n c n' c' : Nat} {l : List α} (h : Own f B E w a n c l) (hg : w.grownBy w' (Value.slice a' n' c').ownBlock) (hA : Apart a a') : Own f B E w' a n c l := by
  cases a' with
  | none => 
    obtain ⟨hl, h1 | ⟨g, cur, rfl, hB1, hgr, r⟩⟩ := h
    · exact ⟨hl, .inl h1⟩
    · refine ⟨hl, .inr ⟨g, cur, rfl, hB1, ?_, r⟩⟩
      rw [hg.block g (Array.getElem?_eq_some_iff.1 hgr).1 (by simp [Value.ownBlock])]
      exact hgr
  | some x =>
    obtain ⟨hl, h1 | ⟨g, cur, rfl, hB1, hgr, r⟩⟩ := h
    · exact ⟨hl, .inl h1⟩
    · refine ⟨hl, .inr ⟨g, cur, rfl, hB1, ?_, r⟩⟩
      have := hA _ x rfl rfl
      rw [hg.block g (Array.getElem?_eq_some_iff.1 hgr).1 (by simp [Value.ownBlock]; exact this)]
      exact hgr
theorem Own.blt {α : Type} {f : α → Value} {B : Nat} {E : TypeId} {w : World} {a : Option Addr} {n c : Nat} {l : List α} (h : Own f B E w a n c l) {x : Addr} (hx : a = some x) : x.block < w.heap.size := by
  obtain ⟨hl, h1 | ⟨g, cur, rfl, hB1, hgr, r⟩⟩ := h
  · rw [h1.1] at hx; cases hx
  · cases hx; exact (Array.getElem?_eq_some_iff.1 hgr).1
theorem Own.bge {α : Type} {f : α → Value} {B : Nat} {E : TypeId} {w : World} {a : Option Addr} {n c : Nat} {l : List α} (h : Own f B E w a n c l) {x : Addr} (hx : a = some x) : B ≤ x.block := by
  obtain ⟨hl, h1 | ⟨g, cur, rfl, hB1, hgr, r⟩⟩ := h
  · rw [h1.1] at hx; cases hx
  · cases hx; exact hB1
theorem Apart.symm {a b : Option Addr} (h : Apart a b) : Apart b a := fun x y hx hy => (h y x hy hx).symm
/-- Where an append has laid its slice, another slice of the call's own does not lie. -/
theorem Apart.lies {α : Type} {f : α → Value} {B : Nat} {E : TypeId} {w : World} {a b : Option Addr} {n c m d g H : Nat} {l : List α} (h : Apart a b) (hb : Own f B E w b m d l) (hl : (Value.slice a n c).ownBlock = some g ∨ g = H) (hH : w.heap.size = H) : Apart (some ⟨g, 0, none⟩) b := by
  intro x y hx hy
  cases hx
  show g ≠ y.block
  rcases hl with hl | rfl
  · cases a with
    | none => cases hl
    | some z =>
      have := h z y rfl hy
      have e : z.block = g := by simpa [Value.ownBlock] using hl
      rw [← e]; exact this
  · have := hb.blt hy
    omega
theorem rd_one {α : Type} {f : α → Value} {w : World} {g : Nat} {v : α} {T : TypeId} {fr : Nat × Nat} (h : w.heap[g]? = some (.cells #[f v] T fr)) : Rd f w (some ⟨g, 0, none⟩) 1 1 [v] := by
  refine ⟨rfl, by omega, by unfold maxLen; omega, fun e => (by cases e), fun i x hx => ⟨g, 0, rfl, ?_⟩⟩
  have hi : i = 0 := by have := (List.getElem?_eq_some_iff.1 hx).1; simp at this; omega
  subst hi
  cases hx
  rw [cell_of_row w g _ _ _ _ h]; rfl
/-- One element, appended at a step of a region that draws its order; where the slice lies then. -/
theorem step_push {α : Type} {P : Program} (w : World) {ops : Array Oper} {o : Oper} {a : Act} {K : Act → World → Prop} {Q : Exit → Act → World → Prop} {E : Prop} (hgd : o.guard = none) (s x : Operand) (t : TypeId)
    (ho : o.op = .call { callee := .builtin .append, args := #[s, x], argTypes := #[t, t] }) (f : α → Value) (hf : ∀ x, (f x).oneCell' = true)
    (base : Nat) (e : TypeId) (i : TypeInfo) (z : Value) (bytes : Nat) (ht : P.underlying t = some (.slice e)) (hi : P.info? e = some i) (hz : i.zero = some z)
    (hsize : i.size = 1) (hby : i.bytes = bytes) (hzs : z.cells.size = 1)
    (sa : Option Addr) (n c : Nat) (L : List α) (hs : a.eval s = .slice sa n c) (hown : Own f base e w sa n c L)
    (g0 : Nat) (v : α) (T : TypeId) (fr : Nat × Nat) (hx : a.eval x = .slice (some ⟨g0, 0, none⟩) 1 1) (hX : w.heap[g0]? = some (.cells #[f v] T fr))
    (hn : n ≤ 1000) (hby2 : bytes ≤ 100) (hbase : base ≤ w.heap.size)
    (h : ∀ g c' w', Own f base e w' (some ⟨g, 0, none⟩) (n + 1) c' (L ++ [v]) → w.grownBy w' (Value.slice sa n c).ownBlock → ((Value.slice sa n c).ownBlock = some g ∨ g = w.heap.size) → K (a.put o.dst (.slice (some ⟨g, 0, none⟩) (n + 1) c')) w') :
    if Region.wanted o (yielded ops a.tmps) = true then Oper.wp P o a w K Q else E := by
  have hR := rd_one hX
  refine step_append_lies w hgd s x t ho base e i z 1 bytes ht hi hz hsize hby hzs (by omega) (.slice sa n c) n (L.map f) hs hown.ownsRow ⟨g0, 0, none⟩ 1 1 [f v] hx (by simp) ?_ ?_ (by omega) (by unfold maxLen; omega) (by have : (n + 1) * bytes ≤ 1001 * 100 := Nat.mul_le_mul (by omega) hby2; omega) hbase _ rfl ?_
  · intro j u hu
    have hj : j = 0 := by have := (List.getElem?_eq_some_iff.1 hu).1; simp at this; omega
    subst hj
    cases hu
    obtain ⟨b, o, hb, hc⟩ := hR.cell 0 v rfl
    cases hb
    simpa [Addr.add] using hc
  · intro u hu
    simp at hu
    subst hu
    exact hf v
  · intro g cap w' h1 h2 h3 h4
    have e1 : L.map f ++ [f v] = (L ++ [v]).map f := by simp
    rw [e1] at h1
    obtain ⟨sa', c', he, ho'⟩ := Own.of_ownsRow h1
    cases he
    exact h g _ w' ho' h2 h3
end Go.Kin

namespace Go.Proofs.Ytioiaiifkfopnaa
open Go.RowKit Go.Kin Mat
set_option maxRecDepth 100000
set_option linter.unusedVariables false

theorem Usd.grown {α : Type} {f : α → Value} {B : Nat} {E : TypeId} {w w' : World} {bm : Nat} {U : List Int} {a : Option Addr} {n c : Nat} {l : List α} (h : Usd w bm U) (ho : Own f B E w a n c l) (hg : w.grownBy w' (Value.slice a n c).ownBlock) : Usd w' bm U := by
  obtain ⟨D, h1, h2⟩ := h
  refine ⟨D, h1.kept hg ?_, h2⟩
  obtain ⟨es, clock, hb, _⟩ := h1
  obtain ⟨_, h3 | ⟨g, cur, rfl, _, hgr, _⟩⟩ := ho
  · rw [h3.1]; intro e; cases e
  · intro e
    have e2 : bm = g := by simpa [Value.ownBlock] using e
    subst e2
    rw [hb] at hgr
    cases hgr
theorem Own.ofMap {α : Type} {f : α → Value} {B : Nat} {E : TypeId} {w w' : World} {bm : Nat} {U : List Int} {a : Option Addr} {n c : Nat} {l : List α} (h : Own f B E w a n c l) (hu : Usd w bm U) (hg : w.grownBy w' (some bm)) : Own f B E w' a n c l := by
  obtain ⟨D, ⟨es, clock, hb, _⟩, _⟩ := hu
  refine h.grownB hg fun x hx e => ?_
  obtain ⟨_, h3 | ⟨g, cur, h4, _, hgr, _⟩⟩ := h
  · rw [h3.1] at hx; cases hx
  · rw [h4] at hx
    cases hx
    change g = bm at e
    subst e
    rw [hb] at hgr
    cases hgr

/-- Indices, pieces, rows. -/
structure TR3 (wa w : World) (bm L d : Nat) (G : Mat) (S1 S2 S3 : List Nat) (U : List Int) (ia : Option Addr) (ic : Nat) (pa : Option Addr) (pc : Nat) (ra : Option Addr) (rc : Nat) : Prop where
  o1 : Own vi wa.heap.size 3 w ia S1.length ic (S1.map Int.ofNat)
  o2 : ∃ L2, Own vh wa.heap.size 23 w pa S2.length pc L2 ∧ ∀ i h, L2[i]? = some h → Rd vb wa h.1 h.2.1 h.2.2 (mrow L (G (S2.getD i 0)))
  o3 : ∃ L3, Own vh wa.heap.size 23 w ra S3.length rc L3 ∧ ∀ i h, L3[i]? = some h → Own vb 0 5 w h.1 h.2.1 h.2.2 (mrow d (allM d (S3.getD i 0)))
  ap : Apart pa ra
  us : Usd w bm U
  bl : Below wa.heap.size wa w
theorem TR3.fw {wa w w' : World} {bm L d : Nat} {G : Mat} {S1 S2 S3 : List Nat} {U : List Int} {ia : Option Addr} {ic : Nat} {pa : Option Addr} {pc : Nat} {ra : Option Addr} {rc : Nat} (h : TR3 wa w bm L d G S1 S2 S3 U ia ic pa pc ra rc) (hb : Below w.heap.size w w') : TR3 wa w' bm L d G S1 S2 S3 U ia ic pa pc ra rc := by
  obtain ⟨L2, a2, b2⟩ := h.o2
  obtain ⟨L3, a3, b3⟩ := h.o3
  exact ⟨h.o1.fw hb, ⟨L2, a2.fw hb, b2⟩, ⟨L3, a3.fw hb, fun i x hx => (b3 i x hx).fw hb⟩, h.ap, h.us.fw hb, bt h.bl hb⟩
theorem ti : (3 : TypeId) ≠ 23 := by decide
theorem ti' : (23 : TypeId) ≠ 3 := by decide
theorem tu : (5 : TypeId) ≠ 3 := by decide
theorem TR3.push1 {wa w w' : World} {bm L d : Nat} {G : Mat} {S1 S2 S3 : List Nat} {U : List Int} {ia : Option Addr} {ic : Nat} {pa : Option Addr} {pc : Nat} {ra : Option Addr} {rc : Nat} (h : TR3 wa w bm L d G S1 S2 S3 U ia ic pa pc ra rc) {k g c : Nat}
    (ho : Own vi wa.heap.size 3 w' (some ⟨g, 0, none⟩) (S1.length + 1) c (S1.map Int.ofNat ++ [(k : Int)])) (hg : w.grownBy w' (Value.slice ia S1.length ic).ownBlock) : TR3 wa w' bm L d G (S1 ++ [k]) S2 S3 U (some ⟨g, 0, none⟩) c pa pc ra rc := by
  obtain ⟨L2, a2, b2⟩ := h.o2
  obtain ⟨L3, a3, b3⟩ := h.o3
  refine ⟨?_, ⟨L2, a2.grownT h.o1 ti' hg, b2⟩, ⟨L3, a3.grownT h.o1 ti' hg, fun i x hx => (b3 i x hx).grownT h.o1 tu hg⟩, h.ap, h.us.grown h.o1 hg, h.bl.grown hg h.bl.size fun x hx => own_ge h.o1 hx⟩
  rw [List.length_append, List.map_append]; exact ho
theorem TR3.push2 {wa w w' : World} {bm L d : Nat} {G : Mat} {S1 S2 S3 : List Nat} {U : List Int} {ia : Option Addr} {ic : Nat} {pa : Option Addr} {pc : Nat} {ra : Option Addr} {rc : Nat} (h : TR3 wa w bm L d G S1 S2 S3 U ia ic pa pc ra rc) {L2 : List (Option Addr × Nat × Nat)} (a2 : Own vh wa.heap.size 23 w pa S2.length pc L2) (b2 : ∀ i h, L2[i]? = some h → Rd vb wa h.1 h.2.1 h.2.2 (mrow L (G (S2.getD i 0)))) {k g c : Nat} {x : Option Addr × Nat × Nat} (hx : Rd vb wa x.1 x.2.1 x.2.2 (mrow L (G k)))
    (ho : Own vh wa.heap.size 23 w' (some ⟨g, 0, none⟩) (S2.length + 1) c (L2 ++ [x])) (hg : w.grownBy w' (Value.slice pa S2.length pc).ownBlock) (hl : (Value.slice pa S2.length pc).ownBlock = some g ∨ g = w.heap.size) : TR3 wa w' bm L d G S1 (S2 ++ [k]) S3 U ia ic (some ⟨g, 0, none⟩) c ra rc := by
  obtain ⟨L3, a3, b3⟩ := h.o3
  refine ⟨h.o1.grownT a2 ti hg, ⟨_, by rw [List.length_append]; exact ho, fun i y hy => ?_⟩, ⟨L3, a3.grownP hg h.ap.symm, fun i x hx => (b3 i x hx).grownT a2 tt' hg⟩, h.ap.lies a3 hl rfl, h.us.grown a2 hg, h.bl.grown hg h.bl.size fun x hx => own_ge a2 hx⟩
  by_cases hi : i < L2.length
  · rw [List.getElem?_append_left hi] at hy
    have := b2 i y hy
    rw [a2.len] at hi
    rwa [List.getD_eq_getElem?_getD, List.getElem?_append_left hi, ← List.getD_eq_getElem?_getD]
  · have hi2 : i = S2.length := by
      have := (List.getElem?_eq_some_iff.1 hy).1
      rw [List.length_append, a2.len] at this
      rw [a2.len] at hi
      simp at this; omega
    subst hi2
    rw [List.getElem?_append_right (by rw [a2.len]; omega), a2.len, Nat.sub_self] at hy
    cases hy
    rw [List.getD_eq_getElem?_getD, List.getElem?_append_right (by omega), Nat.sub_self]
    exact hx
theorem TR3.push3 {wa w w' : World} {bm L d : Nat} {G : Mat} {S1 S2 S3 : List Nat} {U : List Int} {ia : Option Addr} {ic : Nat} {pa : Option Addr} {pc : Nat} {ra : Option Addr} {rc : Nat} (h : TR3 wa w bm L d G S1 S2 S3 U ia ic pa pc ra rc) {L3 : List (Option Addr × Nat × Nat)} (a3 : Own vh wa.heap.size 23 w ra S3.length rc L3) (b3 : ∀ i h, L3[i]? = some h → Own vb 0 5 w h.1 h.2.1 h.2.2 (mrow d (allM d (S3.getD i 0)))) {k g c : Nat} {x : Option Addr × Nat × Nat} (hx : Own vb 0 5 w x.1 x.2.1 x.2.2 (mrow d (allM d k)))
    (ho : Own vh wa.heap.size 23 w' (some ⟨g, 0, none⟩) (S3.length + 1) c (L3 ++ [x])) (hg : w.grownBy w' (Value.slice ra S3.length rc).ownBlock) (hl : (Value.slice ra S3.length rc).ownBlock = some g ∨ g = w.heap.size) : TR3 wa w' bm L d G S1 S2 (S3 ++ [k]) U ia ic pa pc (some ⟨g, 0, none⟩) c := by
  obtain ⟨L2, a2, b2⟩ := h.o2
  refine ⟨h.o1.grownT a3 ti hg, ⟨L2, a2.grownP hg h.ap, b2⟩, ⟨_, by rw [List.length_append]; exact ho, fun i y hy => ?_⟩, (h.ap.symm.lies a2 hl rfl).symm, h.us.grown a3 hg, h.bl.grown hg h.bl.size fun x hx => own_ge a3 hx⟩
  by_cases hi : i < L3.length
  · rw [List.getElem?_append_left hi] at hy
    have := (b3 i y hy).grownT a3 tt' hg
    rw [a3.len] at hi
    rwa [List.getD_eq_getElem?_getD, List.getElem?_append_left hi, ← List.getD_eq_getElem?_getD]
  · have hi2 : i = S3.length := by
      have := (List.getElem?_eq_some_iff.1 hy).1
      rw [List.length_append, a3.len] at this
      rw [a3.len] at hi
      simp at this; omega
    subst hi2
    rw [List.getElem?_append_right (by rw [a3.len]; omega), a3.len, Nat.sub_self] at hy
    cases hy
    rw [List.getD_eq_getElem?_getD, List.getElem?_append_right (by omega), Nat.sub_self]
    exact hx.grownT a3 tt' hg
/-- The map is written. -/
theorem TR3.used {wa w w' : World} {bm L d : Nat} {G : Mat} {S1 S2 S3 : List Nat} {U U' : List Int} {ia : Option Addr} {ic : Nat} {pa : Option Addr} {pc : Nat} {ra : Option Addr} {rc : Nat} (h : TR3 wa w bm L d G S1 S2 S3 U ia ic pa pc ra rc) (hg : w.grownBy w' (some bm)) (hu : Usd w' bm U') (hB : wa.heap.size ≤ bm) : TR3 wa w' bm L d G S1 S2 S3 U' ia ic pa pc ra rc := by
  obtain ⟨L2, a2, b2⟩ := h.o2
  obtain ⟨L3, a3, b3⟩ := h.o3
  exact ⟨Own.ofMap h.o1 h.us hg, ⟨L2, Own.ofMap a2 h.us hg, b2⟩, ⟨L3, Own.ofMap a3 h.us hg, fun i x hx => Own.ofMap (b3 i x hx) h.us hg⟩, h.ap, hu, below_grown h.bl hg hB⟩
theorem TR3.pieces {wa w : World} {bm L d : Nat} {G : Mat} {S1 S2 S3 : List Nat} {U : List Int} {ia : Option Addr} {ic : Nat} {pa : Option Addr} {pc : Nat} {ra : Option Addr} {rc : Nat} (h : TR3 wa w bm L d G S1 S2 S3 U ia ic pa pc ra rc) (hb : Below wa.heap.size wa w) : RdM w pa S2.length pc (mlist S2.length L fun i => G (S2.getD i 0)) := by
  obtain ⟨L2, a2, b2⟩ := h.o2
  refine ⟨L2, a2.rd, mlist_length _ _ _, fun i x m hi hm => ?_⟩
  have hlt := (List.getElem?_eq_some_iff.1 hm).1
  rw [mlist_length] at hlt
  rw [mlist_get _ hlt] at hm
  cases hm
  exact (b2 i x hi).fw hb
theorem TR3.rows {wa w : World} {bm L d : Nat} {G : Mat} {S1 S2 S3 : List Nat} {U : List Int} {ia : Option Addr} {ic : Nat} {pa : Option Addr} {pc : Nat} {ra : Option Addr} {rc : Nat} (h : TR3 wa w bm L d G S1 S2 S3 U ia ic pa pc ra rc) : RdM w ra S3.length rc (mlist S3.length d (pickA d S3)) := by
  obtain ⟨L3, a3, b3⟩ := h.o3
  exact MatR.rdm ⟨L3, a3, b3⟩
end Go.Proofs.Ytioiaiifkfopnaa
