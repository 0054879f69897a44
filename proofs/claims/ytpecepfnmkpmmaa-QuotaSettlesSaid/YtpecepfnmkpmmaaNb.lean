/- quota: newNetwork, add. -/
import Derived.Test.YtpecepfnmkpmmaaNa
namespace Go.Proofs.Ytpecepfnmkpmmaa
open Go.RowKit Go.Kin Quo
set_option maxRecDepth 100000
set_option linter.unusedVariables false
theorem keepA {w w' : World} {B' : Nat} {E E' : TypeId} {a' : Option Addr} {q n' c' : Nat} {l' : List (Nat × Int)} {cur : Array Value} (h : w.heap[q]? = some (.cells cur E (0, 0))) (h' : OwnA va 2 B' E' w a' n' c' l') (hE : E ≠ E') (hg : w.grownBy w' (Value.slice a' n' c').ownBlock) : w'.heap[q]? = w.heap[q]? := by
  refine hg.block q (Array.getElem?_eq_some_iff.1 h).1 fun e => ?_
  cases a' with
  | none => simp [Value.ownBlock] at e
  | some x =>
    obtain ⟨_, _, cur', h2⟩ := h'.blt rfl
    have : q = x.block := by simpa [Value.ownBlock] using e
    rw [← this, h] at h2
    cases h2
    exact hE rfl
theorem ownBlock_eq {a : Option Addr} {n c k : Nat} (h : (Value.slice a n c).ownBlock = some k) : ∃ x, a = some x ∧ x.block = k := by
  cases a with
  | none => simp [Value.ownBlock] at h
  | some x => exact ⟨x, rfl, by simpa [Value.ownBlock] using h⟩
/-- The network's own block, its slice of arcs. -/
theorem NetM.head {w : World} {B : Nat} {X : List Nat} {bg : Nat} {g : Net} (h : NetM w B X bg g) :
    ∃ aa ac oo oc, w.cell? ⟨bg, 0, none⟩ = some (.slice aa g.arcs.length ac) ∧ w.cell? ⟨bg, 1, none⟩ = some (.slice (some ⟨oo, 0, none⟩) g.out.length oc) ∧ w.frozen? ⟨bg, 0, none⟩ = false ∧ OwnA va 2 B 73 w aa g.arcs.length ac g.arcs ∧ B ≤ bg ∧
      ∀ (wx w5 : World) (g5 c5 : Nat) (y z : Nat × Int), (∀ x ∈ X, x < w.heap.size) → Below w.heap.size w wx → wx.grownBy w5 (Value.slice aa g.arcs.length ac).ownBlock → OwnA va 2 B 73 w5 (some ⟨g5, 0, none⟩) (g.arcs.length + 2) c5 (g.arcs ++ [y, z]) → ((Value.slice aa g.arcs.length ac).ownBlock = some g5 ∨ g5 = wx.heap.size) →
        NetM (w5.setCell ⟨bg, 0, none⟩ (.slice (some ⟨g5, 0, none⟩) (g.arcs.length + 2) c5)) B X bg ⟨g.arcs ++ [y, z], g.out⟩ ∧ Fr B X w (w5.setCell ⟨bg, 0, none⟩ (.slice (some ⟨g5, 0, none⟩) (g.arcs.length + 2) c5)) ∧ w5.cell? ⟨bg, 0, none⟩ = some (.slice aa g.arcs.length ac) ∧ w5.frozen? ⟨bg, 0, none⟩ = false := by
  have hl := h.lt
  have hN := h
  obtain ⟨aa, ac, oo, oc, L, h1, h2, h3, h4, h5, h6, h7, h8, h9, h10⟩ := h
  refine ⟨aa, ac, oo, oc, by rw [cell_of_row w bg 0 _ _ _ h1]; rfl, by rw [cell_of_row w bg 1 _ _ _ h1]; rfl, frozen_of_row w bg 0 _ _ h1, h2, h6, fun wx w5 g5 c5 y z hX hb hg ho hlies => ?_⟩
  have hbl : wx.heap[bg]? = w.heap[bg]? := hb.block _ hl
  have h2x : OwnA va 2 B 73 wx aa g.arcs.length ac g.arcs := h2.same fun x hx => hb.block _ (h2.blt hx).1
  have k1 : w5.heap[bg]? = some (.cells #[.slice aa g.arcs.length ac, .slice (some ⟨oo, 0, none⟩) g.out.length oc] 76 (0, 0)) := by
    rw [keepA (hbl.trans h1) h2x nt3 hg]; exact hbl.trans h1
  have hgX : g5 ∉ X := by
    rcases hlies with e | e
    · obtain ⟨x, hx, hxb⟩ := ownBlock_eq e
      have := h9 x hx
      rwa [hxb] at this
    · intro hm
      have := hX _ hm
      have := hb.size
      omega
  have hgb : g5 ≠ bg := by
    rintro rfl
    obtain ⟨_, _, cur, hc⟩ := ho.blt (x := ⟨g5, 0, none⟩) rfl
    rw [show ((⟨g5, 0, none⟩ : Addr)).block = g5 from rfl, k1] at hc
    cases hc
  have kp : ∀ {q : Nat} {cur : Array Value} {E : TypeId}, w.heap[q]? = some (.cells cur E (0, 0)) → E ≠ 73 → w5.heap[q]? = w.heap[q]? := by
    intro q cur E hq hE
    have hqx : wx.heap[q]? = w.heap[q]? := hb.block _ (Array.getElem?_eq_some_iff.1 hq).1
    exact (keepA (hqx.trans hq) h2x hE hg).trans hqx
  refine ⟨?_, ?_, by rw [cell_of_row w5 bg 0 _ _ _ k1]; rfl, frozen_of_row w5 bg 0 _ _ k1⟩
  · refine ⟨some ⟨g5, 0, none⟩, c5, oo, oc, L, ?_, ?_, ?_, h4, fun i x m hi hm => ?_, h6, h7, h8, fun x hx => by cases hx; exact hgX, h10⟩
    · have := heap_setCell_same w5 bg 0 _ _ (.slice (some ⟨g5, 0, none⟩) (g.arcs.length + 2) c5) k1
      rw [show (g.arcs ++ [y, z]).length = g.arcs.length + 2 by simp]
      exact this
    · rw [show (g.arcs ++ [y, z]).length = g.arcs.length + 2 by simp]
      exact ho.same fun x hx => by cases hx; exact Below.heap_setCell _ _ _ _ (by show g5 ≠ bg; exact hgb)
    · refine h3.same fun x hx => ?_
      obtain ⟨cur, hc⟩ := h3.typ hx
      have hne : x.block ≠ bg := by intro e; rw [e, h1] at hc; cases hc
      rw [Below.heap_setCell _ _ _ _ hne]
      exact kp hc (Ne.symm nt5)
    · have ho5 := h5 i x m hi hm
      refine ho5.same fun y hy => ?_
      obtain ⟨cur, hc⟩ := ho5.typ hy
      have hne : y.block ≠ bg := by intro e; rw [e, h1] at hc; cases hc
      rw [Below.heap_setCell _ _ _ _ hne]
      exact kp hc (Ne.symm nt4)
  · refine ((Fr.of_below hb).grown hg fun k hk => ?_).setCell (p := ⟨bg, 0, none⟩) h6 h7 _
    obtain ⟨x, hx, rfl⟩ := ownBlock_eq hk
    exact ⟨(h2.blt hx).2.1, h9 x hx⟩
/-- One row of the network. -/
theorem NetM.rowAt {w : World} {B : Nat} {X : List Nat} {bg : Nat} {g : Net} (h : NetM w B X bg g) {i : Nat} {m : List Nat} (hm : g.out[i]? = some m) :
    ∃ oo oc ra rc, w.cell? ⟨bg, 1, none⟩ = some (.slice (some ⟨oo, 0, none⟩) g.out.length oc) ∧ w.cell? ⟨oo, i, none⟩ = some (.slice ra m.length rc) ∧ w.frozen? ⟨oo, i, none⟩ = false ∧ Own vi B 3 w ra m.length rc (m.map Int.ofNat) ∧ B ≤ oo ∧
      ∀ (wx w5 : World) (g5 c5 k : Nat), (∀ x ∈ X, x < w.heap.size) → Below w.heap.size w wx → wx.grownBy w5 (Value.slice ra m.length rc).ownBlock → Own vi B 3 w5 (some ⟨g5, 0, none⟩) (m.length + 1) c5 (m.map Int.ofNat ++ [(k : Int)]) → ((Value.slice ra m.length rc).ownBlock = some g5 ∨ g5 = wx.heap.size) →
        NetM (w5.setCell ⟨oo, i, none⟩ (.slice (some ⟨g5, 0, none⟩) (m.length + 1) c5)) B X bg ⟨g.arcs, g.out.set i (m ++ [k])⟩ ∧ Fr B X w (w5.setCell ⟨oo, i, none⟩ (.slice (some ⟨g5, 0, none⟩) (m.length + 1) c5)) ∧ w5.cell? ⟨oo, i, none⟩ = some (.slice ra m.length rc) ∧ w5.frozen? ⟨oo, i, none⟩ = false ∧ w5.cell? ⟨bg, 1, none⟩ = some (.slice (some ⟨oo, 0, none⟩) g.out.length oc) := by
  have hl := h.lt
  obtain ⟨aa, ac, oo, oc, L, h1, h2, h3, h4, h5, h6, h7, h8, h9, h10⟩ := h
  have hiL : i < L.length := by rw [h3.len]; exact (List.getElem?_eq_some_iff.1 hm).1
  have hy := List.getElem?_eq_getElem hiL
  have hrow := h5 i _ m hy hm
  have hrl : L[i].2.1 = m.length := by have := hrow.len; rw [List.length_map] at this; exact this.symm
  obtain ⟨o', e1, hBo, hc, hf, curo, hcuro⟩ := h3.cell hy
  cases e1
  unfold vh at hc
  rw [hrl] at hc hrow
  refine ⟨oo, oc, L[i].1, L[i].2.2, by rw [cell_of_row w bg 1 _ _ _ h1]; rfl, hc, hf, hrow, hBo, fun wx w5 g5 c5 k hX hb hg ho hlies => ?_⟩
  have hrx : Own vi B 3 wx L[i].1 m.length L[i].2.2 (m.map Int.ofNat) := hrow.fw hb
  have kp : ∀ {q : Nat} {cur : Array Value} {E : TypeId}, w.heap[q]? = some (.cells cur E (0, 0)) → E ≠ 3 → w5.heap[q]? = w.heap[q]? := by
    intro q cur E hq hE
    have hqx : wx.heap[q]? = w.heap[q]? := hb.block _ (Array.getElem?_eq_some_iff.1 hq).1
    exact (keepT (hqx.trans hq) hrx hE hg).trans hqx
  have hgX : g5 ∉ X := by
    rcases hlies with e | e
    · obtain ⟨x, hx, hxb⟩ := ownBlock_eq e
      have := h10 i _ x hy hx
      rwa [hxb] at this
    · intro hm
      have := hX _ hm
      have := hb.size
      omega
  have k1 : w5.heap[bg]? = some (.cells #[.slice aa g.arcs.length ac, .slice (some ⟨oo, 0, none⟩) g.out.length oc] 76 (0, 0)) := (kp h1 nt1).trans h1
  have k2 : w5.heap[oo]? = some (.cells curo 26 (0, 0)) := (kp hcuro tSI).trans hcuro
  have hob : oo ≠ bg := by rintro rfl; rw [h1] at hcuro; cases hcuro
  have hgo : g5 ≠ oo := by
    rintro rfl
    obtain ⟨cur, hc⟩ := ho.typ (x := ⟨g5, 0, none⟩) rfl
    rw [show ((⟨g5, 0, none⟩ : Addr)).block = g5 from rfl, k2] at hc
    cases hc
  have h3' : Own vh B 26 w5 (some ⟨oo, 0, none⟩) g.out.length oc L := h3.same fun x hx => by cases hx; exact kp hcuro tSI
  refine ⟨?_, ?_, ?_, frozen_of_row w5 oo i _ _ k2, by rw [cell_of_row w5 bg 1 _ _ _ k1]; rfl⟩
  · have hlen : (g.out.set i (m ++ [k])).length = g.out.length := List.length_set
    refine ⟨aa, ac, oo, oc, L.set i (some ⟨g5, 0, none⟩, m.length + 1, c5), ?_, ?_, ?_, ?_, ?_, h6, h7, h8, h9, ?_⟩
    · show (w5.setCell _ _).heap[bg]? = _
      rw [Below.heap_setCell _ _ _ _ (by show bg ≠ oo; exact hob.symm), hlen]
      exact k1
    · refine h2.same fun x hx => ?_
      obtain ⟨_, _, cur, hc⟩ := h2.blt hx
      have hne : x.block ≠ oo := by intro e; rw [e, hcuro] at hc; cases hc
      rw [Below.heap_setCell _ _ _ _ hne]
      exact kp hc nt4
    · show Own vh B _ _ _ (g.out.set i (m ++ [k])).length oc _
      rw [hlen]
      exact h3'.set i (some ⟨g5, 0, none⟩, m.length + 1, c5)
    · refine h4.set fun j q hj hq => ?_
      intro x y hx hy2
      cases hy2
      show x.block ≠ g5
      have hjo : Own vi B 3 w q.1 q.2.1 q.2.2 ((g.out.getD j []).map Int.ofNat) := h5 j q _ hq (get_some (by rw [← h3.len]; exact (List.getElem?_eq_some_iff.1 hq).1) [])
      rcases hlies with e | e
      · obtain ⟨z, hz, hzb⟩ := ownBlock_eq e
        have := h4 j i q _ hj hq hy x z hx hz
        rwa [hzb] at this
      · have := hjo.blt hx
        have := hb.size
        omega
    · intro j q m' hq hm'
      rw [List.getElem?_set] at hq
      have hm'2 : (g.out.set i (m ++ [k]))[j]? = some m' := hm'
      rw [List.getElem?_set] at hm'2
      by_cases e : i = j
      · subst e
        rw [if_pos rfl, if_pos hiL] at hq
        rw [if_pos rfl, if_pos (by rw [← h3.len]; exact hiL)] at hm'2
        cases hq; cases hm'2
        rw [List.map_append]
        exact ho.same fun x hx => by cases hx; exact Below.heap_setCell _ _ _ _ (by show g5 ≠ oo; exact hgo)
      · rw [if_neg e] at hq hm'2
        have hjo := h5 j q m' hq hm'2
        refine hjo.same fun x hx => ?_
        obtain ⟨cur, hc⟩ := hjo.typ hx
        have hne : x.block ≠ oo := by intro e2; rw [e2, hcuro] at hc; cases hc
        rw [Below.heap_setCell _ _ _ _ hne]
        have hxl := hjo.blt hx
        rw [hg.block x.block (Nat.lt_of_lt_of_le hxl hb.size) (fun e2 => ?_)]
        · exact hb.block _ hxl
        · obtain ⟨z, hz, hzb⟩ := ownBlock_eq e2.symm
          exact h4 i j _ q e hy hq z x hz hx hzb
    · intro j q x hq hx
      rw [List.getElem?_set] at hq
      by_cases e : i = j
      · subst e
        rw [if_pos rfl, if_pos hiL] at hq
        cases hq; cases hx
        exact hgX
      · rw [if_neg e] at hq
        exact h10 j q x hq hx
  · refine ((Fr.of_below hb).grown hg fun q hq => ?_).setCell (p := ⟨oo, i, none⟩) hBo h8 _
    obtain ⟨x, hx, rfl⟩ := ownBlock_eq hq
    exact ⟨hrow.bge hx, h10 i _ x hy hx⟩
  · rw [cell_of_row w5 oo i _ _ _ k2]
    rw [cell_of_row w oo i _ _ _ hcuro] at hc
    exact hc
end Go.Proofs.Ytpecepfnmkpmmaa
