/- kinkeepref04.Reduce. -/
import Derived.Test.YtchhfpaicdhjbaaMt
import Derived.Test.YtchhfpaicdhjbaaTailB
import Derived.Test.YtchhfpaicdhjbaaMka
namespace Go.Proofs.Ytchhfpaicdhjbaa
open Go.RowKit Go.Kin Mat
open Fq (sum)
set_option maxRecDepth 100000
set_option linter.unusedVariables false

theorem nodup_of_inj {l : List Nat} (h : ∀ (a b x : Nat), l[a]? = some x → l[b]? = some x → a = b) : l.Nodup := by
  unfold List.Nodup
  rw [List.pairwise_iff_getElem]
  intro i j hi hj hij e
  have := h i j l[i] (List.getElem?_eq_getElem hi) (by rw [e]; exact List.getElem?_eq_getElem hj)
  omega
theorem inj_of_nodup {l : List Nat} (h : l.Nodup) {a b x : Nat} (ha : l[a]? = some x) (hb : l[b]? = some x) : a = b := by
  unfold List.Nodup at h
  rw [List.pairwise_iff_getElem] at h
  obtain ⟨h1, e1⟩ := List.getElem?_eq_some_iff.1 ha
  obtain ⟨h2, e2⟩ := List.getElem?_eq_some_iff.1 hb
  rcases Nat.lt_trichotomy a b with h3 | h3 | h3
  · exact absurd (e1.trans e2.symm) (h a b h1 h2 h3)
  · exact h3
  · exact absurd (e2.trans e1.symm) (h b a h2 h1 h3)
/-- Places i and j exchanged. -/
def sw (i j t : Nat) : Nat := if t = i then j else if t = j then i else t
theorem sw_inj {i j a b : Nat} (h : sw i j a = sw i j b) : a = b := by unfold sw at h; (repeat' split at h) <;> omega
theorem swapR_sw (f : Mat) (i j t : Nat) : swapR f i j t = f (sw i j t) := by
  unfold swapR sw
  by_cases h1 : t = i
  · rw [if_pos h1, if_pos h1]
  · rw [if_neg h1, if_neg h1]
    by_cases h2 : t = j
    · rw [if_pos h2, if_pos h2]
    · rw [if_neg h2, if_neg h2]

theorem MatB.hd {w : World} {B o n c k : Nat} {f : Mat} {G : List Nat} (h3 : Own vh B 34 w (some ⟨o, 0, none⟩) n c (G.map (hdr k))) {i g : Nat} (hg : w.cell? ⟨o, i, none⟩ = some (.slice (some ⟨g, 0, none⟩) k k)) (hi : i < n) : G[i]? = some g := by
  have hlen := h3.len
  rw [List.length_map] at hlen
  have hx := List.getElem?_eq_getElem (show i < G.length by omega)
  obtain ⟨o2, ho, _, hc, _⟩ := h3.cell (i := i) (x := hdr k G[i]) (by rw [List.getElem?_map, hx]; rfl)
  cases ho
  rw [hg] at hc
  unfold vh hdr at hc
  simp only [Option.some.injEq, Value.slice.injEq, Addr.mk.injEq] at hc
  rw [hx, ← hc.1.1]
theorem MatB.swap {w : World} {B o n c k : Nat} {f : Mat} (h : MatB w B (some ⟨o, 0, none⟩) n c k f) {i j gi gj : Nat} (hi : i < n) (hj : j < n)
    (hgi : w.cell? ⟨o, i, none⟩ = some (.slice (some ⟨gi, 0, none⟩) k k)) (hgj : w.cell? ⟨o, j, none⟩ = some (.slice (some ⟨gj, 0, none⟩) k k)) :
    MatB ((w.setCell ⟨o, i, none⟩ (.slice (some ⟨gj, 0, none⟩) k k)).setCell ⟨o, j, none⟩ (.slice (some ⟨gi, 0, none⟩) k k)) B (some ⟨o, 0, none⟩) n c k (swapR f i j) := by
  obtain ⟨G, h1, h2, h3, h4⟩ := h
  have ei := MatB.hd (f := f) h3 hgi hi
  have ej := MatB.hd (f := f) h3 hgj hj
  have hlen := h3.len
  rw [List.length_map] at hlen
  have hG : ∀ t, ((G.set i gj).set j gi)[t]? = G[sw i j t]? := by
    intro t
    rw [List.getElem?_set, List.getElem?_set, List.length_set]
    unfold sw
    by_cases e1 : j = t
    · subst e1
      rw [if_pos rfl, if_pos (by omega)]
      by_cases e2 : j = i
      · rw [if_pos e2, ej]
        subst e2
        rw [ei] at ej; exact ej
      · rw [if_neg e2, if_pos rfl, ei]
    · rw [if_neg e1]
      by_cases e2 : i = t
      · rw [if_pos e2, if_pos (by omega), if_pos (by omega), ej]
      · rw [if_neg e2, if_neg (fun h => e2 h.symm), if_neg (fun h => e1 h.symm)]
  obtain ⟨o2, ho, _, _, _, cur, hcur⟩ := h3.cell (i := i) (x := hdr k gi) (by rw [List.getElem?_map, ei]; rfl)
  cases ho
  refine ⟨(G.set i gj).set j gi, nodup_of_inj fun a b x ha hb => ?_, fun g hg => ?_, ?_, fun t g hg => ?_⟩
  · rw [hG] at ha hb
    exact sw_inj (inj_of_nodup h1 ha hb)
  · obtain ⟨t, ht⟩ := List.mem_iff_getElem?.1 hg
    rw [hG] at ht
    exact h2 g (List.mem_of_getElem? ht)
  · have := (h3.set i (hdr k gj)).set j (hdr k gi)
    rw [List.map_set, List.map_set]
    exact this
  · rw [hG] at hg
    rw [swapR_sw]
    have hb := h4 _ g hg
    have hne : g ≠ o := fun e => by
      subst e
      unfold Blk at hb
      rw [hcur] at hb
      cases hb
    exact (hb.other ⟨o, i, none⟩ _ hne).other ⟨o, j, none⟩ _ hne
theorem MatB.wrote {w w' : World} {B o n c k g : Nat} {f : Mat} {u : Nat → Fq} (h : MatB w B (some ⟨o, 0, none⟩) n c k f) {i : Nat} (hi : i < n)
    (hgi : w.cell? ⟨o, i, none⟩ = some (.slice (some ⟨g, 0, none⟩) k k)) (hw : Wrote w g (row vb (mrow k u)) 5 w') : MatB w' B (some ⟨o, 0, none⟩) n c k (setRow f i u) := by
  obtain ⟨G, h1, h2, h3, h4⟩ := h
  have ei := MatB.hd (f := f) h3 hgi hi
  have hb := h4 i g ei
  obtain ⟨o2, ho, _, _, _, cur, hcur⟩ := h3.cell (i := i) (x := hdr k g) (by rw [List.getElem?_map, ei]; rfl)
  cases ho
  have hne : o ≠ g := fun e => by
    subst e
    unfold Blk at hb
    rw [hcur] at hb
    cases hb
  refine ⟨G, h1, h2, ?_, fun t g' hg' => ?_⟩
  · obtain ⟨hl, h5 | ⟨g2, cur2, e, hB1, hg2, r⟩⟩ := h3
    · cases h5.1
    · cases e
      exact ⟨hl, .inr ⟨_, cur2, rfl, hB1, (hw.other _ hne).trans hg2, r⟩⟩
  · by_cases e : t = i
    · subst e
      rw [ei] at hg'
      cases hg'
      rw [Mat.setRow_same]
      exact hw.row
    · rw [Mat.setRow_other _ _ e]
      have hgg : g' ≠ g := fun e2 => by subst e2; exact e (inj_of_nodup h1 hg' ei)
      exact (hw.other _ hgg).trans (h4 t g' hg')

theorem tiu : (3 : TypeId) ≠ 5 := by decide
/-- The matrix, the pivots, and the world that came in. -/
def RS (w wr : World) (oa : Option Addr) (oc n k : Nat) (R : Mat) (pa : Option Addr) (m pc : Nat) (P : List Int) : Prop :=
  MatB wr w.heap.size oa n oc k R ∧ Own vi w.heap.size 3 wr pa m pc P ∧ Below w.heap.size w wr
theorem RS.drew {w wr : World} {oa : Option Addr} {oc n k : Nat} {R : Mat} {pa : Option Addr} {m pc : Nat} {P : List Int} (h : RS w wr oa oc n k R pa m pc P) : RS w wr.drew oa oc n k R pa m pc P :=
  ⟨h.1.drew, h.2.1.fw (below_refl wr).drew, h.2.2.drew⟩
theorem RS.congr {w wr : World} {oa : Option Addr} {oc n k : Nat} {R S : Mat} {pa : Option Addr} {m pc : Nat} {P : List Int} (h : RS w wr oa oc n k R pa m pc P) (hh : ∀ i j, i < n → j < k → R i j = S i j) : RS w wr oa oc n k S pa m pc P :=
  ⟨h.1.congr hh, h.2.1, h.2.2⟩
theorem RS.at {w wr : World} {oa : Option Addr} {oc n k : Nat} {R : Mat} {pa : Option Addr} {m pc : Nat} {P : List Int} (h : RS w wr oa oc n k R pa m pc P) {i : Nat} (hi : i < n) :
    ∃ o g, oa = some ⟨o, 0, none⟩ ∧ w.heap.size ≤ g ∧ wr.cell? ⟨o, i, none⟩ = some (.slice (some ⟨g, 0, none⟩) k k) ∧ Blk vb 5 wr g (mrow k (R i)) ∧
      (∀ (j v : Nat), v < 256 → RS w (wr.setCell ⟨g, j, none⟩ (.int .u8 (v : Int))) oa oc n k (setEl R i j (Fq.of v)) pa m pc P) := by
  obtain ⟨o, g, ho, hBo, hBg, c1, hK, hset⟩ := h.1.at hi
  exact ⟨o, g, ho, hBg, c1, hK, fun j v hv => ⟨hset j v hv, h.2.1.otherT (p := ⟨g, j, none⟩) hK tiu _, h.2.2.setCell (p := ⟨g, j, none⟩) hBg _⟩⟩
/-- An element that is read. -/
theorem RS.el {w wr : World} {oa : Option Addr} {oc n k : Nat} {R : Mat} {pa : Option Addr} {m pc : Nat} {P : List Int} (h : RS w wr oa oc n k R pa m pc P) {i j : Nat} (hi : i < n) (hj : j < k) {x : Nat} (hx : x = (R i j).n) :
    ∃ o g, oa = some ⟨o, 0, none⟩ ∧ w.heap.size ≤ g ∧ wr.cell? ⟨o, i, none⟩ = some (.slice (some ⟨g, 0, none⟩) k k) ∧ wr.cell? ⟨g, j, none⟩ = some (.int .u8 (x : Int)) ∧ wr.frozen? ⟨g, j, none⟩ = false ∧
      (∀ (v : Nat), v < 256 → RS w (wr.setCell ⟨g, j, none⟩ (.int .u8 (v : Int))) oa oc n k (setEl R i j (Fq.of v)) pa m pc P) := by
  obtain ⟨o, g, ho, hBg, c1, hK, hset⟩ := h.at hi
  refine ⟨o, g, ho, hBg, c1, ?_, hK.frozen j, fun v hv => hset j v hv⟩
  have := hK.cell (mrow_get _ hj)
  rw [← hx] at this
  exact this

/-- Row top scaled up to column q. -/
def scTo (R : Mat) (top : Nat) (v : Fq) (q : Nat) : Mat := setRow R top fun x => if x < q then v * R top x else R top x
theorem scTo_zero (R : Mat) (top : Nat) (v : Fq) (i j : Nat) : R i j = scTo R top v 0 i j := by
  unfold scTo Mat.setRow
  by_cases h : i = top
  · rw [if_pos h, if_neg (by omega), h]
  · rw [if_neg h]
theorem scTo_step (R : Mat) (top : Nat) (v : Fq) (q i j : Nat) : setEl (scTo R top v q) top q (v * R top q) i j = scTo R top v (q + 1) i j := by
  unfold setEl scTo Mat.setRow
  by_cases h : i = top ∧ j = q
  · rw [if_pos h, if_pos h.1, if_pos (by omega), h.2]
  · rw [if_neg h]
    by_cases h1 : i = top
    · rw [if_pos h1, if_pos h1]
      by_cases h2 : j < q
      · rw [if_pos h2, if_pos (by omega)]
      · rw [if_neg h2, if_neg (by omega)]
    · rw [if_neg h1, if_neg h1]
theorem scTo_at (R : Mat) (top : Nat) (v : Fq) (q : Nat) : scTo R top v q top q = R top q := by
  unfold scTo; rw [Mat.setRow_same, if_neg (by omega)]
/-- Row i cleared up to column q, the rows ahead of it whole. -/
def clTo (R : Mat) (top : Nat) (g : Nat → Fq) (i q : Nat) : Mat := setRow (clearTo R top g i) i fun x => if x < q then R i x + g i * R top x else R i x
theorem clTo_zero (R : Mat) (top : Nat) (g : Nat → Fq) (i a b : Nat) : clearTo R top g i a b = clTo R top g i 0 a b := by
  unfold clTo Mat.setRow
  by_cases h : a = i
  · rw [if_pos h, if_neg (by omega), h]
    unfold clearTo; rw [if_neg (by omega)]
  · rw [if_neg h]
theorem clTo_step (R : Mat) (top : Nat) (g : Nat → Fq) (i q a b : Nat) : setEl (clTo R top g i q) i q (R i q + g i * R top q) a b = clTo R top g i (q + 1) a b := by
  unfold setEl clTo Mat.setRow
  by_cases h : a = i ∧ b = q
  · rw [if_pos h, if_pos h.1, if_pos (by omega), h.2]
  · rw [if_neg h]
    by_cases h1 : a = i
    · rw [if_pos h1, if_pos h1]
      by_cases h2 : b < q
      · rw [if_pos h2, if_pos (by omega)]
      · rw [if_neg h2, if_neg (by omega)]
    · rw [if_neg h1, if_neg h1]
theorem clTo_done (R : Mat) (top : Nat) (g : Nat → Fq) {i k : Nat} (hi : i ≠ top) (a b : Nat) (hb : b < k) : clTo R top g i k a b = clearTo R top g (i + 1) a b := by
  unfold clTo Mat.setRow clearTo
  by_cases h1 : a = i
  · rw [if_pos h1, if_pos hb, if_pos (by omega), h1]
  · rw [if_neg h1]
    by_cases h2 : a < i ∧ a ≠ top
    · rw [if_pos h2, if_pos (by omega)]
    · rw [if_neg h2, if_neg (by omega)]
theorem clTo_top (R : Mat) (top : Nat) (g : Nat → Fq) (a b : Nat) : clearTo R top g top a b = clearTo R top g (top + 1) a b := by
  unfold clearTo
  by_cases h2 : a < top ∧ a ≠ top
  · rw [if_pos h2, if_pos (by omega)]
  · rw [if_neg h2, if_neg (by omega)]
theorem clTo_at (R : Mat) (top : Nat) (g : Nat → Fq) (i q : Nat) : clTo R top g i q i q = R i q := by unfold clTo; rw [Mat.setRow_same, if_neg (by omega)]
theorem clTo_top_at (R : Mat) (top : Nat) (g : Nat → Fq) {i : Nat} (hi : i ≠ top) (q x : Nat) : clTo R top g i q top x = R top x := by
  unfold clTo; rw [Mat.setRow_other _ _ (fun e => hi e.symm)]; unfold clearTo; rw [if_neg (by omega)]
theorem clearTo_at (R : Mat) (top : Nat) (g : Nat → Fq) (i x : Nat) : clearTo R top g i i x = R i x := by unfold clearTo; rw [if_neg (by omega)]
theorem clear_all (S : Mat) (top col n : Nat) (i b : Nat) (hi : i < n) : clearTo (setRow S top fun x => Fq.inv (S top col) * S top x) top (fun i => S i col) n i b = clearR S top col i b := by
  unfold clearTo clearR
  by_cases e : i = top
  · rw [if_neg (by omega), if_pos e, e, Mat.setRow_same]
  · rw [if_pos ⟨hi, e⟩, if_neg e, Mat.setRow_other _ _ e, Mat.setRow_same]
theorem scTo_all (R : Mat) (top : Nat) (v : Fq) (k i j : Nat) (hj : j < k) : scTo R top v k i j = setRow R top (fun x => v * R top x) i j := by
  unfold scTo Mat.setRow
  by_cases h : i = top
  · rw [if_pos h, if_pos h, if_pos hj]
  · rw [if_neg h, if_neg h]
end Go.Proofs.Ytchhfpaicdhjbaa
