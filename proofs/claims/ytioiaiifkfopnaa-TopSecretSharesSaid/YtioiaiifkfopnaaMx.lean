/- Slices of slices of bytes: read; the call's own, with rows that are written in place; the call's own, with rows that are only replaced. -/
import Derived.Test.YtioiaiifkfopnaaKitR
import Derived.Test.YtioiaiifkfopnaaGfB
import Derived.Test.YtioiaiifkfopnaaElim
import Derived.Test.YtioiaiifkfopnaaChecked
namespace Mat
open Gf (Byt)
def mrow (k : Nat) (f : Nat → Fq) : List Nat := (List.range k).map fun c => (f c).n
theorem mrow_length (k : Nat) (f : Nat → Fq) : (mrow k f).length = k := by simp [mrow]
theorem mrow_get {k : Nat} (f : Nat → Fq) {c : Nat} (h : c < k) : (mrow k f)[c]? = some (f c).n := by simp [mrow, h]
theorem mrow_byt (k : Nat) (f : Nat → Fq) : Byt (mrow k f) := by
  intro x hx
  obtain ⟨c, _, rfl⟩ := List.mem_map.1 hx
  exact (f c).h
theorem mrow_congr {k : Nat} {f g : Nat → Fq} (h : ∀ c, c < k → f c = g c) : mrow k f = mrow k g :=
  List.map_congr_left fun c hc => by rw [h c (by simpa using hc)]
theorem mrow_inj {k : Nat} {f g : Nat → Fq} (h : mrow k f = mrow k g) {c : Nat} (hc : c < k) : f c = g c := by
  have := mrow_get f hc
  rw [h, mrow_get g hc] at this
  exact Fq.ext (by simpa using this.symm)
theorem mrow_zero (k : Nat) : List.replicate k 0 = mrow k fun _ => 0 := by
  apply List.ext_getElem?
  intro i
  rw [List.getElem?_replicate]
  by_cases h : i < k
  · rw [if_pos h, mrow_get _ h]; rfl
  · rw [if_neg h, List.getElem?_eq_none (by rw [mrow_length]; omega)]
theorem mrow_of {l : List Nat} {k : Nat} (hk : l.length = k) (hl : Byt l) : l = mrow k fun c => Fq.of (l.getD c 0) := by
  apply List.ext_getElem?
  intro i
  by_cases h : i < k
  · have hx := List.getElem?_eq_getElem (show i < l.length by omega)
    rw [mrow_get _ h, List.getD_eq_getElem?_getD, hx]
    simp only [Option.getD_some]
    rw [Fq.of_n (hl.at hx)]
  · rw [List.getElem?_eq_none (by omega), List.getElem?_eq_none (by rw [mrow_length]; omega)]
theorem mrow_set {k : Nat} (f : Nat → Fq) (j : Nat) {v : Nat} (hv : v < 256) : (mrow k f).set j v = mrow k fun c => if c = j then Fq.of v else f c := by
  apply List.ext_getElem?
  intro i
  rw [List.getElem?_set, mrow_length]
  by_cases h : i < k
  · rw [mrow_get (fun c => if c = j then Fq.of v else f c) h]
    by_cases e : j = i
    · subst e
      show (if j = j then if j < k then some v else none else _) = some (if j = j then Fq.of v else f j).n
      rw [if_pos rfl, if_pos h, if_pos rfl, Fq.of_n hv]
    · show _ = some (if i = j then Fq.of v else f i).n
      rw [if_neg e, if_neg (fun h2 => e (Eq.symm h2)), mrow_get _ h]
  · rw [List.getElem?_eq_none (show (mrow k fun c => if c = j then Fq.of v else f c).length ≤ i by rw [mrow_length]; omega)]
    split
    · split <;> first | rfl | omega
    · exact List.getElem?_eq_none (by rw [mrow_length]; omega)
theorem mrow_scale (k : Nat) (f : Nat → Fq) {a : Nat} (ha : a < 256) : (mrow k f).map (Gf.mul a) = mrow k fun c => Fq.of a * f c := by
  unfold mrow
  rw [List.map_map]
  refine List.map_congr_left fun c _ => ?_
  show Gf.mul a (f c).n = (Fq.of a * f c).n
  rw [Fq.mul_n, Fq.of_n ha]

def mlist (r k : Nat) (f : Mat) : List (List Nat) := (List.range r).map fun i => mrow k (f i)
theorem mlist_length (r k : Nat) (f : Mat) : (mlist r k f).length = r := by simp [mlist]
theorem mlist_get {r k : Nat} (f : Mat) {i : Nat} (h : i < r) : (mlist r k f)[i]? = some (mrow k (f i)) := by simp [mlist, h]
theorem mlist_congr {r k : Nat} {f g : Mat} (h : ∀ i c, i < r → c < k → f i c = g i c) : mlist r k f = mlist r k g :=
  List.map_congr_left fun i hi => mrow_congr fun c hc => h i c (by simpa using hi) hc
theorem mlist_inj {r k : Nat} {f g : Mat} (h : mlist r k f = mlist r k g) {i c : Nat} (hi : i < r) (hc : c < k) : f i c = g i c := by
  have := mlist_get (k := k) f hi
  rw [h, mlist_get g hi] at this
  exact (mrow_inj (by simpa using this) hc).symm
theorem mlist_byt {r k : Nat} {f : Mat} : ∀ m ∈ mlist r k f, Byt m := by
  intro m hm
  obtain ⟨i, _, rfl⟩ := List.mem_map.1 hm
  exact mrow_byt _ _
/-- The elements of a list of rows. -/
def fnOf (M : List (List Nat)) : Mat := fun i c => Fq.of ((M.getD i []).getD c 0)
theorem mlist_fnOf {M : List (List Nat)} {r k : Nat} (hr : M.length = r) (hk : ∀ m ∈ M, m.length = k) (hb : ∀ m ∈ M, Byt m) : M = mlist r k (fnOf M) := by
  apply List.ext_getElem?
  intro i
  by_cases h : i < r
  · have hx := List.getElem?_eq_getElem (show i < M.length by omega)
    have hm := List.mem_of_getElem? hx
    rw [mlist_get _ h, hx]
    congr 1
    conv => lhs; rw [mrow_of (hk _ hm) (hb _ hm)]
    refine mrow_congr fun c _ => ?_
    unfold fnOf
    rw [List.getD_eq_getElem?_getD (l := M), hx]; rfl
  · rw [List.getElem?_eq_none (by omega), List.getElem?_eq_none (by rw [mlist_length]; omega)]
/-- The number of columns. -/
def colsL (M : List (List Nat)) : Nat := (M.getD 0 []).length
/-- P4.1. -/
def ValidL (M : List (List Nat)) : Prop := M.length ≤ 64 ∧ colsL M ≤ 64 ∧ ∀ m ∈ M, m.length = colsL M
instance (M : List (List Nat)) : Decidable (ValidL M) := by unfold ValidL; infer_instance
theorem colsL_mlist {r k : Nat} (f : Mat) (hr : 0 < r) : colsL (mlist r k f) = k := by
  unfold colsL
  rw [List.getD_eq_getElem?_getD, mlist_get f hr]
  exact mrow_length _ _
theorem colsL_zero (k : Nat) (f : Mat) : colsL (mlist 0 k f) = 0 := rfl
/-- One element replaced. -/
def setEl (f : Mat) (i j : Nat) (x : Fq) : Mat := fun a b => if a = i ∧ b = j then x else f a b
end Mat

namespace Go.Kin
open Go.RowKit
/-- A slice's header. -/
def vh (t : Option Addr × Nat × Nat) : Value := .slice t.1 t.2.1 t.2.2
theorem vh_one (t : Option Addr × Nat × Nat) : (vh t).oneCell' = true := rfl

/-- The slice at a reads as the list of rows M. -/
def RdM (w : World) (a : Option Addr) (n c : Nat) (M : List (List Nat)) : Prop :=
  ∃ L, Rd vh w a n c L ∧ M.length = n ∧ ∀ (i : Nat) (h : Option Addr × Nat × Nat) (m : List Nat), L[i]? = some h → M[i]? = some m → Rd vb w h.1 h.2.1 h.2.2 m
theorem RdM.len {w : World} {a : Option Addr} {n c : Nat} {M : List (List Nat)} (h : RdM w a n c M) : M.length = n := by obtain ⟨_, _, h, _⟩ := h; exact h
theorem RdM.cap {w : World} {a : Option Addr} {n c : Nat} {M : List (List Nat)} (h : RdM w a n c M) : n ≤ c := by obtain ⟨_, h, _⟩ := h; exact h.cap
theorem RdM.max {w : World} {a : Option Addr} {n c : Nat} {M : List (List Nat)} (h : RdM w a n c M) : c ≤ maxLen := by obtain ⟨_, h, _⟩ := h; exact h.max
theorem RdM.lim {w : World} {a : Option Addr} {n c : Nat} {M : List (List Nat)} (h : RdM w a n c M) : n ≤ 9223372036854775807 := by have := h.cap; have := h.max; unfold maxLen at *; omega
theorem RdM.fw {w w' : World} {a : Option Addr} {n c : Nat} {M : List (List Nat)} (h : RdM w a n c M) (hb : Below w.heap.size w w') : RdM w' a n c M := by
  obtain ⟨L, h1, h2, h3⟩ := h
  exact ⟨L, h1.fw hb, h2, fun i h m hi hm => (h3 i h m hi hm).fw hb⟩
theorem RdM.fw2 {w w' : World} {a : Option Addr} {n c : Nat} {M : List (List Nat)} (hb : Below w.heap.size w w') (h : RdM w a n c M) : RdM w' a n c M := h.fw hb
theorem RdM.alloc {w : World} {a : Option Addr} {n c : Nat} {M : List (List Nat)} (o : Obj) (h : RdM w a n c M) : RdM (w.alloc o) a n c M := h.fw ((Below.refl _ _).alloc (Nat.le_refl _) o)
theorem RdM.row {w : World} {a : Option Addr} {n c : Nat} {M : List (List Nat)} (h : RdM w a n c M) {i : Nat} (hi : i < n) :
    ∃ (m : List Nat) (ra : Option Addr) (rn rc b o : Nat), M[i]? = some m ∧ a = some ⟨b, o, none⟩ ∧ w.cell? ⟨b, o + i, none⟩ = some (.slice ra rn rc) ∧ Rd vb w ra rn rc m := by
  obtain ⟨L, h1, h2, h3⟩ := h
  have hx := List.getElem?_eq_getElem (show i < M.length by omega)
  have hy := List.getElem?_eq_getElem (show i < L.length by rw [h1.len]; exact hi)
  obtain ⟨b, o, ha, hc⟩ := h1.cell i _ hy
  exact ⟨_, _, _, _, b, o, hx, ha, hc, h3 i _ _ hy hx⟩
theorem nodup_snoc' {l : List Nat} {x : Nat} (h : l.Nodup) (hx : x ∉ l) : (l ++ [x]).Nodup := by
  rw [List.nodup_append]
  exact ⟨h, by simp, fun a ha b hb => by simp at hb; intro e; subst e; subst hb; exact hx ha⟩
theorem RdM.nil (w : World) : RdM w none 0 0 [] := ⟨[], Rd.nil _ _, rfl, fun i h m hi _ => by simp at hi⟩

theorem Own.otherT {α : Type} {f : α → Value} {B : Nat} {E E' : TypeId} {w : World} {a : Option Addr} {n c : Nat} {l : List α} {cur : Array Value} {p : Addr} (h : Own f B E w a n c l) (hp : w.heap[p.block]? = some (.cells cur E' (0, 0))) (hE : E ≠ E') (v : Value) : Own f B E (w.setCell p v) a n c l := by
  obtain ⟨hl, h | ⟨g, cur2, rfl, hB1, hg, r⟩⟩ := h
  · exact ⟨hl, .inl h⟩
  · refine ⟨hl, .inr ⟨g, cur2, rfl, hB1, ?_, r⟩⟩
    rw [Below.heap_setCell _ _ _ _ (fun e => hE ?_)]
    · exact hg
    · rw [← e, hg] at hp; cases hp; rfl
theorem Blk.ne {α β : Type} {f : α → Value} {f' : β → Value} {E E' : TypeId} {w : World} {g g' : Nat} {l : List α} {l' : List β} (h : Blk f E w g l) (h' : Blk f' E' w g' l') (hE : E ≠ E') : g ≠ g' := by
  rintro rfl
  unfold Blk at h h'
  rw [h] at h'
  simp only [Option.some.injEq, Obj.cells.injEq] at h'
  exact hE h'.2.1
theorem own_ne_blk {α β : Type} {f : α → Value} {f' : β → Value} {B : Nat} {E E' : TypeId} {w : World} {a : Option Addr} {n c g : Nat} {l : List α} {l' : List β} (h : Own f B E w a n c l) (h' : Blk f' E' w g l') (hE : E ≠ E') : some g ≠ (Value.slice a n c).ownBlock := by
  obtain ⟨hl, h | ⟨g2, cur2, rfl, hB1, hg, r⟩⟩ := h
  · rw [h.1]; intro e; cases e
  · intro e
    have e2 : g = g2 := by simpa [Value.ownBlock] using e
    subst e2
    unfold Blk at h'
    rw [hg] at h'
    cases h'
    exact hE rfl
theorem own_ne_own {α β : Type} {f : α → Value} {f' : β → Value} {B B' : Nat} {E E' : TypeId} {w : World} {a a' : Option Addr} {n c n' c' : Nat} {l : List α} {l' : List β} (h : Own f B E w a n c l) (h' : Own f' B' E' w a' n' c' l') (hE : E ≠ E') (p : Nat) (hp : a' = some ⟨p, 0, none⟩) : some p ≠ (Value.slice a n c).ownBlock := by
  obtain ⟨hl, h | ⟨g2, cur2, rfl, hB1, hg, r⟩⟩ := h
  · rw [h.1]; intro e; cases e
  · intro e
    have e2 : p = g2 := by simpa [Value.ownBlock] using e
    subst e2
    obtain ⟨_, h' | ⟨g3, cur3, h3, _, hg3, _⟩⟩ := h'
    · rw [h'.1] at hp; cases hp
    · rw [hp] at h3
      cases h3
      rw [hg] at hg3
      cases hg3
      exact hE rfl
/-- What is owned by another type stays, behind an append. -/
theorem Own.grownT {α β : Type} {f : α → Value} {f' : β → Value} {B B' : Nat} {E E' : TypeId} {w w' : World} {a a' : Option Addr} {n c n' c' : Nat} {l : List α} {l' : List β} (h : Own f B E w a n c l) (h' : Own f' B' E' w a' n' c' l') (hE : E ≠ E') (hg : w.grownBy w' (Value.slice a' n' c').ownBlock) : Own f B E w' a n c l := by
  obtain ⟨hl, h1 | ⟨g, cur, rfl, hB1, hgr, r⟩⟩ := h
  · exact ⟨hl, .inl h1⟩
  · refine ⟨hl, .inr ⟨g, cur, rfl, hB1, ?_, r⟩⟩
    have hlt := (Array.getElem?_eq_some_iff.1 hgr).1
    rw [hg.block g hlt (own_ne_own h' ⟨hl, .inr ⟨g, cur, rfl, hB1, hgr, r⟩⟩ (fun e => hE e.symm) g rfl)]
    exact hgr
theorem Blk.grownT {α β : Type} {f : α → Value} {f' : β → Value} {B' : Nat} {E E' : TypeId} {w w' : World} {a' : Option Addr} {g n' c' : Nat} {l : List α} {l' : List β} (h : Blk f E w g l) (h' : Own f' B' E' w a' n' c' l') (hE : E ≠ E') (hg : w.grownBy w' (Value.slice a' n' c').ownBlock) : Blk f E w' g l :=
  (hg.block g h.lt (own_ne_blk h' h (fun e => hE e.symm))).trans h
/-- A store into a slice of the call's own. -/
theorem Own.set {α : Type} {f : α → Value} {B : Nat} {E : TypeId} {w : World} {g n c : Nat} {l : List α} (h : Own f B E w (some ⟨g, 0, none⟩) n c l) (i : Nat) (x : α) : Own f B E (w.setCell ⟨g, i, none⟩ (f x)) (some ⟨g, 0, none⟩) n c (l.set i x) := by
  obtain ⟨hl, h | ⟨g2, cur, e, hB1, hg, hnc, hm, hs, ht⟩⟩ := h
  · cases h.1
  · cases e
    refine ⟨by rw [List.length_set]; exact hl, .inr ⟨g, cur.setIfInBounds i (f x), rfl, hB1, heap_setCell_same w g i _ E _ hg, hnc, hm, by simpa using hs, ?_⟩⟩
    rw [Array.toList_setIfInBounds, List.map_set, ← ht, List.take_set]
theorem Own.cell {α : Type} {f : α → Value} {B : Nat} {E : TypeId} {w : World} {a : Option Addr} {n c : Nat} {l : List α} (h : Own f B E w a n c l) {i : Nat} {x : α} (hx : l[i]? = some x) : ∃ g, a = some ⟨g, 0, none⟩ ∧ B ≤ g ∧ w.cell? ⟨g, i, none⟩ = some (f x) ∧ w.frozen? ⟨g, i, none⟩ = false ∧ ∃ cur, w.heap[g]? = some (.cells cur E (0, 0)) := by
  have hi : i < n := by rw [← h.len]; exact (List.getElem?_eq_some_iff.1 hx).1
  obtain ⟨b, o, ha, hc⟩ := h.rd.cell i x hx
  obtain ⟨hl, h | ⟨g2, cur, e, hB1, hg, r⟩⟩ := h
  · rw [h.1] at ha; cases ha
  · rw [e] at ha
    cases ha
    rw [Nat.zero_add] at hc
    exact ⟨_, e, hB1, hc, frozen_of_row w _ i _ _ hg, cur, hg⟩
end Go.Kin

namespace Go.Proofs.Ytioiaiifkfopnaa
open Go.RowKit Go.Kin Mat
set_option maxRecDepth 100000

/-- The header of a whole block. -/
def hdr (k g : Nat) : Option Addr × Nat × Nat := (some ⟨g, 0, none⟩, k, k)

theorem tt : (23 : TypeId) ≠ 5 := by decide
theorem tt' : (5 : TypeId) ≠ 23 := by decide

/-- A matrix of the call's own: each row a block of its own. -/
def MatB (w : World) (B : Nat) (a : Option Addr) (n c k : Nat) (f : Mat) : Prop :=
  ∃ G : List Nat, G.Nodup ∧ (∀ g ∈ G, B ≤ g) ∧ Own vh B 23 w a n c (G.map (hdr k)) ∧ ∀ i g, G[i]? = some g → Blk vb 5 w g (mrow k (f i))
theorem MatB.fw {w w' : World} {B : Nat} {a : Option Addr} {n c k : Nat} {f : Mat} (h : MatB w B a n c k f) (hb : Below w.heap.size w w') : MatB w' B a n c k f := by
  obtain ⟨G, h1, h2, h3, h4⟩ := h
  exact ⟨G, h1, h2, h3.fw hb, fun i g hg => (h4 i g hg).fw hb⟩
theorem MatB.mono {w : World} {B B' : Nat} {a : Option Addr} {n c k : Nat} {f : Mat} (h : MatB w B a n c k f) (hB : B' ≤ B) : MatB w B' a n c k f := by
  obtain ⟨G, h1, h2, h3, h4⟩ := h
  exact ⟨G, h1, fun g hg => Nat.le_trans hB (h2 g hg), h3.mono hB, h4⟩
theorem MatB.congr {w : World} {B : Nat} {a : Option Addr} {n c k : Nat} {f g : Mat} (h : MatB w B a n c k f) (hfg : ∀ i j, i < n → j < k → f i j = g i j) : MatB w B a n c k g := by
  obtain ⟨G, h1, h2, h3, h4⟩ := h
  refine ⟨G, h1, h2, h3, fun i x hx => ?_⟩
  have hi : i < n := by
    have := (List.getElem?_eq_some_iff.1 hx).1
    have := h3.len
    rw [List.length_map] at this; omega
  rw [← mrow_congr fun c hc => hfg i c hi hc]; exact h4 i x hx
theorem MatB.rdm {w : World} {B : Nat} {a : Option Addr} {n c k : Nat} {f : Mat} (h : MatB w B a n c k f) (hk : k ≤ 9223372036854775807) : RdM w a n c (mlist n k f) := by
  obtain ⟨G, h1, h2, h3, h4⟩ := h
  refine ⟨_, h3.rd, mlist_length _ _ _, fun i h m hi hm => ?_⟩
  rw [List.getElem?_map] at hi
  cases hg : G[i]? with
  | none => rw [hg] at hi; cases hi
  | some g =>
    rw [hg] at hi
    cases hi
    have hlt := (List.getElem?_eq_some_iff.1 hm).1
    rw [mlist_length] at hlt
    rw [mlist_get f hlt] at hm
    cases hm
    exact (h4 i g hg).rdn (mrow_length _ _) (Nat.le_refl _) hk
/-- A row of such a matrix. -/
theorem MatB.at {w : World} {B : Nat} {a : Option Addr} {n c k : Nat} {f : Mat} (h : MatB w B a n c k f) {i : Nat} (hi : i < n) :
    ∃ o g, a = some ⟨o, 0, none⟩ ∧ B ≤ o ∧ B ≤ g ∧ w.cell? ⟨o, i, none⟩ = some (.slice (some ⟨g, 0, none⟩) k k) ∧ Blk vb 5 w g (mrow k (f i)) ∧
      (∀ (j v : Nat), v < 256 → MatB (w.setCell ⟨g, j, none⟩ (.int .u8 (v : Int))) B a n c k (setEl f i j (Fq.of v))) := by
  obtain ⟨G, h1, h2, h3, h4⟩ := h
  have hlen := h3.len
  rw [List.length_map] at hlen
  have hg := List.getElem?_eq_getElem (show i < G.length by omega)
  have hx : (G.map (hdr k))[i]? = some (hdr k G[i]) := by rw [List.getElem?_map, hg]; rfl
  obtain ⟨o, ha, hBo, hc, _, cur, hcur⟩ := h3.cell hx
  have hb := h4 i _ hg
  refine ⟨o, G[i], ha, hBo, h2 _ (List.mem_of_getElem? hg), hc, hb, fun j v hv => ?_⟩
  refine ⟨G, h1, h2, h3.otherT (p := ⟨G[i], j, none⟩) hb tt _, fun i' g' hg' => ?_⟩
  by_cases e : i' = i
  · subst e
    rw [hg] at hg'
    cases hg'
    have := hb.set j v
    rw [mrow_set _ _ hv] at this
    rw [mrow_congr (g := fun c => if c = j then Fq.of v else f i' c) fun c _ => by
      unfold setEl
      by_cases h : c = j
      · rw [if_pos ⟨rfl, h⟩, if_pos h]
      · rw [if_neg (fun h2 => h h2.2), if_neg h]]
    exact this
  · have hne : g' ≠ G[i] := by
      rintro rfl
      have hl := (List.getElem?_eq_some_iff.1 hg').1
      have he := (List.getElem?_eq_some_iff.1 hg').2
      exact e ((List.getElem_inj h1).1 he)
    rw [mrow_congr (g := f i') fun c _ => by unfold setEl; rw [if_neg (fun h2 => e h2.1)]]
    exact (h4 i' g' hg').other _ _ hne

/-- Rows that are only replaced. -/
def MatR (w : World) (B : Nat) (a : Option Addr) (n c k : Nat) (f : Mat) : Prop :=
  ∃ L : List (Option Addr × Nat × Nat), Own vh B 23 w a n c L ∧ ∀ i h, L[i]? = some h → Own vb 0 5 w h.1 h.2.1 h.2.2 (mrow k (f i))
theorem MatR.fw {w w' : World} {B : Nat} {a : Option Addr} {n c k : Nat} {f : Mat} (h : MatR w B a n c k f) (hb : Below w.heap.size w w') : MatR w' B a n c k f := by
  obtain ⟨L, h3, h4⟩ := h
  exact ⟨L, h3.fw hb, fun i g hg => (h4 i g hg).fw hb⟩
theorem MatR.mono {w : World} {B B' : Nat} {a : Option Addr} {n c k : Nat} {f : Mat} (h : MatR w B a n c k f) (hB : B' ≤ B) : MatR w B' a n c k f := by
  obtain ⟨L, h3, h4⟩ := h
  exact ⟨L, h3.mono hB, h4⟩
theorem MatR.len {w : World} {B : Nat} {a : Option Addr} {n c k : Nat} {f : Mat} (h : MatR w B a n c k f) : n ≤ 9223372036854775807 := by
  obtain ⟨L, h3, h4⟩ := h
  have := h3.rd.cap; have := h3.rd.max; unfold maxLen at *; omega
theorem MatB.r {w : World} {B : Nat} {a : Option Addr} {n c k : Nat} {f : Mat} (h : MatB w B a n c k f) (hk : k ≤ 9223372036854775807) : MatR w B a n c k f := by
  obtain ⟨G, h1, h2, h3, h4⟩ := h
  refine ⟨_, h3, fun i h hi => ?_⟩
  rw [List.getElem?_map] at hi
  cases hg : G[i]? with
  | none => rw [hg] at hi; cases hi
  | some g =>
    rw [hg] at hi
    cases hi
    have := (h4 i g hg).own (B := 0) (Nat.zero_le _) (by rw [mrow_length]; exact hk)
    rw [mrow_length] at this
    exact this
theorem MatR.rdm {w : World} {B : Nat} {a : Option Addr} {n c k : Nat} {f : Mat} (h : MatR w B a n c k f) : RdM w a n c (mlist n k f) := by
  obtain ⟨L, h3, h4⟩ := h
  refine ⟨_, h3.rd, mlist_length _ _ _, fun i h m hi hm => ?_⟩
  have hlt := (List.getElem?_eq_some_iff.1 hm).1
  rw [mlist_length] at hlt
  rw [mlist_get f hlt] at hm
  cases hm
  exact (h4 i h hi).rd
/-- A row of such a matrix, and what a new row makes of it. -/
theorem MatR.at {w : World} {B : Nat} {a : Option Addr} {n c k : Nat} {f : Mat} (h : MatR w B a n c k f) {i : Nat} (hi : i < n) :
    ∃ (o : Nat) (ra : Option Addr) (rc : Nat), a = some ⟨o, 0, none⟩ ∧ B ≤ o ∧ w.cell? ⟨o, i, none⟩ = some (.slice ra k rc) ∧ w.frozen? ⟨o, i, none⟩ = false ∧ Own vb 0 5 w ra k rc (mrow k (f i)) ∧ ∃ cur, w.heap[o]? = some (.cells cur 23 (0, 0)) := by
  obtain ⟨L, h3, h4⟩ := h
  have hlen := h3.len
  have hg := List.getElem?_eq_getElem (show i < L.length by omega)
  obtain ⟨o, ha, hBo, hc, hf, hcur⟩ := h3.cell hg
  have hr := h4 i _ hg
  have hk : L[i].2.1 = k := by have := hr.len; rw [mrow_length] at this; exact this.symm
  unfold vh at hc
  rw [hk] at hc hr
  exact ⟨o, L[i].1, L[i].2.2, ha, hBo, hc, hf, hr, hcur⟩
theorem MatR.set {w : World} {B : Nat} {o n c k : Nat} {f : Mat} (h : MatR w B (some ⟨o, 0, none⟩) n c k f) {i : Nat} (hi : i < n) {ra : Option Addr} {rc : Nat} {u : Nat → Fq} (hu : Own vb 0 5 w ra k rc (mrow k u)) :
    MatR (w.setCell ⟨o, i, none⟩ (.slice ra k rc)) B (some ⟨o, 0, none⟩) n c k (Mat.setRow f i u) := by
  obtain ⟨L, h3, h4⟩ := h
  have hlen := h3.len
  have hg := List.getElem?_eq_getElem (show i < L.length by omega)
  obtain ⟨o', ha, hBo, hc, hf, cur, hcur⟩ := h3.cell hg
  cases ha
  refine ⟨L.set i (ra, k, rc), h3.set i (ra, k, rc), fun i' h' hi' => ?_⟩
  rw [List.getElem?_set] at hi'
  by_cases e : i = i'
  · subst e
    rw [if_pos rfl, if_pos (by omega)] at hi'
    cases hi'
    rw [Mat.setRow_same]
    exact hu.otherT hcur tt' _
  · rw [if_neg e] at hi'
    rw [Mat.setRow_other _ _ (fun e2 => e (Eq.symm e2))]
    exact (h4 i' h' hi').otherT hcur tt' _
theorem MatR.congr {w : World} {B : Nat} {a : Option Addr} {n c k : Nat} {f g : Mat} (h : MatR w B a n c k f) (hfg : ∀ i j, i < n → j < k → f i j = g i j) : MatR w B a n c k g := by
  obtain ⟨L, h3, h4⟩ := h
  refine ⟨L, h3, fun i x hx => ?_⟩
  have hi : i < n := by
    have := (List.getElem?_eq_some_iff.1 hx).1
    have := h3.len; omega
  rw [← mrow_congr fun c hc => hfg i c hi hc]; exact h4 i x hx

theorem matB_push {w w' : World} {B : Nat} {a : Option Addr} {n c k : Nat} {f : Mat} {G : List Nat} (h1 : G.Nodup) (h2 : ∀ g ∈ G, B ≤ g) (h3 : Own vh B 23 w a n c (G.map (hdr k))) (h4 : ∀ i g, G[i]? = some g → Blk vb 5 w g (mrow k (f i)))
    {g : Nat} {u : Nat → Fq} (hu : Blk vb 5 w g (mrow k u)) (hB : B ≤ g) (hn : g ∉ G) {sa : Option Addr} {c' : Nat} (hown : Own vh B 23 w' sa (n + 1) c' (G.map (hdr k) ++ [hdr k g])) (hgr : w.grownBy w' (Value.slice a n c).ownBlock) :
    MatB w' B sa (n + 1) c' k (fun i => if i < n then f i else u) := by
  have hlen := h3.len
  rw [List.length_map] at hlen
  refine ⟨G ++ [g], nodup_snoc' h1 hn, fun x hx => ?_, by rw [List.map_append]; exact hown, fun i x hx => ?_⟩
  · rcases List.mem_append.1 hx with hx | hx
    · exact h2 x hx
    · rw [List.mem_singleton.1 hx]; exact hB
  · by_cases hi : i < n
    · rw [List.getElem?_append_left (by omega)] at hx
      show Blk _ _ _ _ (mrow k (if i < n then f i else u))
      rw [if_pos hi]
      exact (h4 i x hx).grownT h3 tt' hgr
    · rw [List.getElem?_append_right (by omega)] at hx
      have e : x = g := by
        rcases Nat.eq_zero_or_pos (i - G.length) with e | e
        · rw [e] at hx; simpa using hx.symm
        · rw [List.getElem?_eq_none (by simp; omega)] at hx; cases hx
      show Blk _ _ _ _ (mrow k (if i < n then f i else u))
      rw [if_neg hi, e]
      exact hu.grownT h3 tt' hgr
theorem matR_push {w w' : World} {B : Nat} {a : Option Addr} {n c k : Nat} {f : Mat} {L : List (Option Addr × Nat × Nat)} (h3 : Own vh B 23 w a n c L) (h4 : ∀ i h, L[i]? = some h → Own vb 0 5 w h.1 h.2.1 h.2.2 (mrow k (f i)))
    {ra : Option Addr} {rc : Nat} {u : Nat → Fq} (hu : Own vb 0 5 w ra k rc (mrow k u)) {sa : Option Addr} {c' : Nat} (hown : Own vh B 23 w' sa (n + 1) c' (L ++ [(ra, k, rc)])) (hgr : w.grownBy w' (Value.slice a n c).ownBlock) :
    MatR w' B sa (n + 1) c' k (fun i => if i < n then f i else u) := by
  have hlen := h3.len
  refine ⟨L ++ [(ra, k, rc)], hown, fun i x hx => ?_⟩
  by_cases hi : i < n
  · rw [List.getElem?_append_left (by omega)] at hx
    show Own _ _ _ _ _ _ _ (mrow k (if i < n then f i else u))
    rw [if_pos hi]
    exact (h4 i x hx).grownT h3 tt' hgr
  · rw [List.getElem?_append_right (by omega)] at hx
    have e : x = (ra, k, rc) := by
      rcases Nat.eq_zero_or_pos (i - L.length) with e | e
      · rw [e] at hx; simpa using hx.symm
      · rw [List.getElem?_eq_none (by simp; omega)] at hx; cases hx
    show Own _ _ _ _ _ _ _ (mrow k (if i < n then f i else u))
    rw [if_neg hi, e]
    exact hu.grownT h3 tt' hgr
theorem MatB.nil (w : World) (B k : Nat) (f : Mat) : MatB w B none 0 0 k f := ⟨[], List.nodup_nil, by simp, ⟨rfl, .inl ⟨rfl, rfl, rfl⟩⟩, by simp⟩
theorem MatR.nil (w : World) (B k : Nat) (f : Mat) : MatR w B none 0 0 k f := ⟨[], ⟨rfl, .inl ⟨rfl, rfl, rfl⟩⟩, by simp⟩
theorem matB_empty (w : World) (k : Nat) (f : Mat) : MatB (w.alloc (.cells (row vh []) 23 (0, 0))) w.heap.size (some ⟨w.heap.size, 0, none⟩) 0 0 k f :=
  ⟨[], List.nodup_nil, by simp, (blk_new vh 23 w []).own (Nat.le_refl _) (by simp [maxLen]), by simp⟩
theorem matR_empty (w : World) (k : Nat) (f : Mat) : MatR (w.alloc (.cells (row vh []) 23 (0, 0))) w.heap.size (some ⟨w.heap.size, 0, none⟩) 0 0 k f :=
  ⟨[], (blk_new vh 23 w []).own (Nat.le_refl _) (by simp [maxLen]), by simp⟩
end Go.Proofs.Ytioiaiifkfopnaa
