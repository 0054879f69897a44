/- What a region in an open order makes, kept apart: each thing with the blocks that it lies in. -/
import Derived.Test.YtpecepfnmkpmmaaQt
import Derived.Test.YtpecepfnmkpmmaaNa
import Derived.Test.YtpecepfnmkpmmaaStep
import Derived.Test.YtpecepfnmkpmmaaTx
namespace Go.Kin
open Go.RowKit
set_option linter.unusedVariables false
/-- F holds, and hangs on the blocks of S alone. -/
structure Fp (S : Nat → Prop) (F : World → Prop) (w : World) : Prop where
  now : F w
  lt : ∀ b, S b → b < w.heap.size
  keep : ∀ w' : World, (∀ b, S b → w'.heap[b]? = w.heap[b]?) → F w'
theorem Fp.move {S : Nat → Prop} {F : World → Prop} {w w' : World} (h : Fp S F w) (hk : ∀ b, S b → w'.heap[b]? = w.heap[b]?) : Fp S F w' := by
  refine ⟨h.keep w' hk, fun b hb => ?_, fun w2 h2 => h.keep w2 fun b hb => (h2 b hb).trans (hk b hb)⟩
  have h1 := h.lt b hb
  have h2 := hk b hb
  rw [Array.getElem?_eq_getElem h1] at h2
  exact (Array.getElem?_eq_some_iff.1 h2).1
abbrev Rs := Nat → (Nat → Prop) × (World → Prop)
def Rs.put (R : Rs) (i : Nat) (S : Nat → Prop) (F : World → Prop) : Rs := fun j => if j = i then (S, F) else R j
def Rs.none : Rs := fun _ => (fun _ => False, fun _ => True)
/-- All things, apart from each other, behind what was there at w0. -/
structure Jn (w0 : World) (R : Rs) (w : World) : Prop where
  fp : ∀ i, Fp (R i).1 (R i).2 w
  dis : ∀ i j b, i ≠ j → (R i).1 b → ¬ (R j).1 b
  lo : ∀ i b, (R i).1 b → w0.heap.size ≤ b
  be : Below w0.heap.size w0 w
theorem Jn.start (w : World) : Jn w Rs.none w := ⟨fun _ => ⟨trivial, fun _ h => h.elim, fun _ _ => trivial⟩, fun _ _ _ _ h => h.elim, fun _ _ h => h.elim, below_refl w⟩
theorem Jn.step {w0 w w' : World} {R : Rs} (h : Jn w0 R w) (i : Nat) {S : Nat → Prop} {F : World → Prop} (hb : Below w0.heap.size w0 w') (hk : ∀ b, b < w.heap.size → ¬ (R i).1 b → w'.heap[b]? = w.heap[b]?) (hf : Fp S F w') (hS : ∀ b, S b → (R i).1 b ∨ w.heap.size ≤ b) : Jn w0 (R.put i S F) w' := by
  have old : ∀ j, j ≠ i → R.put i S F j = R j := fun j hj => if_neg hj
  have new : R.put i S F i = (S, F) := if_pos rfl
  refine ⟨fun j => ?_, fun j k b hjk hj => ?_, fun j b hj => ?_, hb⟩
  · by_cases e : j = i
    · subst e; rw [new]; exact hf
    · rw [old j e]
      exact (h.fp j).move fun b hb => hk b ((h.fp j).lt b hb) fun c => h.dis j i b e hb c
  · by_cases e : j = i
    · subst e
      rw [new] at hj
      rw [old k fun c => hjk c.symm]
      intro hk2
      rcases hS b hj with c | c
      · exact h.dis j k b hjk c hk2
      · have := (h.fp k).lt b hk2; omega
    · rw [old j e] at hj
      by_cases e2 : k = i
      · subst e2
        rw [new]
        intro hk2
        rcases hS b hk2 with c | c
        · exact h.dis j k b hjk hj c
        · have := (h.fp j).lt b hj; omega
      · rw [old k e2]; exact h.dis j k b hjk hj
  · by_cases e : j = i
    · subst e
      rw [new] at hj
      rcases hS b hj with c | c
      · exact h.lo j b c
      · exact Nat.le_trans h.be.size c
    · rw [old j e] at hj; exact h.lo j b hj
theorem Jn.fw {w0 w w' : World} {R : Rs} (h : Jn w0 R w) (hb : Below w.heap.size w w') : Jn w0 R w' :=
  ⟨fun i => (h.fp i).move fun b hs => hb.block b ((h.fp i).lt b hs), h.dis, h.lo, bt h.be hb⟩
def atB (g : Nat) (o : Obj) (w : World) : Prop := w.heap[g]? = some o
theorem atB_fp {g : Nat} {o : Obj} {w : World} (h : w.heap[g]? = some o) : Fp (fun b => b = g) (atB g o) w :=
  ⟨h, fun b e => by rw [e]; exact (Array.getElem?_eq_some_iff.1 h).1, fun w' hk => (hk g rfl).trans h⟩
theorem Jn.alloc {w0 w : World} {R : Rs} (h : Jn w0 R w) (i : Nat) (o : Obj) {c : Obj} (hc : (w.alloc o).heap[w.heap.size]? = some c) : Jn w0 (R.put i (fun b => b = w.heap.size) (atB w.heap.size c)) (w.alloc o) :=
  h.step i (bt h.be (below_alloc o (below_refl w))) (fun b hb _ => (below_alloc o (below_refl w)).block b hb) (atB_fp hc) fun b e => .inr (by rw [e]; exact Nat.le_refl _)
theorem grown_at {w w' : World} {g : Nat} (hg : w.grownBy w' (some g)) {b : Nat} (hb : b < w.heap.size) (hne : b ≠ g) : w'.heap[b]? = w.heap[b]? := hg.block b hb (fun e => hne (by cases e; rfl))
/-- Stores to a cell of one thing's block. -/
theorem Jn.set {w0 w : World} {R : Rs} (h : Jn w0 R w) (i : Nat) (p : Addr) (v : Value) (hp : (R i).1 p.block) {S : Nat → Prop} {F : World → Prop} (hf : Fp S F (w.setCell p v)) (hS : ∀ b, S b → (R i).1 b) : Jn w0 (R.put i S F) (w.setCell p v) :=
  h.step i (h.be.setCell (h.lo i _ hp) v) (fun b _ hn => Below.heap_setCell w p v b (fun e => hn (by rw [e]; exact hp))) hf fun b hb => .inl (hS b hb)
/-- The cells of a struct of three that the call has made. -/
theorem atB3 {g : Nat} {a b c : Value} {T : TypeId} {w : World} (h : atB g (.cells #[a, b, c] T (0, 0)) w) : w.cell? ⟨g, 0, none⟩ = some a ∧ w.cell? ⟨g, 1, none⟩ = some b ∧ w.cell? ⟨g, 2, none⟩ = some c ∧ ∀ k, w.frozen? ⟨g, k, none⟩ = false :=
  ⟨by rw [cell_of_row w g 0 _ _ _ h]; rfl, by rw [cell_of_row w g 1 _ _ _ h]; rfl, by rw [cell_of_row w g 2 _ _ _ h]; rfl, fun k => frozen_of_row w g k _ _ h⟩
section
variable {α : Type} {f : α → Value}
def ownB (f : α → Value) (B : Nat) (E : TypeId) (g n c : Nat) (l : List α) (w : World) : Prop := Own f B E w (some ⟨g, 0, none⟩) n c l
theorem own_fp {B : Nat} {E : TypeId} {w : World} {g n c : Nat} {l : List α} (h : Own f B E w (some ⟨g, 0, none⟩) n c l) : Fp (fun b => b = g) (ownB f B E g n c l) w :=
  ⟨h, fun b e => by rw [e]; exact h.blt rfl, fun w' hk => h.same fun x hx => by cases hx; exact hk g rfl⟩
theorem own_empty {B : Nat} {E : TypeId} {w : World} {g : Nat} (h : w.heap[g]? = some (.cells #[] E (0, 0))) (hB : B ≤ g) : Own f B E w (some ⟨g, 0, none⟩) 0 0 [] :=
  ⟨rfl, .inr ⟨g, #[], rfl, hB, h, Nat.le_refl _, by unfold maxLen; omega, rfl, rfl⟩⟩
/-- append of a readable slice to an empty one, where the order is open: where the new one lies. -/
theorem step_append_new {P : Program} (w : World) {ops : Array Oper} {o : Oper} {a : Act} {K : Act → World → Prop} {Q : Exit → Act → World → Prop} {E' : Prop} (hgd : o.guard = none) (s x : Operand) (t : TypeId)
    (ho : o.op = .call { callee := .builtin .append, args := #[s, x], argTypes := #[t, t] }) (f : α → Value) (hf : ∀ x, (f x).oneCell' = true)
    (w0 : World) (e : TypeId) (i : TypeInfo) (z : Value) (bytes : Nat) (ht : P.underlying t = some (.slice e)) (hi : P.info? e = some i) (hz : i.zero = some z)
    (hsize : i.size = 1) (hby : i.bytes = bytes) (hzs : z.cells.size = 1)
    (R : Rs) (k b b' : Nat) (hs : a.eval s = .slice (some ⟨b', 0, none⟩) 0 0) (hJ : Jn w0 R w) (hR : R k = (fun x => x = b, atB b (.cells #[] e (0, 0)))) (hbb : b' = b)
    (xa : Option Addr) (m d : Nat) (X : List α) (hx : a.eval x = .slice xa m d) (hX : Rd f w0 xa m d X) (hm : 0 < m)
    (h63 : m ≤ maxLen) (hbytes : m * bytes ≤ 140737488355328)
    (h : ∀ g c' w', Jn w0 (R.put k (fun x => x = g) (ownB f w0.heap.size e g m c' X)) w' → K (a.put o.dst (.slice (some ⟨g, 0, none⟩) m c')) w') :
    if Region.wanted o (yielded ops a.tmps) = true then Oper.wp P o a w K Q else E' := by
  subst hbb
  have hX := hX.fw hJ.be
  have hb1 := (hJ.fp k).now
  rw [hR] at hb1
  have hlo := hJ.lo k b' (by rw [hR])
  have hown : Own f w0.heap.size e w (some ⟨b', 0, none⟩) 0 0 [] := own_empty hb1 hlo
  cases xa with
  | none => have h1 := hX.none0 rfl; have h2 := hX.cap; omega
  | some ad =>
    refine step_append_lies w hgd s x t ho w0.heap.size e i z 1 bytes ht hi hz hsize hby hzs (by omega) (.slice (some ⟨b', 0, none⟩) 0 0) 0 (([] : List α).map f) hs hown.ownsRow ad m d (X.map f) hx (by rw [List.length_map, hX.len, Nat.mul_one]) ?_ ?_ hm (by rw [Nat.zero_add]; exact h63) (by rw [Nat.zero_add]; exact hbytes) hJ.be.size _ rfl ?_
    · intro j u hu
      rw [List.getElem?_map] at hu
      cases hj : X[j]? with
      | none => rw [hj] at hu; cases hu
      | some y =>
        rw [hj] at hu
        cases hu
        obtain ⟨b, o, ha, hc⟩ := hX.cell j y hj
        cases ha
        have e : (⟨b, o, none⟩ : Addr).add j = ⟨b, o + j, none⟩ := by unfold Addr.add; split <;> simp_all
        rw [e]; exact hc
    · intro u hu
      obtain ⟨y, _, rfl⟩ := List.mem_map.1 hu
      exact hf y
    · intro g cap w' h1 h2 h3 _
      rw [Nat.zero_add] at h1 ⊢
      rw [← List.map_append, List.nil_append] at h1
      obtain ⟨sa', c', e1, ho'⟩ := Own.of_ownsRow h1
      cases e1
      have h2' : w.grownBy w' (some b') := h2
      refine h g cap w' (hJ.step k (hJ.be.grown h2' hJ.be.size (fun y hy => by cases hy; exact hlo)) (fun y hy hn => grown_at h2' hy fun c => hn (by rw [hR]; exact c)) (own_fp ho') fun y hy => ?_)
      rcases h3 with c | c
      · have c : (some b' : Option Nat) = some g := c
        cases c
        exact .inl (by rw [hR]; exact hy)
      · exact .inr (by rw [hy, c]; exact Nat.le_refl _)
end
end Go.Kin
namespace Go.Proofs.Ytpecepfnmkpmmaa
open Go.RowKit Go.Kin Quo
set_option linter.unusedVariables false
def ownTB (B U : Nat) (g n c : Nat) (T : Tab) (w : World) : Prop := OwnTU w B U (some ⟨g, 0, none⟩) n c T ∧ g < U
theorem ownTB_fp {w : World} {B U g n c : Nat} {T : Tab} (h : ownTB B U g n c T w) (hU : U ≤ w.heap.size) : Fp (fun b => B ≤ b ∧ b < U) (ownTB B U g n c T) w := by
  refine ⟨h, fun b hb => Nat.lt_of_lt_of_le hb.2 hU, fun w' hk => ?_⟩
  obtain ⟨⟨L, h1, h2, h3, h4, h5⟩, hg⟩ := h
  refine ⟨⟨L, h1.same fun x hx => hk _ ⟨h1.bge hx, by cases hx; exact hg⟩, h2, h3, fun i x m hi hm => (h4 i x m hi hm).same fun y hy => hk _ ⟨(h4 i x m hi hm).bge hy, h5 i x hi y hy⟩, h5⟩, hg⟩
theorem Jn.table {w0 w w' : World} {R : Rs} (h : Jn w0 R w) (i : Nat) {g n c : Nat} {T : Tab} (hb : Below w.heap.size w w') (hO : OwnT w' w.heap.size (some ⟨g, 0, none⟩) n c T) : Jn w0 (R.put i (fun b => w.heap.size ≤ b ∧ b < w'.heap.size) (ownTB w.heap.size w'.heap.size g n c T)) w' :=
  h.step i (bt h.be hb) (fun b hb2 _ => hb.block b hb2) (ownTB_fp ⟨hO.up, by obtain ⟨L, h1, _⟩ := hO; exact h1.blt rfl⟩ (Nat.le_refl _)) fun b hb2 => .inr hb2.1
/-- A struct of three slices that the call has made: two lists and a table, all apart. -/
def Made (wq : World) (n : Nat) (G : List Int) (N : Tab) (K : List Int) (gr g1 d1 gz zc g2 d2 : Nat) (w : World) : Prop :=
  ∃ (R : Rs) (lo hi : Nat), Jn wq R w ∧ R 0 = (fun x => x = g1, ownB vi wq.heap.size 3 g1 n d1 G) ∧ R 1 = (fun b => lo ≤ b ∧ b < hi, ownTB lo hi gz n zc N) ∧ R 2 = (fun x => x = g2, ownB vi wq.heap.size 3 g2 n d2 K) ∧
    R 3 = (fun x => x = gr, atB gr (.cells #[.slice (some ⟨g1, 0, none⟩) n d1, .slice (some ⟨gz, 0, none⟩) n zc, .slice (some ⟨g2, 0, none⟩) n d2] 78 (0, 0)))
theorem made_of {wq w : World} {n : Nat} {G : List Int} {N : Tab} {K : List Int} {gr gr' g1 d1 gz zc g2 d2 lo hi : Nat} {R : Rs} {a b c : Value} (h : Jn wq R w) (h0 : R 0 = (fun x => x = g1, ownB vi wq.heap.size 3 g1 n d1 G)) (h1 : R 1 = (fun b => lo ≤ b ∧ b < hi, ownTB lo hi gz n zc N)) (h2 : R 2 = (fun x => x = g2, ownB vi wq.heap.size 3 g2 n d2 K))
    (h3 : R 3 = (fun x => x = gr', atB gr' (.cells #[a, b, c] 78 (0, 0)))) (e : gr = gr') :
    Made wq n G N K gr g1 d1 gz zc g2 d2 (((w.setCell ⟨gr, 0, none⟩ (.slice (some ⟨g1, 0, none⟩) n d1)).setCell ⟨gr, 1, none⟩ (.slice (some ⟨gz, 0, none⟩) n zc)).setCell ⟨gr, 2, none⟩ (.slice (some ⟨g2, 0, none⟩) n d2)) := by
  subst e
  have c0 : w.heap[gr]? = some (.cells #[a, b, c] 78 (0, 0)) := by have := (h.fp 3).now; rw [h3] at this; exact this
  have p3 : (R 3).1 gr := by rw [h3]
  have c1 : (w.setCell ⟨gr, 0, none⟩ (.slice (some ⟨g1, 0, none⟩) n d1)).heap[gr]? = some (.cells #[.slice (some ⟨g1, 0, none⟩) n d1, b, c] 78 (0, 0)) := heap_setCell_same w gr 0 _ _ _ c0
  have j1 := h.set 3 ⟨gr, 0, none⟩ (.slice (some ⟨g1, 0, none⟩) n d1) p3 (atB_fp c1) fun b hb => by rw [h3]; exact hb
  have c2 : ((w.setCell ⟨gr, 0, none⟩ (.slice (some ⟨g1, 0, none⟩) n d1)).setCell ⟨gr, 1, none⟩ (.slice (some ⟨gz, 0, none⟩) n zc)).heap[gr]? = some (.cells #[.slice (some ⟨g1, 0, none⟩) n d1, .slice (some ⟨gz, 0, none⟩) n zc, c] 78 (0, 0)) := heap_setCell_same _ gr 1 _ _ _ c1
  have j2 := j1.set 3 ⟨gr, 1, none⟩ (.slice (some ⟨gz, 0, none⟩) n zc) rfl (atB_fp c2) fun b hb => hb
  have c3 : (((w.setCell ⟨gr, 0, none⟩ (.slice (some ⟨g1, 0, none⟩) n d1)).setCell ⟨gr, 1, none⟩ (.slice (some ⟨gz, 0, none⟩) n zc)).setCell ⟨gr, 2, none⟩ (.slice (some ⟨g2, 0, none⟩) n d2)).heap[gr]? = some (.cells #[.slice (some ⟨g1, 0, none⟩) n d1, .slice (some ⟨gz, 0, none⟩) n zc, .slice (some ⟨g2, 0, none⟩) n d2] 78 (0, 0)) := heap_setCell_same _ gr 2 _ _ _ c2
  have j3 := j2.set 3 ⟨gr, 2, none⟩ (.slice (some ⟨g2, 0, none⟩) n d2) rfl (atB_fp c3) fun b hb => hb
  exact ⟨_, lo, hi, j3, h0, h1, h2, rfl⟩
theorem made_new {wq w : World} {n : Nat} {G : List Int} {N : Tab} {K : List Int} {g1 d1 gz zc g2 d2 lo hi : Nat} {R : Rs} (h : Jn wq R w) (h0 : R 0 = (fun x => x = g1, ownB vi wq.heap.size 3 g1 n d1 G)) (h1 : R 1 = (fun b => lo ≤ b ∧ b < hi, ownTB lo hi gz n zc N)) (h2 : R 2 = (fun x => x = g2, ownB vi wq.heap.size 3 g2 n d2 K)) :
    Made wq n G N K w.heap.size g1 d1 gz zc g2 d2 (w.alloc (.cells #[.slice (some ⟨g1, 0, none⟩) n d1, .slice (some ⟨gz, 0, none⟩) n zc, .slice (some ⟨g2, 0, none⟩) n d2] 78)) :=
  ⟨_, lo, hi, h.alloc 3 _ (heap_alloc_new _ _), h0, h1, h2, rfl⟩
section
variable {wq w : World} {n : Nat} {G : List Int} {N : Tab} {K : List Int} {gr g1 d1 gz zc g2 d2 : Nat}
theorem Made.be (h : Made wq n G N K gr g1 d1 gz zc g2 d2 w) : Below wq.heap.size wq w := by obtain ⟨R, lo, hi, hJ, _⟩ := h; exact hJ.be
theorem Made.fw {w' : World} (h : Made wq n G N K gr g1 d1 gz zc g2 d2 w) (hb : Below w.heap.size w w') : Made wq n G N K gr g1 d1 gz zc g2 d2 w' := by
  obtain ⟨R, lo, hi, hJ, r⟩ := h; exact ⟨R, lo, hi, hJ.fw hb, r⟩
theorem Made.reads {w' : World} (h : Made wq n G N K gr g1 d1 gz zc g2 d2 w) (hk : ∀ b, wq.heap.size ≤ b → w'.heap[b]? = w.heap[b]?) : Rd vi w' (some ⟨g1, 0, none⟩) n d1 G ∧ RdT w' (some ⟨gz, 0, none⟩) n zc N ∧ Rd vi w' (some ⟨g2, 0, none⟩) n d2 K := by
  obtain ⟨R, lo, hi, hJ, h0, h1, h2, h3⟩ := h
  have k0 := (hJ.fp 0).keep w' fun b hb => hk b (hJ.lo 0 b hb)
  have k1 := (hJ.fp 1).keep w' fun b hb => hk b (hJ.lo 1 b hb)
  have k2 := (hJ.fp 2).keep w' fun b hb => hk b (hJ.lo 2 b hb)
  rw [h0] at k0; rw [h1] at k1; rw [h2] at k2
  exact ⟨Own.rd k0, k1.1.own.rdt, Own.rd k2⟩
theorem Made.cells (h : Made wq n G N K gr g1 d1 gz zc g2 d2 w) : w.cell? ⟨gr, 0, none⟩ = some (.slice (some ⟨g1, 0, none⟩) n d1) ∧ w.cell? ⟨gr, 1, none⟩ = some (.slice (some ⟨gz, 0, none⟩) n zc) ∧ w.cell? ⟨gr, 2, none⟩ = some (.slice (some ⟨g2, 0, none⟩) n d2) ∧ ∀ k, w.frozen? ⟨gr, k, none⟩ = false := by
  obtain ⟨R, lo, hi, hJ, h0, h1, h2, h3⟩ := h
  have := (hJ.fp 3).now
  rw [h3] at this
  exact atB3 this
theorem Made.g (h : Made wq n G N K gr g1 d1 gz zc g2 d2 w) : Own vi wq.heap.size 3 w (some ⟨g1, 0, none⟩) n d1 G := by
  obtain ⟨R, lo, hi, hJ, h0, h1, h2, h3⟩ := h
  have := (hJ.fp 0).now
  rw [h0] at this
  exact this
theorem Made.k (h : Made wq n G N K gr g1 d1 gz zc g2 d2 w) : Own vi wq.heap.size 3 w (some ⟨g2, 0, none⟩) n d2 K := by
  obtain ⟨R, lo, hi, hJ, h0, h1, h2, h3⟩ := h
  have := (hJ.fp 2).now
  rw [h2] at this
  exact this
theorem Made.t (h : Made wq n G N K gr g1 d1 gz zc g2 d2 w) : OwnT w wq.heap.size (some ⟨gz, 0, none⟩) n zc N := by
  obtain ⟨R, lo, hi, hJ, h0, h1, h2, h3⟩ := h
  have h4 := (hJ.fp 1).now
  rw [h1] at h4
  have h5 := hJ.lo 1 gz (by rw [h1]; obtain ⟨⟨L, hL, _⟩, hg⟩ := h4; exact ⟨hL.bge rfl, hg⟩)
  obtain ⟨⟨L, l1, l2, l3, l4, l5⟩, hg⟩ := h4
  have lo2 : wq.heap.size ≤ lo ∨ hi ≤ lo := by
    by_cases c : lo < hi
    · exact .inl (hJ.lo 1 lo (by rw [h1]; exact ⟨Nat.le_refl _, c⟩))
    · exact .inr (by omega)
  rcases lo2 with c | c
  · exact OwnT.mono (show OwnT w lo (some ⟨gz, 0, none⟩) n zc N from ⟨L, l1, l2, l3, l4⟩) c
  · have := l1.bge (x := ⟨gz, 0, none⟩) rfl
    dsimp only at this
    omega
theorem Made.owns {w' : World} (h : Made wq n G N K gr g1 d1 gz zc g2 d2 w) (hk : ∀ b, wq.heap.size ≤ b → w'.heap[b]? = w.heap[b]?) : Own vi wq.heap.size 3 w' (some ⟨g1, 0, none⟩) n d1 G ∧ OwnT w' wq.heap.size (some ⟨gz, 0, none⟩) n zc N ∧ Own vi wq.heap.size 3 w' (some ⟨g2, 0, none⟩) n d2 K := by
  have hg := h.g; have hkk := h.k
  have ht := h.t
  refine ⟨hg.same fun x hx => hk _ (hg.bge hx), ?_, hkk.same fun x hx => hk _ (hkk.bge hx)⟩
  obtain ⟨L, l1, l2, l3, l4⟩ := ht
  exact ⟨L, l1.same fun x hx => hk _ (l1.bge hx), l2, l3, fun i x m hi hm => (l4 i x m hi hm).same fun y hy => hk _ ((l4 i x m hi hm).bge hy)⟩
theorem Made.setG (h : Made wq n G N K gr g1 d1 gz zc g2 d2 w) (i : Nat) (x : Int) : Made wq n (G.set i x) N K gr g1 d1 gz zc g2 d2 (w.setCell ⟨g1, i, none⟩ (.int .i64 x)) := by
  have hg := h.g
  obtain ⟨R, lo, hi, hJ, h0, h1, h2, h3⟩ := h
  exact ⟨_, lo, hi, hJ.set 0 ⟨g1, i, none⟩ (.int .i64 x) (by rw [h0]) (own_fp (hg.set i x)) (fun b hb => by rw [h0]; exact hb), rfl, h1, h2, h3⟩
theorem Made.setK (h : Made wq n G N K gr g1 d1 gz zc g2 d2 w) (i : Nat) (x : Int) : Made wq n G N (K.set i x) gr g1 d1 gz zc g2 d2 (w.setCell ⟨g2, i, none⟩ (.int .i64 x)) := by
  have hg := h.k
  obtain ⟨R, lo, hi, hJ, h0, h1, h2, h3⟩ := h
  exact ⟨_, lo, hi, hJ.set 2 ⟨g2, i, none⟩ (.int .i64 x) (by rw [h2]) (own_fp (hg.set i x)) (fun b hb => by rw [h2]; exact hb), h0, h1, rfl, h3⟩
theorem Made.setT (h : Made wq n G N K gr g1 d1 gz zc g2 d2 w) {i j : Nat} {r : List Int} {x : Int} (hr : N[i]? = some r) (hx : r[j]? = some x) :
    ∃ g rc, wq.heap.size ≤ g ∧ w.cell? ⟨gz, i, none⟩ = some (.slice (some ⟨g, 0, none⟩) r.length rc) ∧ w.cell? ⟨g, j, none⟩ = some (.int .i64 x) ∧ w.frozen? ⟨g, j, none⟩ = false ∧
      ∀ y : Int, Made wq n G (N.set i (r.set j y)) K gr g1 d1 gz zc g2 d2 (w.setCell ⟨g, j, none⟩ (.int .i64 y)) := by
  obtain ⟨R, lo, hi, hJ, h0, h1, h2, h3⟩ := h
  have h4 := (hJ.fp 1).now
  rw [h1] at h4
  obtain ⟨hO, hg⟩ := h4
  obtain ⟨o4, g, rc, k1, _, k3, k4, k5, k6, k7, kset, _⟩ := hO.at hr hx
  cases k1
  have p1 : (R 1).1 g := by rw [h1]; exact ⟨k3, k4⟩
  refine ⟨g, rc, hJ.lo 1 g p1, k5, k6, k7, fun y => ?_⟩
  have hU : hi ≤ (w.setCell ⟨g, j, none⟩ (.int .i64 y)).heap.size := by
    have h5 : hi ≤ w.heap.size := by
      have := (hJ.fp 1).lt (hi - 1) (by rw [h1]; exact ⟨by omega, by omega⟩)
      omega
    simpa [World.setCell] using h5
  exact ⟨_, lo, hi, hJ.set 1 ⟨g, j, none⟩ (.int .i64 y) p1 (ownTB_fp ⟨kset y, hg⟩ hU) (fun b hb => by rw [h1]; exact hb), h0, rfl, h2, h3⟩
end
end Go.Proofs.Ytpecepfnmkpmmaa
/- The reference's relief.moved. -/
namespace Go.Proofs.Ytpecepfnmkpmmaa
open Go.RowKit Go.Kin Quo
set_option maxRecDepth 100000
set_option linter.unusedVariables false
/-- What moved returns. -/
def MovedRet (w : World) (n : Nat) (G : List Int) (N : Tab) (K : List Int) (e : Ending) (w' : World) : Prop :=
  ∃ g1 d1 gz zc g2 d2 : Nat, e = .returned (.agg #[.slice (some ⟨g1, 0, none⟩) n d1, .slice (some ⟨gz, 0, none⟩) n zc, .slice (some ⟨g2, 0, none⟩) n d2]) ∧ Own vi w.heap.size 3 w' (some ⟨g1, 0, none⟩) n d1 G ∧ OwnT w' w.heap.size (some ⟨gz, 0, none⟩) n zc N ∧ Own vi w.heap.size 3 w' (some ⟨g2, 0, none⟩) n d2 K ∧ Below w.heap.size w w'
set_option maxHeartbeats 16000000 in
theorem moved_any (ga : Option Addr) (n gc : Nat) (ha : Option Addr) (hc : Nat) (ka : Option Addr) (kc : Nat) (G : List Int) (N : Tab) (K : List Int) (w : World) (h1 : Rd vi w ga n gc G) (h2 : RdT w ha n hc N) (h3 : Rd vi w ka n kc K) (hN : VT N)
    (h o t : Nat) (x : Int) (hh : h < n) (ho : o < n) (ht : t < n) (hx0 : 0 ≤ x) (hx1 : x ≤ G.getD h 0) (hx2 : x ≤ at2 N h o) (hx3 : x ≤ K.getD t 0) (hG : G.getD h 0 ≤ 13194139533312) (hK : K.getD t 0 ≤ 13194139533312) :
    Calls Try.prog 48 #[.agg #[.slice ga n gc, .slice ha n hc, .slice ka n kc], .int .i64 (h : Int), .int .i64 (o : Int), .int .i64 (t : Int), .int .i64 x] w (MovedRet w n (G.set h (G.getD h 0 - x)) (N.set h ((N.getD h []).set o (at2 N h o - x))) (K.set t (K.getD t 0 - x))) := by
  obtain ⟨i0, hi, hz0, hz1, hz2⟩ := info_parts infoI
  have u0 := Try.underlying26
  have hn : n ≤ 12 := by have := hN.1; rw [h2.len] at this; exact this
  have hn0 : 0 < n := by omega
  have hNl := Lib.hid h2.len
  have hGl := Lib.hid h1.len
  have hKl := Lib.hid h3.len
  have hba := below_alloc (.cells #[.slice ga n gc, .slice ha n hc, .slice ka n kc] 78) (below_refl w)
  have hbb := below_alloc (.cells #[.slice none 0 0, .slice none 0 0, .slice none 0 0] 78) hba
  have hnew := (below_alloc (.cells #[.slice none 0 0, .slice none 0 0, .slice none 0 0] 78) (below_refl (w.alloc (.cells #[.slice ga n gc, .slice ha n hc, .slice ka n kc] 78)))).block w.heap.size (by simp)
  have HNEW := Lib.hid (hnew.trans (heap_alloc_new w (.cells #[.slice ga n gc, .slice ha n hc, .slice ka n kc] 78)))
  have HRES := Lib.hid (heap_alloc_new (w.alloc (.cells #[.slice ga n gc, .slice ha n hc, .slice ka n kc] 78)) (.cells #[.slice none 0 0, .slice none 0 0, .slice none 0 0] 78))
  have HBB := Lib.hid hbb
  have H1 := Lib.hid (h1.fw hbb); have H2 := Lib.hid (h2.fw hbb); have H3 := Lib.hid (h3.fw hbb); have HV := Lib.hid hN
  clear h1 h2 h3 hN hba hbb hnew
  go_enter Try.func48, Try.ntmps48
  go_upto_region 1 with fail
  have hsz : (w.alloc (.cells #[.slice ga n gc, .slice ha n hc, .slice ka n kc] 78)).heap.size = w.heap.size + 1 := World.size_alloc _ _
  rw [hsz] at HRES
  clear hsz
  generalize (w.alloc (.cells #[.slice ga n gc, .slice ha n hc, .slice ka n kc] 78)).alloc (.cells #[.slice none 0 0, .slice none 0 0, .slice none 0 0] 78) = wq at *
  have HGM : Hid (w.heap.size ≤ w.heap.size ∧ w.heap.size ≤ w.heap.size + 1) := ⟨Nat.le_refl _, by omega⟩
  generalize w.heap.size + 1 = gr0 at HRES HGM ⊢
  have HGM2 : Hid (w.heap.size ≤ gr0) := HGM.out.2
  clear HGM
  generalize w.heap.size = gm at HNEW ⊢
  have HG := Lib.hid H1.out; have HT := Lib.hid H2.out; have HK := Lib.hid H3.out
  have HJ := Lib.hid (Jn.start wq)
  have HNEWP := Lib.hid HNEW.out
  go_cut [11] from 12 to 51 (fun v wz => ∃ gr g1 d1 gz zc g2 d2 : Nat, v = .pointer (some ⟨gr, 0, none⟩) ∧ Hid (Made wq n G N K gr g1 d1 gz zc g2 d2 wz))
  case first =>
    clear hx0 hx1 hx2 hx3 hG hK
    go_region_held3 (fun w' => w'.cell? ⟨gm, 0, none⟩ = some (.slice ga n gc) ∧ w'.cell? ⟨gm, 1, none⟩ = some (.slice ha n hc) ∧ w'.cell? ⟨gm, 2, none⟩ = some (.slice ka n kc))
      (((refine rel3 HNEWP.out ?_); (repeat (first | exact below_refl _ | exact HJ7.out.be | exact HJ6.out.be | exact HJ5.out.be | refine below_alloc _ ?_ | refine Below.setCell ?_ (by simp <;> omega) _ | refine Below.drew ?_))))
      (first
        | ((refine step_append_new _ (by rfl) (.tmp 12) (.tmp 14) 26 (by rfl) vi vi_one wq 3 i0 (.int .i64 0) 8 u0 hi hz0 hz1 hz2 rfl _ 0 _ _ (by rfl) ((HJ.out.alloc 0 (.cells #[] 3 (0, 0)) (heap_alloc_new _ _)).fw (below_refl _).drew) (by rfl) (by first | rfl | (simp; done) | fail) ga n gc G (by rfl) HG.out hn0 (by unfold maxLen; omega) (by omega) ?_); intro g1 d1 w5 hJ5; have HJ5 := Lib.hid hJ5; clear hJ5; (try (have s3 := atB3 (HJ5.out.fp 3).now; obtain ⟨s0, s1, s2, s4⟩ := s3; (try simp only [World.size_alloc] at s0 s1 s2 s4))); have z5 := HJ5.out.be.size)
        | ((refine step_append_new _ (by rfl) (.tmp 12) (.tmp 14) 26 (by rfl) vi vi_one wq 3 i0 (.int .i64 0) 8 u0 hi hz0 hz1 hz2 rfl _ 0 _ _ (by rfl) (((HJ.out.alloc 0 (.cells #[] 3 (0, 0)) (heap_alloc_new _ _)).alloc 2 (.cells #[] 3 (0, 0)) (heap_alloc_new _ _)).fw (below_refl _).drew) (by rfl) (by first | rfl | (simp; done) | fail) ga n gc G (by rfl) HG.out hn0 (by unfold maxLen; omega) (by omega) ?_); intro g1 d1 w5 hJ5; have HJ5 := Lib.hid hJ5; clear hJ5; (try (have s3 := atB3 (HJ5.out.fp 3).now; obtain ⟨s0, s1, s2, s4⟩ := s3; (try simp only [World.size_alloc] at s0 s1 s2 s4))); have z5 := HJ5.out.be.size)
        | ((refine step_append_new _ (by rfl) (.tmp 12) (.tmp 14) 26 (by rfl) vi vi_one wq 3 i0 (.int .i64 0) 8 u0 hi hz0 hz1 hz2 rfl _ 0 _ _ (by rfl) (((HJ.out.alloc 2 (.cells #[] 3 (0, 0)) (heap_alloc_new _ _)).alloc 0 (.cells #[] 3 (0, 0)) (heap_alloc_new _ _)).fw (below_refl _).drew) (by rfl) (by first | rfl | (simp; done) | fail) ga n gc G (by rfl) HG.out hn0 (by unfold maxLen; omega) (by omega) ?_); intro g1 d1 w5 hJ5; have HJ5 := Lib.hid hJ5; clear hJ5; (try (have s3 := atB3 (HJ5.out.fp 3).now; obtain ⟨s0, s1, s2, s4⟩ := s3; (try simp only [World.size_alloc] at s0 s1 s2 s4))); have z5 := HJ5.out.be.size)
        | ((refine step_append_new _ (by rfl) (.tmp 12) (.tmp 14) 26 (by rfl) vi vi_one wq 3 i0 (.int .i64 0) 8 u0 hi hz0 hz1 hz2 rfl _ 0 _ _ (by rfl) (((HJ.out.alloc 0 (.cells #[] 3 (0, 0)) (heap_alloc_new _ _)).alloc 3 (.cells #[.slice none 0 0, .slice none 0 0, .slice none 0 0] 78 (0, 0)) (heap_alloc_new _ _)).fw (below_refl _).drew) (by rfl) (by first | rfl | (simp; done) | fail) ga n gc G (by rfl) HG.out hn0 (by unfold maxLen; omega) (by omega) ?_); intro g1 d1 w5 hJ5; have HJ5 := Lib.hid hJ5; clear hJ5; (try (have s3 := atB3 (HJ5.out.fp 3).now; obtain ⟨s0, s1, s2, s4⟩ := s3; (try simp only [World.size_alloc] at s0 s1 s2 s4))); have z5 := HJ5.out.be.size)
        | ((refine step_append_new _ (by rfl) (.tmp 12) (.tmp 14) 26 (by rfl) vi vi_one wq 3 i0 (.int .i64 0) 8 u0 hi hz0 hz1 hz2 rfl _ 0 _ _ (by rfl) (((HJ.out.alloc 3 (.cells #[.slice none 0 0, .slice none 0 0, .slice none 0 0] 78 (0, 0)) (heap_alloc_new _ _)).alloc 0 (.cells #[] 3 (0, 0)) (heap_alloc_new _ _)).fw (below_refl _).drew) (by rfl) (by first | rfl | (simp; done) | fail) ga n gc G (by rfl) HG.out hn0 (by unfold maxLen; omega) (by omega) ?_); intro g1 d1 w5 hJ5; have HJ5 := Lib.hid hJ5; clear hJ5; (try (have s3 := atB3 (HJ5.out.fp 3).now; obtain ⟨s0, s1, s2, s4⟩ := s3; (try simp only [World.size_alloc] at s0 s1 s2 s4))); have z5 := HJ5.out.be.size)
        | ((refine step_append_new _ (by rfl) (.tmp 12) (.tmp 14) 26 (by rfl) vi vi_one wq 3 i0 (.int .i64 0) 8 u0 hi hz0 hz1 hz2 rfl _ 0 _ _ (by rfl) ((((HJ.out.alloc 0 (.cells #[] 3 (0, 0)) (heap_alloc_new _ _)).alloc 2 (.cells #[] 3 (0, 0)) (heap_alloc_new _ _)).alloc 3 (.cells #[.slice none 0 0, .slice none 0 0, .slice none 0 0] 78 (0, 0)) (heap_alloc_new _ _)).fw (below_refl _).drew) (by rfl) (by first | rfl | (simp; done) | fail) ga n gc G (by rfl) HG.out hn0 (by unfold maxLen; omega) (by omega) ?_); intro g1 d1 w5 hJ5; have HJ5 := Lib.hid hJ5; clear hJ5; (try (have s3 := atB3 (HJ5.out.fp 3).now; obtain ⟨s0, s1, s2, s4⟩ := s3; (try simp only [World.size_alloc] at s0 s1 s2 s4))); have z5 := HJ5.out.be.size)
        | ((refine step_append_new _ (by rfl) (.tmp 12) (.tmp 14) 26 (by rfl) vi vi_one wq 3 i0 (.int .i64 0) 8 u0 hi hz0 hz1 hz2 rfl _ 0 _ _ (by rfl) ((((HJ.out.alloc 0 (.cells #[] 3 (0, 0)) (heap_alloc_new _ _)).alloc 3 (.cells #[.slice none 0 0, .slice none 0 0, .slice none 0 0] 78 (0, 0)) (heap_alloc_new _ _)).alloc 2 (.cells #[] 3 (0, 0)) (heap_alloc_new _ _)).fw (below_refl _).drew) (by rfl) (by first | rfl | (simp; done) | fail) ga n gc G (by rfl) HG.out hn0 (by unfold maxLen; omega) (by omega) ?_); intro g1 d1 w5 hJ5; have HJ5 := Lib.hid hJ5; clear hJ5; (try (have s3 := atB3 (HJ5.out.fp 3).now; obtain ⟨s0, s1, s2, s4⟩ := s3; (try simp only [World.size_alloc] at s0 s1 s2 s4))); have z5 := HJ5.out.be.size)
        | ((refine step_append_new _ (by rfl) (.tmp 12) (.tmp 14) 26 (by rfl) vi vi_one wq 3 i0 (.int .i64 0) 8 u0 hi hz0 hz1 hz2 rfl _ 0 _ _ (by rfl) ((((HJ.out.alloc 2 (.cells #[] 3 (0, 0)) (heap_alloc_new _ _)).alloc 0 (.cells #[] 3 (0, 0)) (heap_alloc_new _ _)).alloc 3 (.cells #[.slice none 0 0, .slice none 0 0, .slice none 0 0] 78 (0, 0)) (heap_alloc_new _ _)).fw (below_refl _).drew) (by rfl) (by first | rfl | (simp; done) | fail) ga n gc G (by rfl) HG.out hn0 (by unfold maxLen; omega) (by omega) ?_); intro g1 d1 w5 hJ5; have HJ5 := Lib.hid hJ5; clear hJ5; (try (have s3 := atB3 (HJ5.out.fp 3).now; obtain ⟨s0, s1, s2, s4⟩ := s3; (try simp only [World.size_alloc] at s0 s1 s2 s4))); have z5 := HJ5.out.be.size)
        | ((refine step_append_new _ (by rfl) (.tmp 12) (.tmp 14) 26 (by rfl) vi vi_one wq 3 i0 (.int .i64 0) 8 u0 hi hz0 hz1 hz2 rfl _ 0 _ _ (by rfl) ((((HJ.out.alloc 2 (.cells #[] 3 (0, 0)) (heap_alloc_new _ _)).alloc 3 (.cells #[.slice none 0 0, .slice none 0 0, .slice none 0 0] 78 (0, 0)) (heap_alloc_new _ _)).alloc 0 (.cells #[] 3 (0, 0)) (heap_alloc_new _ _)).fw (below_refl _).drew) (by rfl) (by first | rfl | (simp; done) | fail) ga n gc G (by rfl) HG.out hn0 (by unfold maxLen; omega) (by omega) ?_); intro g1 d1 w5 hJ5; have HJ5 := Lib.hid hJ5; clear hJ5; (try (have s3 := atB3 (HJ5.out.fp 3).now; obtain ⟨s0, s1, s2, s4⟩ := s3; (try simp only [World.size_alloc] at s0 s1 s2 s4))); have z5 := HJ5.out.be.size)
        | ((refine step_append_new _ (by rfl) (.tmp 12) (.tmp 14) 26 (by rfl) vi vi_one wq 3 i0 (.int .i64 0) 8 u0 hi hz0 hz1 hz2 rfl _ 0 _ _ (by rfl) ((((HJ.out.alloc 3 (.cells #[.slice none 0 0, .slice none 0 0, .slice none 0 0] 78 (0, 0)) (heap_alloc_new _ _)).alloc 0 (.cells #[] 3 (0, 0)) (heap_alloc_new _ _)).alloc 2 (.cells #[] 3 (0, 0)) (heap_alloc_new _ _)).fw (below_refl _).drew) (by rfl) (by first | rfl | (simp; done) | fail) ga n gc G (by rfl) HG.out hn0 (by unfold maxLen; omega) (by omega) ?_); intro g1 d1 w5 hJ5; have HJ5 := Lib.hid hJ5; clear hJ5; (try (have s3 := atB3 (HJ5.out.fp 3).now; obtain ⟨s0, s1, s2, s4⟩ := s3; (try simp only [World.size_alloc] at s0 s1 s2 s4))); have z5 := HJ5.out.be.size)
        | ((refine step_append_new _ (by rfl) (.tmp 12) (.tmp 14) 26 (by rfl) vi vi_one wq 3 i0 (.int .i64 0) 8 u0 hi hz0 hz1 hz2 rfl _ 0 _ _ (by rfl) ((((HJ.out.alloc 3 (.cells #[.slice none 0 0, .slice none 0 0, .slice none 0 0] 78 (0, 0)) (heap_alloc_new _ _)).alloc 2 (.cells #[] 3 (0, 0)) (heap_alloc_new _ _)).alloc 0 (.cells #[] 3 (0, 0)) (heap_alloc_new _ _)).fw (below_refl _).drew) (by rfl) (by first | rfl | (simp; done) | fail) ga n gc G (by rfl) HG.out hn0 (by unfold maxLen; omega) (by omega) ?_); intro g1 d1 w5 hJ5; have HJ5 := Lib.hid hJ5; clear hJ5; (try (have s3 := atB3 (HJ5.out.fp 3).now; obtain ⟨s0, s1, s2, s4⟩ := s3; (try simp only [World.size_alloc] at s0 s1 s2 s4))); have z5 := HJ5.out.be.size)
        | (go_at_call 31; (refine (clone_any ha n hc N _ (HT.out.fw HJ5.out.be) HV.out).mono ?_); rintro e w6 ⟨gz, zc, rfl, hO, hb⟩; have HJ6 := Lib.hid (Jn.table HJ5.out 1 hb hO); clear hO hb; (try (have s3 := atB3 (HJ6.out.fp 3).now; obtain ⟨s0, s1, s2, s4⟩ := s3; (try simp only [World.size_alloc] at s0 s1 s2 s4))); have z6 := HJ6.out.be.size)
        | (go_at_call 31; (refine (clone_any ha n hc N _ (HT.out.fw (HJ5.out.alloc 2 (.cells #[] 3 (0, 0)) (heap_alloc_new _ _)).be) HV.out).mono ?_); rintro e w6 ⟨gz, zc, rfl, hO, hb⟩; have HJ6 := Lib.hid (Jn.table (HJ5.out.alloc 2 (.cells #[] 3 (0, 0)) (heap_alloc_new _ _)) 1 hb hO); clear hO hb; (try (have s3 := atB3 (HJ6.out.fp 3).now; obtain ⟨s0, s1, s2, s4⟩ := s3; (try simp only [World.size_alloc] at s0 s1 s2 s4))); have z6 := HJ6.out.be.size)
        | (go_at_call 31; (refine (clone_any ha n hc N _ (HT.out.fw (HJ5.out.alloc 3 (.cells #[.slice none 0 0, .slice none 0 0, .slice none 0 0] 78 (0, 0)) (heap_alloc_new _ _)).be) HV.out).mono ?_); rintro e w6 ⟨gz, zc, rfl, hO, hb⟩; have HJ6 := Lib.hid (Jn.table (HJ5.out.alloc 3 (.cells #[.slice none 0 0, .slice none 0 0, .slice none 0 0] 78 (0, 0)) (heap_alloc_new _ _)) 1 hb hO); clear hO hb; (try (have s3 := atB3 (HJ6.out.fp 3).now; obtain ⟨s0, s1, s2, s4⟩ := s3; (try simp only [World.size_alloc] at s0 s1 s2 s4))); have z6 := HJ6.out.be.size)
        | (go_at_call 31; (refine (clone_any ha n hc N _ (HT.out.fw ((HJ5.out.alloc 2 (.cells #[] 3 (0, 0)) (heap_alloc_new _ _)).alloc 3 (.cells #[.slice none 0 0, .slice none 0 0, .slice none 0 0] 78 (0, 0)) (heap_alloc_new _ _)).be) HV.out).mono ?_); rintro e w6 ⟨gz, zc, rfl, hO, hb⟩; have HJ6 := Lib.hid (Jn.table ((HJ5.out.alloc 2 (.cells #[] 3 (0, 0)) (heap_alloc_new _ _)).alloc 3 (.cells #[.slice none 0 0, .slice none 0 0, .slice none 0 0] 78 (0, 0)) (heap_alloc_new _ _)) 1 hb hO); clear hO hb; (try (have s3 := atB3 (HJ6.out.fp 3).now; obtain ⟨s0, s1, s2, s4⟩ := s3; (try simp only [World.size_alloc] at s0 s1 s2 s4))); have z6 := HJ6.out.be.size)
        | (go_at_call 31; (refine (clone_any ha n hc N _ (HT.out.fw ((HJ5.out.alloc 3 (.cells #[.slice none 0 0, .slice none 0 0, .slice none 0 0] 78 (0, 0)) (heap_alloc_new _ _)).alloc 2 (.cells #[] 3 (0, 0)) (heap_alloc_new _ _)).be) HV.out).mono ?_); rintro e w6 ⟨gz, zc, rfl, hO, hb⟩; have HJ6 := Lib.hid (Jn.table ((HJ5.out.alloc 3 (.cells #[.slice none 0 0, .slice none 0 0, .slice none 0 0] 78 (0, 0)) (heap_alloc_new _ _)).alloc 2 (.cells #[] 3 (0, 0)) (heap_alloc_new _ _)) 1 hb hO); clear hO hb; (try (have s3 := atB3 (HJ6.out.fp 3).now; obtain ⟨s0, s1, s2, s4⟩ := s3; (try simp only [World.size_alloc] at s0 s1 s2 s4))); have z6 := HJ6.out.be.size)
        | ((refine step_append_new _ (by rfl) (.tmp 19) (.tmp 21) 26 (by rfl) vi vi_one wq 3 i0 (.int .i64 0) 8 u0 hi hz0 hz1 hz2 rfl _ 2 _ _ (by rfl) HJ6.out (by rfl) (by first | rfl | (simp; done) | fail) ka n kc K (by rfl) HK.out hn0 (by unfold maxLen; omega) (by omega) ?_); intro g2 d2 w7 hJ7; have HJ7 := Lib.hid hJ7; clear hJ7; (try (have s3 := atB3 (HJ7.out.fp 3).now; obtain ⟨s0, s1, s2, s4⟩ := s3; (try simp only [World.size_alloc] at s0 s1 s2 s4))); have z7 := HJ7.out.be.size)
        | ((refine step_append_new _ (by rfl) (.tmp 19) (.tmp 21) 26 (by rfl) vi vi_one wq 3 i0 (.int .i64 0) 8 u0 hi hz0 hz1 hz2 rfl _ 2 _ _ (by rfl) (HJ6.out.alloc 2 (.cells #[] 3 (0, 0)) (heap_alloc_new _ _)) (by rfl) (by first | rfl | (simp; done) | fail) ka n kc K (by rfl) HK.out hn0 (by unfold maxLen; omega) (by omega) ?_); intro g2 d2 w7 hJ7; have HJ7 := Lib.hid hJ7; clear hJ7; (try (have s3 := atB3 (HJ7.out.fp 3).now; obtain ⟨s0, s1, s2, s4⟩ := s3; (try simp only [World.size_alloc] at s0 s1 s2 s4))); have z7 := HJ7.out.be.size)
        | ((refine step_append_new _ (by rfl) (.tmp 19) (.tmp 21) 26 (by rfl) vi vi_one wq 3 i0 (.int .i64 0) 8 u0 hi hz0 hz1 hz2 rfl _ 2 _ _ (by rfl) (HJ6.out.alloc 3 (.cells #[.slice none 0 0, .slice none 0 0, .slice none 0 0] 78 (0, 0)) (heap_alloc_new _ _)) (by rfl) (by first | rfl | (simp; done) | fail) ka n kc K (by rfl) HK.out hn0 (by unfold maxLen; omega) (by omega) ?_); intro g2 d2 w7 hJ7; have HJ7 := Lib.hid hJ7; clear hJ7; (try (have s3 := atB3 (HJ7.out.fp 3).now; obtain ⟨s0, s1, s2, s4⟩ := s3; (try simp only [World.size_alloc] at s0 s1 s2 s4))); have z7 := HJ7.out.be.size)
        | ((refine step_append_new _ (by rfl) (.tmp 19) (.tmp 21) 26 (by rfl) vi vi_one wq 3 i0 (.int .i64 0) 8 u0 hi hz0 hz1 hz2 rfl _ 2 _ _ (by rfl) ((HJ6.out.alloc 2 (.cells #[] 3 (0, 0)) (heap_alloc_new _ _)).alloc 3 (.cells #[.slice none 0 0, .slice none 0 0, .slice none 0 0] 78 (0, 0)) (heap_alloc_new _ _)) (by rfl) (by first | rfl | (simp; done) | fail) ka n kc K (by rfl) HK.out hn0 (by unfold maxLen; omega) (by omega) ?_); intro g2 d2 w7 hJ7; have HJ7 := Lib.hid hJ7; clear hJ7; (try (have s3 := atB3 (HJ7.out.fp 3).now; obtain ⟨s0, s1, s2, s4⟩ := s3; (try simp only [World.size_alloc] at s0 s1 s2 s4))); have z7 := HJ7.out.be.size)
        | ((refine step_append_new _ (by rfl) (.tmp 19) (.tmp 21) 26 (by rfl) vi vi_one wq 3 i0 (.int .i64 0) 8 u0 hi hz0 hz1 hz2 rfl _ 2 _ _ (by rfl) ((HJ6.out.alloc 3 (.cells #[.slice none 0 0, .slice none 0 0, .slice none 0 0] 78 (0, 0)) (heap_alloc_new _ _)).alloc 2 (.cells #[] 3 (0, 0)) (heap_alloc_new _ _)) (by rfl) (by first | rfl | (simp; done) | fail) ka n kc K (by rfl) HK.out hn0 (by unfold maxLen; omega) (by omega) ?_); intro g2 d2 w7 hJ7; have HJ7 := Lib.hid hJ7; clear hJ7; (try (have s3 := atB3 (HJ7.out.fp 3).now; obtain ⟨s0, s1, s2, s4⟩ := s3; (try simp only [World.size_alloc] at s0 s1 s2 s4))); have z7 := HJ7.out.be.size)
        | fail)
    all_goals
      go_wp2_with fail
      go_meet
      first
        | exact ⟨_, g1, d1, gz, zc, g2, d2, rfl, made_of HJ7.out rfl rfl rfl rfl (by first | rfl | (simp; done) | fail)⟩
        | exact ⟨_, g1, d1, gz, zc, g2, d2, rfl, made_new HJ7.out rfl rfl rfl⟩
        | fail
  obtain ⟨gr, g1, d1, gz, zc, g2, d2, rfl, hM⟩ := hcut
  -- what is given
  obtain ⟨m0, m1, m2, m3⟩ := hM.out.cells
  have y0 : (h : Int) < (n : Int) := by omega
  have y1 : (o : Int) < (n : Int) := by omega
  have y2 : (t : Int) < (n : Int) := by omega
  obtain ⟨gb, e1, _, c1, f1, _⟩ := hM.out.g.cell (get_some (show h < G.length by rw [hGl.out]; exact hh) 0)
  cases e1
  obtain ⟨xg, hxg⟩ : ∃ v, v = G.getD h 0 := ⟨_, rfl⟩
  have HXG := Lib.hid hxg
  rw [← hxg] at c1 hx1 hG
  unfold vi at c1
  have k1 := iwq (a := xg - x) (by omega)
  have k2 := w64q (a := xg - x) (by omega)
  have HM2 := Lib.hid (hM.out.setG h (xg - x))
  clear hxg hx1 hG hM
  go_upto_region 3 with fail
  clear c1 f1 k1 k2 m0 m1 m2 m3
  generalize wc.setCell ⟨g1, h, none⟩ (.int .i64 (xg - x)) = wx at HM2 ⊢
  -- what it has
  obtain ⟨m0, m1, m2, m3⟩ := HM2.out.cells
  have hNh : h < N.length := by rw [hNl.out]; exact hh
  have s1 := get_some hNh ([] : List Int)
  have s2 : (N.getD h []).length = n := by rw [← hNl.out]; exact HV.out.sq h hNh
  have s3 := get_some (show o < (N.getD h []).length by rw [s2]; exact ho) (0 : Int)
  obtain ⟨gt, rt, _, k5, k6, k7, kset⟩ := HM2.out.setT s1 s3
  rw [s2] at k5
  have v5 := at2_small HV.out h o
  have hxt : (N.getD h []).getD o 0 = at2 N h o := rfl
  rw [hxt] at k6
  obtain ⟨xt, hxt2⟩ : ∃ v, v = at2 N h o := ⟨_, rfl⟩
  have HXT := Lib.hid hxt2
  rw [← hxt2] at k6 v5 hx2
  have z1 := iwq (a := xt - x) (by omega)
  have z2 := w64q (a := xt - x) (by omega)
  have HM3 := Lib.hid (kset (xt - x))
  clear s1 s2 s3 hxt hxt2 kset hx2 v5 HM2 hNh
  go_upto_region 4 with fail
  clear k5 k6 k7 z1 z2 m0 m1 m2 m3
  generalize wx.setCell ⟨gt, o, none⟩ (.int .i64 (xt - x)) = wy at HM3 ⊢
  -- what is taken
  obtain ⟨m0, m1, m2, m3⟩ := HM3.out.cells
  obtain ⟨gb, e1, _, c1, f1, _⟩ := HM3.out.k.cell (get_some (show t < K.length by rw [hKl.out]; exact ht) 0)
  cases e1
  obtain ⟨xk, hxk⟩ : ∃ v, v = K.getD t 0 := ⟨_, rfl⟩
  have HXK := Lib.hid hxk
  rw [← hxk] at c1 hx3 hK
  unfold vi at c1
  have k1 := iwq (a := xk - x) (by omega)
  have k2 := w64q (a := xk - x) (by omega)
  have HM4 := Lib.hid (HM3.out.setK t (xk - x))
  clear hxk hx3 hK HM3
  go_upto_region 5 with fail
  clear c1 f1 k1 k2 m0 m1 m2 m3
  generalize wy.setCell ⟨g2, t, none⟩ (.int .i64 (xk - x)) = wz at HM4 ⊢
  obtain ⟨m0, m1, m2, m3⟩ := HM4.out.cells
  have q0 := (HM4.out.be.block gr0 (Array.getElem?_eq_some_iff.1 HRES.out).1).trans HRES.out
  have hlt := (Array.getElem?_eq_some_iff.1 HRES.out).1
  have q1 : (wz.setCell ⟨gr0, 0, none⟩ (.slice (some ⟨g1, 0, none⟩) n d1)).heap[gr0]? = some (.cells #[.slice (some ⟨g1, 0, none⟩) n d1, .slice none 0 0, .slice none 0 0] 78 (0, 0)) := heap_setCell_same _ gr0 0 _ _ _ q0
  have q2 : ((wz.setCell ⟨gr0, 0, none⟩ (.slice (some ⟨g1, 0, none⟩) n d1)).setCell ⟨gr0, 1, none⟩ (.slice (some ⟨gz, 0, none⟩) n zc)).heap[gr0]? = some (.cells #[.slice (some ⟨g1, 0, none⟩) n d1, .slice (some ⟨gz, 0, none⟩) n zc, .slice none 0 0] 78 (0, 0)) := heap_setCell_same _ gr0 1 _ _ _ q1
  have q3 : (((wz.setCell ⟨gr0, 0, none⟩ (.slice (some ⟨g1, 0, none⟩) n d1)).setCell ⟨gr0, 1, none⟩ (.slice (some ⟨gz, 0, none⟩) n zc)).setCell ⟨gr0, 2, none⟩ (.slice (some ⟨g2, 0, none⟩) n d2)).heap[gr0]? = some (.cells #[.slice (some ⟨g1, 0, none⟩) n d1, .slice (some ⟨gz, 0, none⟩) n zc, .slice (some ⟨g2, 0, none⟩) n d2] 78 (0, 0)) := heap_setCell_same _ gr0 2 _ _ _ q2
  obtain ⟨r0, r1, r2, r3⟩ := atB3 q0
  have HQ3 := Lib.hid q3
  have HRD := Lib.hid (HM4.out.owns (w' := (((wz.setCell ⟨gr0, 0, none⟩ (.slice (some ⟨g1, 0, none⟩) n d1)).setCell ⟨gr0, 1, none⟩ (.slice (some ⟨gz, 0, none⟩) n zc)).setCell ⟨gr0, 2, none⟩ (.slice (some ⟨g2, 0, none⟩) n d2))) fun b hb => by
    have hne : b ≠ gr0 := by omega
    rw [Below.heap_setCell _ _ _ _ hne, Below.heap_setCell _ _ _ _ hne, Below.heap_setCell _ _ _ _ hne])
  have HBF : Hid (Below w.heap.size w (((wz.setCell ⟨gr0, 0, none⟩ (.slice (some ⟨g1, 0, none⟩) n d1)).setCell ⟨gr0, 1, none⟩ (.slice (some ⟨gz, 0, none⟩) n zc)).setCell ⟨gr0, 2, none⟩ (.slice (some ⟨g2, 0, none⟩) n d2))) := (((bt HBB.out HM4.out.be).setCell (p := ⟨gr0, 0, none⟩) HGM2.out _).setCell (p := ⟨gr0, 1, none⟩) HGM2.out _).setCell (p := ⟨gr0, 2, none⟩) HGM2.out _
  rw [HXG.out, HXT.out, HXK.out] at HRD
  clear q0 q1 q2 q3 hlt
  go_wp2_with fail
  clear r0 r1 r2 r3 m0 m1 m2 m3
  generalize (((wz.setCell ⟨gr0, 0, none⟩ (.slice (some ⟨g1, 0, none⟩) n d1)).setCell ⟨gr0, 1, none⟩ (.slice (some ⟨gz, 0, none⟩) n zc)).setCell ⟨gr0, 2, none⟩ (.slice (some ⟨g2, 0, none⟩) n d2)) = wf at HQ3 HRD HBF ⊢
  obtain ⟨r0, r1, r2, r3⟩ := atB3 HQ3.out
  try simp only [Exit.inBlock, Exit.then]
  refine bodyPost_ret (v := .agg #[.slice (some ⟨g1, 0, none⟩) n d1, .slice (some ⟨gz, 0, none⟩) n zc, .slice (some ⟨g2, 0, none⟩) n d2]) (by simp [results, Try.results48, go_sem, r0, r1, r2]) rfl ?_
  exact ⟨g1, d1, gz, zc, g2, d2, rfl, HRD.out.1.mono HBB.out.size, HRD.out.2.1.mono HBB.out.size, HRD.out.2.2.mono HBB.out.size, HBF.out⟩
end Go.Proofs.Ytpecepfnmkpmmaa
