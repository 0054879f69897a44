/- Slices that do not share a block; append where one wants to know where the slice lies; tables of the call's own. -/
import Derived.Test.YtpecepfnmkpmmaaQd
import Derived.Test.YtpecepfnmkpmmaaStep
import Derived.Deep.RegionHeld
namespace Go.Kin
open Go.RowKit
def Apart (a b : Option Addr) : Prop := ∀ x y, a = some x → b = some y → x.block ≠ y.block
theorem Own.grownP {α : Type} {f : α → Value} {B : Nat} {E : TypeId} {w w' : World} {a a' : Option Addr} {n c n' c' : Nat} {l : List α} (h : Own f B E w a n c l) (hg : w.grownBy w' (Value.slice a' n' c').ownBlock) (hA : Apart a a') : Own f B E w' a n c l := by
  cases a' with
  | none => 
    obtain ⟨hl, h1 | ⟨g, cur, rfl, hB1, hgr, r⟩⟩ := h
    · exact ⟨hl, .inl h1⟩
    · refine ⟨hl, .inr ⟨g, cur, rfl, hB1, ?_, r⟩⟩
      rw [hg.block g (Array.getElem?_eq_some_iff.1 hgr).1 (by simp [Value.ownBlock])]
      exact hgr
  | some x =>
    obtain ⟨hl, h1 | ⟨g, cur, rfl, hB1, hgr, r⟩⟩ := h
    · exact ⟨hl, .inl h1⟩
    · refine ⟨hl, .inr ⟨g, cur, rfl, hB1, ?_, r⟩⟩
      have := hA _ x rfl rfl
      rw [hg.block g (Array.getElem?_eq_some_iff.1 hgr).1 (by simp [Value.ownBlock]; exact this)]
      exact hgr
theorem Own.blt {α : Type} {f : α → Value} {B : Nat} {E : TypeId} {w : World} {a : Option Addr} {n c : Nat} {l : List α} (h : Own f B E w a n c l) {x : Addr} (hx : a = some x) : x.block < w.heap.size := by
  obtain ⟨hl, h1 | ⟨g, cur, rfl, hB1, hgr, r⟩⟩ := h
  · rw [h1.1] at hx; cases hx
  · cases hx; exact (Array.getElem?_eq_some_iff.1 hgr).1
theorem Own.bge {α : Type} {f : α → Value} {B : Nat} {E : TypeId} {w : World} {a : Option Addr} {n c : Nat} {l : List α} (h : Own f B E w a n c l) {x : Addr} (hx : a = some x) : B ≤ x.block := by
  obtain ⟨hl, h1 | ⟨g, cur, rfl, hB1, hgr, r⟩⟩ := h
  · rw [h1.1] at hx; cases hx
  · cases hx; exact hB1
theorem Apart.symm {a b : Option Addr} (h : Apart a b) : Apart b a := fun x y hx hy => (h y x hy hx).symm
/-- Where an append has laid its slice, another slice of the call's own does not lie. -/
theorem Apart.lies {α : Type} {f : α → Value} {B : Nat} {E : TypeId} {w : World} {a b : Option Addr} {n c m d g H : Nat} {l : List α} (h : Apart a b) (hb : Own f B E w b m d l) (hl : (Value.slice a n c).ownBlock = some g ∨ g = H) (hH : w.heap.size = H) : Apart (some ⟨g, 0, none⟩) b := by
  intro x y hx hy
  cases hx
  show g ≠ y.block
  rcases hl with hl | rfl
  · cases a with
    | none => cases hl
    | some z =>
      have := h z y rfl hy
      have e : z.block = g := by simpa [Value.ownBlock] using hl
      rw [← e]; exact this
  · have := hb.blt hy
    omega
theorem rd_one {α : Type} {f : α → Value} {w : World} {g : Nat} {v : α} {T : TypeId} {fr : Nat × Nat} (h : w.heap[g]? = some (.cells #[f v] T fr)) : Rd f w (some ⟨g, 0, none⟩) 1 1 [v] := by
  refine ⟨rfl, by omega, by unfold maxLen; omega, fun e => (by cases e), fun i x hx => ⟨g, 0, rfl, ?_⟩⟩
  have hi : i = 0 := by have := (List.getElem?_eq_some_iff.1 hx).1; simp at this; omega
  subst hi
  cases hx
  rw [cell_of_row w g _ _ _ _ h]; rfl
/-- One element, appended at a step of a region that draws its order; where the slice lies then. -/
theorem step_push {α : Type} {P : Program} (w : World) {ops : Array Oper} {o : Oper} {a : Act} {K : Act → World → Prop} {Q : Exit → Act → World → Prop} {E : Prop} (hgd : o.guard = none) (s x : Operand) (t : TypeId)
    (ho : o.op = .call { callee := .builtin .append, args := #[s, x], argTypes := #[t, t] }) (f : α → Value) (hf : ∀ x, (f x).oneCell' = true)
    (base : Nat) (e : TypeId) (i : TypeInfo) (z : Value) (bytes : Nat) (ht : P.underlying t = some (.slice e)) (hi : P.info? e = some i) (hz : i.zero = some z)
    (hsize : i.size = 1) (hby : i.bytes = bytes) (hzs : z.cells.size = 1)
    (sa : Option Addr) (n c : Nat) (L : List α) (hs : a.eval s = .slice sa n c) (hown : Own f base e w sa n c L)
    (g0 : Nat) (v : α) (T : TypeId) (fr : Nat × Nat) (hx : a.eval x = .slice (some ⟨g0, 0, none⟩) 1 1) (hX : w.heap[g0]? = some (.cells #[f v] T fr))
    (hn : n ≤ 100000) (hby2 : bytes ≤ 100) (hbase : base ≤ w.heap.size)
    (h : ∀ g c' w', Own f base e w' (some ⟨g, 0, none⟩) (n + 1) c' (L ++ [v]) → w.grownBy w' (Value.slice sa n c).ownBlock → ((Value.slice sa n c).ownBlock = some g ∨ g = w.heap.size) → K (a.put o.dst (.slice (some ⟨g, 0, none⟩) (n + 1) c')) w') :
    if Region.wanted o (yielded ops a.tmps) = true then Oper.wp P o a w K Q else E := by
  have hR := rd_one hX
  refine step_append_lies w hgd s x t ho base e i z 1 bytes ht hi hz hsize hby hzs (by omega) (.slice sa n c) n (L.map f) hs hown.ownsRow ⟨g0, 0, none⟩ 1 1 [f v] hx (by simp) ?_ ?_ (by omega) (by unfold maxLen; omega) (by have : (n + 1) * bytes ≤ 100001 * 100 := Nat.mul_le_mul (by omega) hby2; omega) hbase _ rfl ?_
  · intro j u hu
    have hj : j = 0 := by have := (List.getElem?_eq_some_iff.1 hu).1; simp at this; omega
    subst hj
    cases hu
    obtain ⟨b, o, hb, hc⟩ := hR.cell 0 v rfl
    cases hb
    simpa [Addr.add] using hc
  · intro u hu
    simp at hu
    subst hu
    exact hf v
  · intro g cap w' h1 h2 h3 h4
    have e1 : L.map f ++ [f v] = (L ++ [v]).map f := by simp
    rw [e1] at h1
    obtain ⟨sa', c', he, ho'⟩ := Own.of_ownsRow h1
    cases he
    exact h g _ w' ho' h2 h3

/-- One element, appended in the walk. -/
theorem wpList_push {α : Type} {P : Program} {w : World} {ops : Array Oper} {rest : List Oper} {o : Oper} {a : Act} {Q : Exit → Act → World → Prop} (hgd : o.guard = none) (s x : Operand) (t : TypeId)
    (ho : o.op = .call { callee := .builtin .append, args := #[s, x], argTypes := #[t, t] }) (f : α → Value) (hf : ∀ x, (f x).oneCell' = true)
    (base : Nat) (e : TypeId) (i : TypeInfo) (z : Value) (bytes : Nat) (ht : P.underlying t = some (.slice e)) (hi : P.info? e = some i) (hz : i.zero = some z)
    (hsize : i.size = 1) (hby : i.bytes = bytes) (hzs : z.cells.size = 1)
    (sa : Option Addr) (n c : Nat) (L : List α) (hs : a.eval s = .slice sa n c) (hown : Own f base e w sa n c L)
    (xa : Addr) (m d : Nat) (X : List α) (hx : a.eval x = .slice (some xa) m d) (hX : Rd f w (some xa) m d X) (hm : 0 < m)
    (h63 : n + m ≤ maxLen) (hbytes : (n + m) * bytes ≤ 140737488355328) (hbase : base ≤ w.heap.size)
    (h : ∀ g c' w', Own f base e w' (some ⟨g, 0, none⟩) (n + m) c' (L ++ X) → w.grownBy w' (Value.slice sa n c).ownBlock → ((Value.slice sa n c).ownBlock = some g ∨ g = w.heap.size) → wpList P ops Q rest (a.put o.dst (.slice (some ⟨g, 0, none⟩) (n + m) c')) w') : wpList P ops Q (o :: rest) a w := by
  refine wpList_append_lies w hgd s x t ho base e i z 1 bytes ht hi hz hsize hby hzs (by omega) (.slice sa n c) n (L.map f) hs hown.ownsRow xa m d (X.map f) hx (by rw [List.length_map, hX.len, Nat.mul_one]) ?_ ?_ hm h63 hbytes hbase _ rfl ?_
  · intro j u hu
    rw [List.getElem?_map] at hu
    cases hj : X[j]? with
    | none => rw [hj] at hu; cases hu
    | some y =>
      rw [hj] at hu
      cases hu
      obtain ⟨b, o, ha, hc⟩ := hX.cell j y hj
      cases ha
      have e : (⟨b, o, none⟩ : Addr).add j = ⟨b, o + j, none⟩ := by unfold Addr.add; split <;> simp_all
      rw [e]; exact hc
  · intro u hu
    obtain ⟨y, _, rfl⟩ := List.mem_map.1 hu
    exact hf y
  · intro g cap w' h1 h2 h3 h4
    rw [← List.map_append] at h1
    obtain ⟨sa', c', he, ho'⟩ := Own.of_ownsRow h1
    cases he
    exact h g _ w' ho' h2 h3
theorem Own.otherT {α : Type} {f : α → Value} {B : Nat} {E E' : TypeId} {w : World} {a : Option Addr} {n c : Nat} {l : List α} {cur : Array Value} {p : Addr} (h : Own f B E w a n c l) (hp : w.heap[p.block]? = some (.cells cur E' (0, 0))) (hE : E ≠ E') (v : Value) : Own f B E (w.setCell p v) a n c l := by
  obtain ⟨hl, h1 | ⟨g, cur', rfl, hB1, hgr, r⟩⟩ := h
  · exact ⟨hl, .inl h1⟩
  · refine ⟨hl, .inr ⟨g, cur', rfl, hB1, ?_, r⟩⟩
    rw [Below.heap_setCell _ _ _ _ (by intro e; rw [e, hp] at hgr; cases hgr; exact hE rfl)]
    exact hgr
theorem Own.other {α : Type} {f : α → Value} {B : Nat} {E : TypeId} {w : World} {a : Option Addr} {n c : Nat} {l : List α} {p : Addr} (h : Own f B E w a n c l) (hp : ∀ x, a = some x → x.block ≠ p.block) (v : Value) : Own f B E (w.setCell p v) a n c l := by
  obtain ⟨hl, h1 | ⟨g, cur', rfl, hB1, hgr, r⟩⟩ := h
  · exact ⟨hl, .inl h1⟩
  · refine ⟨hl, .inr ⟨g, cur', rfl, hB1, ?_, r⟩⟩
    rw [Below.heap_setCell _ _ _ _ (hp _ rfl)]
    exact hgr
theorem Own.set {α : Type} {f : α → Value} {B : Nat} {E : TypeId} {w : World} {g n c : Nat} {l : List α} (h : Own f B E w (some ⟨g, 0, none⟩) n c l) (i : Nat) (x : α) : Own f B E (w.setCell ⟨g, i, none⟩ (f x)) (some ⟨g, 0, none⟩) n c (l.set i x) := by
  obtain ⟨hl, h1 | ⟨g', cur, he, hB1, hgr, h1, h2, h3, h4⟩⟩ := h
  · cases h1.1
  · cases he
    refine ⟨by rw [List.length_set]; exact hl, .inr ⟨g, cur.setIfInBounds i (f x), rfl, hB1, heap_setCell_same w g i _ E _ hgr, h1, h2, by simpa using h3, ?_⟩⟩
    rw [Array.toList_setIfInBounds, List.map_set, ← h4, List.take_set]
theorem Own.cell {α : Type} {f : α → Value} {B : Nat} {E : TypeId} {w : World} {a : Option Addr} {n c : Nat} {l : List α} (h : Own f B E w a n c l) {i : Nat} {x : α} (hx : l[i]? = some x) : ∃ g, a = some ⟨g, 0, none⟩ ∧ B ≤ g ∧ w.cell? ⟨g, i, none⟩ = some (f x) ∧ w.frozen? ⟨g, i, none⟩ = false ∧ ∃ cur, w.heap[g]? = some (.cells cur E (0, 0)) := by
  obtain ⟨b, o, ha, hc⟩ := h.rd.cell i x hx
  obtain ⟨hl, h1 | ⟨g', cur, he, hB1, hgr, r⟩⟩ := h
  · rw [h1.1] at ha; cases ha
  · subst he
    cases ha
    rw [Nat.zero_add] at hc
    exact ⟨_, rfl, hB1, hc, frozen_of_row w _ i _ _ hgr, cur, hgr⟩
theorem Own.grownT {α β : Type} {f : α → Value} {f' : β → Value} {B B' : Nat} {E E' : TypeId} {w w' : World} {a a' : Option Addr} {n c n' c' : Nat} {l : List α} {l' : List β} (h : Own f B E w a n c l) (h' : Own f' B' E' w a' n' c' l') (hE : E ≠ E') (hg : w.grownBy w' (Value.slice a' n' c').ownBlock) : Own f B E w' a n c l := by
  refine h.grownP hg fun x y hx hy => ?_
  obtain ⟨hl, h1 | ⟨g, cur, rfl, hB1, hgr, r⟩⟩ := h
  · rw [h1.1] at hx; cases hx
  · cases hx
    obtain ⟨hl', h1' | ⟨g', cur', rfl, hB1', hgr', r'⟩⟩ := h'
    · rw [h1'.1] at hy; cases hy
    · cases hy
      intro e
      change g = g' at e
      subst e
      rw [hgr] at hgr'
      cases hgr'
      exact hE rfl
theorem Apart.none_left (b : Option Addr) : Apart none b := fun x y hx => by cases hx
theorem Apart.none_right (b : Option Addr) : Apart b none := fun x y _ hy => by cases hy

/-- Headers of slices no two of which lie in one block. -/
def Scat (L : List (Option Addr × Nat × Nat)) : Prop := ∀ (i j : Nat) (h k : Option Addr × Nat × Nat), i ≠ j → L[i]? = some h → L[j]? = some k → Apart h.1 k.1
theorem Scat.nil : Scat [] := by
  intro i j h k _ hi
  simp at hi
theorem Scat.snoc {L : List (Option Addr × Nat × Nat)} (h : Scat L) {x : Option Addr × Nat × Nat} (hx : ∀ (i : Nat) (k : Option Addr × Nat × Nat), L[i]? = some k → Apart k.1 x.1) : Scat (L ++ [x]) := by
  have last : ∀ i k, (L ++ [x])[i]? = some k → ¬ i < L.length → i = L.length ∧ k = x := by
    intro i k hk hi
    rw [List.getElem?_append_right (by omega)] at hk
    rcases Nat.eq_zero_or_pos (i - L.length) with e | e
    · rw [e] at hk
      exact ⟨by omega, by simpa using hk.symm⟩
    · rw [List.getElem?_eq_none (by simp; omega)] at hk; cases hk
  intro i j p q hij hp hq
  by_cases hi : i < L.length
  · rw [List.getElem?_append_left hi] at hp
    by_cases hj : j < L.length
    · rw [List.getElem?_append_left hj] at hq
      exact h i j p q hij hp hq
    · obtain ⟨_, rfl⟩ := last j q hq hj
      exact hx i p hp
  · obtain ⟨h1, rfl⟩ := last i p hp hi
    by_cases hj : j < L.length
    · rw [List.getElem?_append_left hj] at hq
      exact (hx j q hq).symm
    · obtain ⟨h2, _⟩ := last j q hq hj
      omega
theorem Scat.set {L : List (Option Addr × Nat × Nat)} (h : Scat L) {r : Nat} {x : Option Addr × Nat × Nat} (hx : ∀ i k, i ≠ r → L[i]? = some k → Apart k.1 x.1) : Scat (L.set r x) := by
  have key : ∀ i k, (L.set r x)[i]? = some k → (i = r ∧ k = x) ∨ (i ≠ r ∧ L[i]? = some k) := by
    intro i k hk
    rw [List.getElem?_set] at hk
    by_cases e : r = i
    · rw [if_pos e] at hk
      split at hk
      · exact .inl ⟨e.symm, by simpa using hk.symm⟩
      · cases hk
    · rw [if_neg e] at hk
      exact .inr ⟨fun e2 => e e2.symm, hk⟩
  intro i j p q hij hp hq
  rcases key i p hp with ⟨h1, rfl⟩ | ⟨h1, h1'⟩
  · rcases key j q hq with ⟨h2, rfl⟩ | ⟨h2, h2'⟩
    · omega
    · exact (hx j q h2 h2').symm
  · rcases key j q hq with ⟨h2, rfl⟩ | ⟨h2, h2'⟩
    · exact hx i p h1 h1'
    · exact h i j p q hij h1' h2'
end Go.Kin

namespace Go.Proofs.Ytpecepfnmkpmmaa
open Go.RowKit Go.Kin Quo
set_option maxRecDepth 100000
set_option linter.unusedVariables false
theorem tSI : (26 : TypeId) ≠ 3 := by decide
theorem tIS : (3 : TypeId) ≠ 26 := by decide

/-- A table of the call's own: every row in a block of its own. -/
def OwnT (w : World) (B : Nat) (a : Option Addr) (n c : Nat) (T : Tab) : Prop :=
  ∃ L, Own vh B 26 w a n c L ∧ T.length = n ∧ Scat L ∧ ∀ (i : Nat) (h : Option Addr × Nat × Nat) (m : List Int), L[i]? = some h → T[i]? = some m → Own vi B 3 w h.1 h.2.1 h.2.2 m
theorem OwnT.fw {w w' : World} {B : Nat} {a : Option Addr} {n c : Nat} {T : Tab} (h : OwnT w B a n c T) (hb : Below w.heap.size w w') : OwnT w' B a n c T := by
  obtain ⟨L, h1, h2, h3, h4⟩ := h
  exact ⟨L, h1.fw hb, h2, h3, fun i x m hi hm => (h4 i x m hi hm).fw hb⟩
theorem OwnT.mono {w : World} {B B' : Nat} {a : Option Addr} {n c : Nat} {T : Tab} (h : OwnT w B a n c T) (hB : B' ≤ B) : OwnT w B' a n c T := by
  obtain ⟨L, h1, h2, h3, h4⟩ := h
  exact ⟨L, h1.mono hB, h2, h3, fun i x m hi hm => (h4 i x m hi hm).mono hB⟩
theorem OwnT.len {w : World} {B : Nat} {a : Option Addr} {n c : Nat} {T : Tab} (h : OwnT w B a n c T) : T.length = n := by obtain ⟨_, _, h, _⟩ := h; exact h
theorem OwnT.rdt {w : World} {B : Nat} {a : Option Addr} {n c : Nat} {T : Tab} (h : OwnT w B a n c T) : RdT w a n c T := by
  obtain ⟨L, h1, h2, h3, h4⟩ := h
  exact ⟨L, h1.rd, h2, fun i x m hi hm => (h4 i x m hi hm).rd⟩
/-- One number of the table: where it lies, and what storing another there makes of the table. -/
theorem OwnT.at {w : World} {B : Nat} {a : Option Addr} {n c : Nat} {T : Tab} (h : OwnT w B a n c T) {i j : Nat} {r : List Int} {x : Int} (hr : T[i]? = some r) (hx : r[j]? = some x) :
    ∃ (o g : Nat) (rc : Nat), a = some ⟨o, 0, none⟩ ∧ B ≤ o ∧ B ≤ g ∧ w.cell? ⟨o, i, none⟩ = some (.slice (some ⟨g, 0, none⟩) r.length rc) ∧ w.cell? ⟨g, j, none⟩ = some (.int .i64 x) ∧ w.frozen? ⟨g, j, none⟩ = false ∧
      (∀ y : Int, OwnT (w.setCell ⟨g, j, none⟩ (.int .i64 y)) B a n c (T.set i (r.set j y))) ∧ (∀ y : Int, (w.setCell ⟨g, j, none⟩ (.int .i64 y)).cell? ⟨o, i, none⟩ = some (.slice (some ⟨g, 0, none⟩) r.length rc)) := by
  obtain ⟨L, h1, h2, h3, h4⟩ := h
  have hi : i < L.length := by
    have := (List.getElem?_eq_some_iff.1 hr).1
    rw [h1.len]; omega
  have hy := List.getElem?_eq_getElem hi
  obtain ⟨o, ha, hBo, hc, hf, cur, hcur⟩ := h1.cell hy
  have hrow := h4 i _ r hy hr
  obtain ⟨g, hg, hBg, hc2, hf2, cur2, hcur2⟩ := hrow.cell hx
  have hlen : L[i].2.1 = r.length := hrow.len.symm
  have hne : o ≠ g := by
    rintro rfl
    rw [hcur] at hcur2
    cases hcur2
  have hco : w.cell? ⟨o, i, none⟩ = some (.slice (some ⟨g, 0, none⟩) r.length L[i].2.2) := by
    rw [hc]; unfold vh; rw [hg, hlen]
  refine ⟨o, g, L[i].2.2, ha, hBo, hBg, hco, hc2, hf2, fun y => ?_, fun y => ?_⟩
  · refine ⟨L, h1.otherT (p := ⟨g, j, none⟩) hcur2 tSI _, by rw [List.length_set]; exact h2, h3, fun i' x' m' hi' hm' => ?_⟩
    rw [List.getElem?_set] at hm'
    by_cases e : i = i'
    · subst e
      rw [if_pos rfl] at hm'
      rw [hy] at hi'
      cases hi'
      have : m' = r.set j y := by
        split at hm'
        · simpa using hm'.symm
        · cases hm'
      subst this
      rw [hg] at hrow ⊢
      exact hrow.set j y
    · rw [if_neg e] at hm'
      refine (h4 i' x' m' hi' hm').other (p := ⟨g, j, none⟩) (fun z hz e2 => ?_) _
      exact h3 i i' _ _ e hy hi' _ _ hg hz e2.symm
  · exact (World.cell?_setCell_far w ⟨g, j, none⟩ ⟨o, i, none⟩ _ (fun e => hne e.symm)).trans hco
/-- The same, all rows in blocks below U. -/
def OwnTU (w : World) (B U : Nat) (a : Option Addr) (n c : Nat) (T : Tab) : Prop :=
  ∃ L, Own vh B 26 w a n c L ∧ T.length = n ∧ Scat L ∧ (∀ (i : Nat) (h : Option Addr × Nat × Nat) (m : List Int), L[i]? = some h → T[i]? = some m → Own vi B 3 w h.1 h.2.1 h.2.2 m) ∧ ∀ (i : Nat) (h : Option Addr × Nat × Nat), L[i]? = some h → ∀ x, h.1 = some x → x.block < U
theorem OwnTU.own {w : World} {B U : Nat} {a : Option Addr} {n c : Nat} {T : Tab} (h : OwnTU w B U a n c T) : OwnT w B a n c T := by
  obtain ⟨L, h1, h2, h3, h4, _⟩ := h
  exact ⟨L, h1, h2, h3, h4⟩
theorem OwnT.up {w : World} {B : Nat} {a : Option Addr} {n c : Nat} {T : Tab} (h : OwnT w B a n c T) : OwnTU w B w.heap.size a n c T := by
  obtain ⟨L, h1, h2, h3, h4⟩ := h
  refine ⟨L, h1, h2, h3, h4, fun i x hx y hy => ?_⟩
  have hi : i < T.length := by
    have := (List.getElem?_eq_some_iff.1 hx).1
    rw [h1.len] at this; omega
  exact (h4 i x _ hx (List.getElem?_eq_getElem hi)).blt hy
theorem OwnTU.fw {w w' : World} {B U : Nat} {a : Option Addr} {n c : Nat} {T : Tab} (h : OwnTU w B U a n c T) (hb : Below w.heap.size w w') : OwnTU w' B U a n c T := by
  obtain ⟨L, h1, h2, h3, h4, h5⟩ := h
  exact ⟨L, h1.fw hb, h2, h3, fun i x m hi hm => (h4 i x m hi hm).fw hb, h5⟩
/-- One number of the table: where it lies, and what storing another there makes of the table. -/
theorem OwnTU.at {w : World} {B U : Nat} {a : Option Addr} {n c : Nat} {T : Tab} (h : OwnTU w B U a n c T) {i j : Nat} {r : List Int} {x : Int} (hr : T[i]? = some r) (hx : r[j]? = some x) :
    ∃ (o g : Nat) (rc : Nat), a = some ⟨o, 0, none⟩ ∧ B ≤ o ∧ B ≤ g ∧ g < U ∧ w.cell? ⟨o, i, none⟩ = some (.slice (some ⟨g, 0, none⟩) r.length rc) ∧ w.cell? ⟨g, j, none⟩ = some (.int .i64 x) ∧ w.frozen? ⟨g, j, none⟩ = false ∧
      (∀ y : Int, OwnTU (w.setCell ⟨g, j, none⟩ (.int .i64 y)) B U a n c (T.set i (r.set j y))) ∧ (∀ y : Int, (w.setCell ⟨g, j, none⟩ (.int .i64 y)).cell? ⟨o, i, none⟩ = some (.slice (some ⟨g, 0, none⟩) r.length rc)) := by
  obtain ⟨L, h1, h2, h3, h4, h5⟩ := h
  have hi : i < L.length := by
    have := (List.getElem?_eq_some_iff.1 hr).1
    rw [h1.len]; omega
  have hy := List.getElem?_eq_getElem hi
  obtain ⟨o, ha, hBo, hc, hf, cur, hcur⟩ := h1.cell hy
  have hrow := h4 i _ r hy hr
  obtain ⟨g, hg, hBg, hc2, hf2, cur2, hcur2⟩ := hrow.cell hx
  have hlen : L[i].2.1 = r.length := hrow.len.symm
  have hne : o ≠ g := by
    rintro rfl
    rw [hcur] at hcur2
    cases hcur2
  have hco : w.cell? ⟨o, i, none⟩ = some (.slice (some ⟨g, 0, none⟩) r.length L[i].2.2) := by
    rw [hc]; unfold vh; rw [hg, hlen]
  refine ⟨o, g, L[i].2.2, ha, hBo, hBg, h5 i _ hy _ hg, hco, hc2, hf2, fun y => ?_, fun y => ?_⟩
  · refine ⟨L, h1.otherT (p := ⟨g, j, none⟩) hcur2 tSI _, by rw [List.length_set]; exact h2, h3, fun i' x' m' hi' hm' => ?_, h5⟩
    rw [List.getElem?_set] at hm'
    by_cases e : i = i'
    · subst e
      rw [if_pos rfl] at hm'
      rw [hy] at hi'
      cases hi'
      have : m' = r.set j y := by
        split at hm'
        · simpa using hm'.symm
        · cases hm'
      subst this
      rw [hg] at hrow ⊢
      exact hrow.set j y
    · rw [if_neg e] at hm'
      refine (h4 i' x' m' hi' hm').other (p := ⟨g, j, none⟩) (fun z hz e2 => ?_) _
      exact h3 i i' _ _ e hy hi' _ _ hg hz e2.symm
  · exact (World.cell?_setCell_far w ⟨g, j, none⟩ ⟨o, i, none⟩ _ (fun e => hne e.symm)).trans hco
end Go.Proofs.Ytpecepfnmkpmmaa
