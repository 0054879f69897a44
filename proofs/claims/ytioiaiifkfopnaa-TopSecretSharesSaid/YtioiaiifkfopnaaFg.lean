/- A matrix of the call's own whose rows' blocks are named; one element appended, and where the slice lies then; validThreshold. -/
import Derived.Test.YtioiaiifkfopnaaVs
import Derived.Deep.AppendLies
namespace Go.Kin
open Go.RowKit
theorem Rd.apart {α : Type} {f : α → Value} {w : World} {a : Option Addr} {n c : Nat} {l : List α} (h : Rd f w a n c l) {p : Addr} (hp : ∀ x, a = some x → x.block ≠ p.block) (v : Value) : Rd f (w.setCell p v) a n c l :=
  ⟨h.len, h.cap, h.max, h.none0, fun i x hx => by
    obtain ⟨b, o, ha, hc⟩ := h.cell i x hx
    exact ⟨b, o, ha, (World.cell?_of_block (heap_setCell_other w p b v (hp _ ha))).trans hc⟩⟩
theorem Own.apart {α : Type} {f : α → Value} {B : Nat} {E : TypeId} {w : World} {a : Option Addr} {n c : Nat} {l : List α} (h : Own f B E w a n c l) {p : Addr} (hp : ∀ x, a = some x → x.block ≠ p.block) (v : Value) : Own f B E (w.setCell p v) a n c l := by
  obtain ⟨hl, h | ⟨g, cur, rfl, hB, hg, r⟩⟩ := h
  · exact ⟨hl, .inl h⟩
  · exact ⟨hl, .inr ⟨g, cur, rfl, hB, (heap_setCell_other w p g v (hp _ rfl)).trans hg, r⟩⟩
set_option linter.unusedVariables false in
/-- One element, appended. -/
theorem wpList_pushL {α : Type} {P : Program} {w : World} {ops : Array Oper} {rest : List Oper} {o : Oper} {a : Act} {Q : Exit → Act → World → Prop} (hgd : o.guard = none) (s x : Operand) (t : TypeId)
    (ho : o.op = .call { callee := .builtin .append, args := #[s, x], argTypes := #[t, t] }) (f : α → Value) (hf : ∀ x, (f x).oneCell' = true)
    (base : Nat) (e : TypeId) (i : TypeInfo) (z : Value) (bytes : Nat) (ht : P.underlying t = some (.slice e)) (hi : P.info? e = some i) (hz : i.zero = some z)
    (hsize : i.size = 1) (hby : i.bytes = bytes) (hzs : z.cells.size = 1)
    (sa : Option Addr) (n c : Nat) (L : List α) (hs : a.eval s = .slice sa n c) (hown : Own f base e w sa n c L)
    (g0 : Nat) (v : α) (T : TypeId) (fr : Nat × Nat) (hx : a.eval x = .slice (some ⟨g0, 0, none⟩) 1 1) (hX : w.heap[g0]? = some (.cells #[f v] T fr))
    (hn : n ≤ 1000) (hby2 : bytes ≤ 100) (hbase : base ≤ w.heap.size)
    (h : ∀ g c' w', Own f base e w' (some ⟨g, 0, none⟩) (n + 1) c' (L ++ [v]) → w.grownBy w' (Value.slice sa n c).ownBlock → ((Value.slice sa n c).ownBlock = some g ∨ g = w.heap.size) → wpList P ops Q rest (a.put o.dst (.slice (some ⟨g, 0, none⟩) (n + 1) c')) w') :
    wpList P ops Q (o :: rest) a w := by
  refine wpList_append_lies w hgd s x t ho base e i z 1 bytes ht hi hz hsize hby hzs (by omega) (.slice sa n c) n (L.map f) hs hown.ownsRow ⟨g0, 0, none⟩ 1 1 [f v] hx (by simp) ?_ ?_ (by omega) (by unfold maxLen; omega) (by have : (n + 1) * bytes ≤ 1001 * 100 := Nat.mul_le_mul (by omega) hby2; omega) hbase _ rfl ?_
  · intro j u hu
    have hj : j = 0 := by have := (List.getElem?_eq_some_iff.1 hu).1; simp at this; omega
    subst hj
    cases hu
    have e : (⟨g0, 0, none⟩ : Addr).add 0 = ⟨g0, 0, none⟩ := by unfold Addr.add; split <;> simp_all
    rw [e, cell_of_row w g0 0 _ _ _ hX]; rfl
  · intro u hu
    simp at hu
    subst hu
    exact hf v
  · intro g cap w' h1 h2 h3 h4
    have e1 : L.map f ++ [f v] = (L ++ [v]).map f := by simp
    rw [e1] at h1
    obtain ⟨sa', c', he, ho'⟩ := Own.of_ownsRow h1
    cases he
    exact h g _ w' ho' h2 h3
end Go.Kin
namespace Go.Proofs.Ytioiaiifkfopnaa
open Go.RowKit Go.Kin Mat
set_option maxRecDepth 100000
set_option linter.unusedVariables false
/-- A matrix of the call's own, its rows in the blocks G. -/
def MatG (w : World) (B o : Nat) (G : List Nat) (n k : Nat) (f : Mat) : Prop :=
  G.Nodup ∧ (∀ g ∈ G, B ≤ g) ∧ Kin.Own vh B 23 w (some ⟨o, 0, none⟩) n n (G.map (hdr k)) ∧ ∀ i g, G[i]? = some g → Blk vb 5 w g (mrow k (f i))
theorem MatG.fw {w w' : World} {B o : Nat} {G : List Nat} {n k : Nat} {f : Mat} (h : MatG w B o G n k f) (hb : Below w.heap.size w w') : MatG w' B o G n k f :=
  ⟨h.1, h.2.1, h.2.2.1.fw hb, fun i g hg => (h.2.2.2 i g hg).fw hb⟩
theorem MatG.len {w : World} {B o : Nat} {G : List Nat} {n k : Nat} {f : Mat} (h : MatG w B o G n k f) : G.length = n := by
  have := h.2.2.1.len
  rwa [List.length_map] at this
theorem MatG.lt {w : World} {B o : Nat} {G : List Nat} {n k : Nat} {f : Mat} (h : MatG w B o G n k f) : ∀ g ∈ G, g < w.heap.size := fun g hg => by
  obtain ⟨i, hi⟩ := List.mem_iff_getElem?.1 hg
  exact (h.2.2.2 i g hi).lt
theorem MatG.b {w : World} {B o : Nat} {G : List Nat} {n k : Nat} {f : Mat} (h : MatG w B o G n k f) : MatB w B (some ⟨o, 0, none⟩) n n k f := ⟨G, h⟩
theorem MatG.congr {w : World} {B o : Nat} {G : List Nat} {n k : Nat} {f g : Mat} (h : MatG w B o G n k f) (hfg : ∀ i j, i < n → j < k → f i j = g i j) : MatG w B o G n k g := by
  refine ⟨h.1, h.2.1, h.2.2.1, fun i x hx => ?_⟩
  have hi : i < n := by
    have := (List.getElem?_eq_some_iff.1 hx).1
    have := h.len; omega
  rw [← mrow_congr fun c hc => hfg i c hi hc]; exact h.2.2.2 i x hx
/-- A row of such a matrix. -/
theorem MatG.at {w : World} {B o : Nat} {G : List Nat} {n k : Nat} {f : Mat} (h : MatG w B o G n k f) {i : Nat} (hi : i < n) :
    ∃ g, g ∈ G ∧ B ≤ g ∧ w.cell? ⟨o, i, none⟩ = some (.slice (some ⟨g, 0, none⟩) k k) ∧ Blk vb 5 w g (mrow k (f i)) ∧
      (∀ (j v : Nat), v < 256 → MatG (w.setCell ⟨g, j, none⟩ (.int .u8 (v : Int))) B o G n k (setEl f i j (Fq.of v))) := by
  have hlen := h.len
  obtain ⟨h1, h2, h3, h4⟩ := h
  have hg := List.getElem?_eq_getElem (show i < G.length by omega)
  have hx : (G.map (hdr k))[i]? = some (hdr k G[i]) := by rw [List.getElem?_map, hg]; rfl
  obtain ⟨o', ha, hBo, hc, _, cur, hcur⟩ := h3.cell hx
  cases ha
  have hb := h4 i _ hg
  refine ⟨G[i], List.mem_of_getElem? hg, h2 _ (List.mem_of_getElem? hg), hc, hb, fun j v hv => ?_⟩
  refine ⟨h1, h2, h3.otherT (p := ⟨G[i], j, none⟩) hb tt _, fun i' g' hg' => ?_⟩
  by_cases e : i' = i
  · subst e
    rw [hg] at hg'
    cases hg'
    have := hb.set j v
    rw [mrow_set _ _ hv] at this
    rw [mrow_congr (g := fun c => if c = j then Fq.of v else f i' c) fun c _ => by
      unfold setEl
      by_cases h : c = j
      · rw [if_pos ⟨rfl, h⟩, if_pos h]
      · rw [if_neg (fun h2 => h h2.2), if_neg h]]
    exact this
  · have hne : g' ≠ G[i] := by
      rintro rfl
      have hl := (List.getElem?_eq_some_iff.1 hg').1
      have he := (List.getElem?_eq_some_iff.1 hg').2
      exact e ((List.getElem_inj h1).1 he)
    rw [mrow_congr (g := f i') fun c _ => by unfold setEl; rw [if_neg (fun h2 => e h2.1)]]
    exact (h4 i' g' hg').other _ _ hne
theorem validT_any (t : Int) (i1 : 1 ≤ t) (i2 : t ≤ 16) (w : World) : Calls Try.prog 26 #[.int .i64 t] w fun e w' => e = .returned (.bool true) ∧ w' = w := by
  go_enter Try.func26, Try.ntmps26
  go_wp2
  go_ret
  exact ⟨rfl, rfl⟩
end Go.Proofs.Ytioiaiifkfopnaa
