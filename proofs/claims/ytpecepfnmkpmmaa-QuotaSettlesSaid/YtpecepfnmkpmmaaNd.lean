/- quota: newNetwork; reading a network; the search for a way, plain. -/
import Derived.Test.YtpecepfnmkpmmaaNc
namespace Quo
def visit (g : Net) (s : Nat) (st : List Int × List Nat) (k : Nat) : List Int × List Nat :=
  if 0 < g.room k ∧ g.tip k ≠ s ∧ st.1.getD (g.tip k) 0 < 0 then (st.1.set (g.tip k) (k : Int), st.2 ++ [g.tip k]) else st
def bfs (g : Net) (s t : Nat) : Nat → List Int → List Nat → Option (List Int)
  | 0, _, _ => none
  | _ + 1, b, [] => some b
  | f + 1, b, v :: q => if b.getD t 0 < 0 then bfs g s t f ((g.out.getD v []).foldl (visit g s) (b, q)).1 ((g.out.getD v []).foldl (visit g s) (b, q)).2 else some b
def back (g : Net) (s : Nat) (b : List Int) : Nat → Nat → List Nat → Option (List Nat)
  | 0, _, _ => none
  | f + 1, v, way => if v = s then some way else if b.getD v 0 < 0 then none else back g s b f (g.tip ((b.getD v 0).toNat ^^^ 1)) (way ++ [(b.getD v 0).toNat])
def routeF (g : Net) (s t f : Nat) : Option (List Nat) :=
  match bfs g s t f (List.replicate g.out.length (-1)) [s] with
  | none => none
  | some b => if b.getD t 0 < 0 then some [] else back g s b f t []
/-- How many nodes have not been reached. -/
def neg (b : List Int) : Nat := b.countP fun x => decide (x < 0)
/-- A network whose numbers all mean something. -/
structure NetOk (g : Net) : Prop where
  nodes : g.out.length ≤ 1000
  arcs : g.arcs.length ≤ 10000
  even : ∀ k, k < g.arcs.length → k ^^^ 1 < g.arcs.length
  tips : ∀ k, k < g.arcs.length → g.tip k < g.out.length
  out : ∀ m ∈ g.out, ∀ k ∈ m, k < g.arcs.length
  rows : ∀ m ∈ g.out, m.length ≤ 10000
/-- The numbers by which nodes were reached. -/
def ByOk (g : Net) (b : List Int) : Prop := b.length = g.out.length ∧ ∀ x ∈ b, x = -1 ∨ ∃ k : Nat, k < g.arcs.length ∧ x = (k : Int)
def QOk (g : Net) (q : List Nat) : Prop := ∀ v ∈ q, v < g.out.length
theorem ByOk.bound {g : Net} {b : List Int} (h : ByOk g b) (ho : NetOk g) {x : Int} (hx : x ∈ b) : -1 ≤ x ∧ x ≤ 10000 := by
  have := ho.arcs
  rcases h.2 x hx with e | ⟨k, h1, h2⟩ <;> omega
theorem visit_ok {g : Net} (ho : NetOk g) {s k : Nat} (hk : k < g.arcs.length) {st : List Int × List Nat} (h1 : ByOk g st.1) (h2 : QOk g st.2) : ByOk g (visit g s st k).1 ∧ QOk g (visit g s st k).2 := by
  unfold visit
  split
  · refine ⟨⟨by rw [List.length_set]; exact h1.1, fun x hx => ?_⟩, fun v hv => ?_⟩
    · rcases List.mem_or_eq_of_mem_set hx with h | h
      · exact h1.2 x h
      · exact .inr ⟨k, hk, h⟩
    · rcases List.mem_append.1 hv with h | h
      · exact h2 v h
      · have : v = g.tip k := by simpa using h
        rw [this]; exact ho.tips k hk
  · exact ⟨h1, h2⟩
theorem visit_neg {g : Net} (ho : NetOk g) {s k : Nat} (hk : k < g.arcs.length) {st : List Int × List Nat} (h1 : ByOk g st.1) : neg (visit g s st k).1 + (visit g s st k).2.length = neg st.1 + st.2.length := by
  unfold visit
  split
  · rename_i hc
    have hl : g.tip k < st.1.length := by rw [h1.1]; exact ho.tips k hk
    have hx : st.1.getD (g.tip k) 0 = st.1[g.tip k] := getD_of (List.getElem?_eq_getElem hl)
    have hneg : st.1[g.tip k] < 0 := by rw [← hx]; exact hc.2.2
    show (st.1.set (g.tip k) (k : Int)).countP _ + (st.2 ++ [g.tip k]).length = _
    rw [List.countP_set hl, List.length_append]
    have hpos : 0 < st.1.countP fun x => decide (x < 0) := List.countP_pos_iff.2 ⟨_, List.getElem_mem hl, by simpa using hneg⟩
    have e1 : decide (st.1[g.tip k] < 0) = true := decide_eq_true hneg
    have e2 : decide ((k : Int) < 0) = false := by simp
    rw [e1, e2]
    simp
    unfold neg
    omega
  · rfl
theorem visits_ok {g : Net} (ho : NetOk g) {s : Nat} : ∀ (m : List Nat) (st : List Int × List Nat), (∀ k ∈ m, k < g.arcs.length) → ByOk g st.1 → QOk g st.2 → ByOk g (m.foldl (visit g s) st).1 ∧ QOk g (m.foldl (visit g s) st).2
  | [], st, _, h1, h2 => ⟨h1, h2⟩
  | k :: m, st, hm, h1, h2 => by
    have := visit_ok ho (s := s) (hm k (List.mem_cons_self ..)) h1 h2
    exact visits_ok ho m _ (fun x hx => hm x (List.mem_cons_of_mem _ hx)) this.1 this.2
theorem visits_snoc (g : Net) (s : Nat) (st : List Int × List Nat) {m : List Nat} {j k : Nat} (h : m[j]? = some k) : (m.take (j + 1)).foldl (visit g s) st = visit g s ((m.take j).foldl (visit g s) st) k := by
  rw [List.take_add_one, h]
  simp
end Quo

namespace Go.Proofs.Ytpecepfnmkpmmaa
open Go.RowKit Go.Kin Quo
set_option maxRecDepth 100000
set_option linter.unusedVariables false
/-- An arc of the network. -/
theorem NetM.arcAt {w : World} {B : Nat} {X : List Nat} {bg : Nat} {g : Net} (h : NetM w B X bg g) {k : Nat} (hk : k < g.arcs.length) :
    ∃ ag ac, w.cell? ⟨bg, 0, none⟩ = some (.slice (some ⟨ag, 0, none⟩) g.arcs.length ac) ∧ w.cell? ⟨ag, k * 2, none⟩ = some (.int .i64 (g.tip k : Int)) ∧ w.cell? ⟨ag, k * 2 + 1, none⟩ = some (.int .i64 (g.room k)) ∧ w.frozen? ⟨ag, k * 2 + 1, none⟩ = false ∧ B ≤ ag ∧ ag ∉ X ∧ bg ≠ ag ∧
      ∀ r : Int, NetM (w.setCell ⟨ag, k * 2 + 1, none⟩ (.int .i64 r)) B X bg (g.setRoom k r) ∧ (w.setCell ⟨ag, k * 2 + 1, none⟩ (.int .i64 r)).cell? ⟨bg, 0, none⟩ = some (.slice (some ⟨ag, 0, none⟩) g.arcs.length ac) := by
  obtain ⟨aa, ac, oo, oc, L, h1, h2, h3, h4, h5, h6, h7, h8, h9, h10⟩ := h
  have hx := get_some hk ((0, 0) : Nat × Int)
  obtain ⟨ag, rfl, hB, c1, c2, f2, ⟨cur, hcur⟩, hset⟩ := OwnA.arc h2 hx
  have hne : bg ≠ ag := by rintro rfl; rw [h1] at hcur; cases hcur
  refine ⟨ag, ac, by rw [cell_of_row w bg 0 _ _ _ h1]; rfl, c1, c2, f2, hB, h9 _ rfl, hne, fun r => ⟨?_, ?_⟩⟩
  · refine ⟨some ⟨ag, 0, none⟩, ac, oo, oc, L, ?_, ?_, ?_, h4, fun i x m hi hm => ?_, h6, h7, h8, h9, h10⟩
    · rw [Below.heap_setCell _ _ _ _ (by show bg ≠ ag; exact hne)]
      show _ = some (Obj.cells #[Value.slice _ (g.arcs.set k (g.tip k, r)).length ac, Value.slice _ g.out.length oc] _ _)
      rw [List.length_set]; exact h1
    · show OwnA va 2 B _ _ _ (g.arcs.set k (g.tip k, r)).length ac (g.arcs.set k (g.tip k, r))
      rw [List.length_set]; exact hset r
    · exact h3.otherT (p := ⟨ag, k * 2 + 1, none⟩) hcur (Ne.symm nt5) _
    · exact (h5 i x m hi hm).otherT (p := ⟨ag, k * 2 + 1, none⟩) hcur (Ne.symm nt4) _
  · rw [World.cell?_setCell_far w ⟨ag, k * 2 + 1, none⟩ ⟨bg, 0, none⟩ _ (fun e => hne e.symm), cell_of_row w bg 0 _ _ _ h1]; rfl
/-- A row of the network, to be read. -/
theorem NetM.rowRd {w : World} {B : Nat} {X : List Nat} {bg : Nat} {g : Net} (h : NetM w B X bg g) {v : Nat} {m : List Nat} (hm : g.out[v]? = some m) :
    ∃ oo oc ra rc, w.cell? ⟨bg, 1, none⟩ = some (.slice (some ⟨oo, 0, none⟩) g.out.length oc) ∧ w.cell? ⟨oo, v, none⟩ = some (.slice ra m.length rc) ∧ Rd vi w ra m.length rc (m.map Int.ofNat) := by
  obtain ⟨oo, oc, ra, rc, c1, c2, _, c4, _⟩ := h.rowAt hm
  exact ⟨oo, oc, ra, rc, c1, c2, c4.rd⟩

theorem newnet_any (n : Nat) (w : World) (hn : n ≤ 1000) :
    Calls Try.prog 58 #[.int .i64 (n : Int)] w fun e w' => ∃ bg, e = .returned (.pointer (some ⟨bg, 0, none⟩)) ∧ NetM w' w.heap.size [] bg ⟨[], List.replicate n []⟩ ∧ Below w.heap.size w w' := by
  obtain ⟨i1, hi1, hy0, hy1, hy2⟩ := info_parts infoS
  have u1 := Try.underlying22
  go_enter Try.func58, Try.ntmps58
  go_wp2_with (at_make; refine wpList_make_blk rfl (.tmp 3) (.tmp 3) 22 rfl vh (none, 0, 0) 26 i1 u1 hi1 hy0 hy1 rfl _ _ _ _ n rfl rfl rfl rfl (by rw [hy2]; omega) (by omega) ?_; intro w2 hk2 hb2 hs2; have HK2 := Lib.hid hk2; have HB2 := Lib.hid hb2; have HS2 := Lib.hid hs2; clear hk2 hb2 hs2)
  go_ret
  have hba := below_alloc (.cells #[.slice none 0 0, .slice (some ⟨w.heap.size, 0, none⟩) n n] 76) (below_refl w2)
  have ho := (HK2.out.own (B := w.heap.size) (Nat.le_refl _) (by rw [List.length_replicate]; unfold maxLen; omega)).fw hba
  rw [List.length_replicate] at ho
  have hnone : ∀ (i : Nat) (h : Option Addr × Nat × Nat), (List.replicate n ((none, 0, 0) : Option Addr × Nat × Nat))[i]? = some h → h = (none, 0, 0) := by
    intro i h hi
    rw [List.getElem?_replicate] at hi
    split at hi
    · exact (Option.some.inj hi).symm
    · cases hi
  refine ⟨w2.heap.size, rfl, ⟨none, 0, w.heap.size, n, List.replicate n (none, 0, 0), ?_, OwnA.nil _ _ _ _ _, ?_, ?_, ?_, ?_, by simp, by simp, (fun x hx => by cases hx), fun _ _ _ _ _ => by simp⟩, bt HB2.out hba⟩
  · rw [show (List.replicate n ([] : List Nat)).length = n from List.length_replicate]
    exact heap_alloc_new w2 _
  · rw [show (List.replicate n ([] : List Nat)).length = n from List.length_replicate]
    exact ho
  · intro i j h k hij hi hj
    rw [hnone i h hi]
    exact Apart.none_left _
  · intro i h m hi hm
    rw [hnone i h hi]
    have : m = [] := by
      rw [List.getElem?_replicate] at hm
      split at hm
      · exact (Option.some.inj hm).symm
      · cases hm
    rw [this]
    exact ⟨rfl, .inl ⟨rfl, rfl, rfl⟩⟩
  · exact HB2.out.size
end Go.Proofs.Ytpecepfnmkpmmaa
