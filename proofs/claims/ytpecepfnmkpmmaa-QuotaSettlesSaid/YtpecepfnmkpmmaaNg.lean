/- quota: the network of all reliefs, plain; its closure; choices in memory. -/
import Derived.Test.YtpecepfnmkpmmaaNf
namespace Quo
structure Ch where
  fr : Nat
  dst : Nat
  ow : Nat
  num : Nat
  stock : Nat
  goal : Nat
def loadOf (T : Tab) (d : Nat) : Int := (heldF T).getD d 0
def over (T : Tab) (q : List Int) (d : Nat) : Prop := q.getD d 0 < loadOf T d
instance (T : Tab) (q : List Int) (d : Nat) : Decidable (over T q d) := by unfold over; infer_instance
def net0 (n : Nat) : Net := ⟨[], List.replicate (2 + 2 * n + n * n) []⟩
def relA (T : Tab) (q : List Int) (S : Net × Int) (d : Nat) : Net × Int :=
  if over T q d then (S.1.add 0 (2 + d) (loadOf T d - q.getD d 0), S.2 + (loadOf T d - q.getD d 0)) else (S.1.add (2 + T.length + d) 1 (q.getD d 0 - loadOf T d), S.2)
def stockOf (n i o : Nat) : Nat := 2 + 2 * n + i * n + o
def relB (T : Tab) (q : List Int) (i o : Nat) (S : Net × List Ch) (t : Nat) : Net × List Ch :=
  if over T q t ∨ t = o then S else (S.1.add (stockOf T.length i o) (2 + T.length + t) (at2 T i o), S.2 ++ [⟨i, t, o, S.1.arcs.length, stockOf T.length i o, 2 + T.length + t⟩])
def relC (T : Tab) (q : List Int) (i : Nat) (S : Net × List Ch) (o : Nat) : Net × List Ch :=
  if ¬ over T q i ∨ at2 T i o = 0 then S else (List.range T.length).foldl (relB T q i o) (S.1.add (2 + i) (stockOf T.length i o) (at2 T i o), S.2)
def relD (T : Tab) (q : List Int) (S : Net × List Ch) (i : Nat) : Net × List Ch := (List.range T.length).foldl (relC T q i) S
def relN (T : Tab) (q : List Int) : Net × Int := (List.range T.length).foldl (relA T q) (net0 T.length, 0)
/-- The network of all reliefs, its choices, what must move. -/
def relief (T : Tab) (q : List Int) : Net × List Ch × Int :=
  (((List.range T.length).foldl (relD T q) ((relN T q).1, [])).1, ((List.range T.length).foldl (relD T q) ((relN T q).1, [])).2, (relN T q).2)
theorem foldl_range {α : Type} (F : α → Nat → α) (a : α) (j : Nat) : (List.range (j + 1)).foldl F a = F ((List.range j).foldl F a) j := by
  rw [List.range_succ, List.foldl_append]; rfl
theorem xor_lt {k m : Nat} (h : k < 2 * m) : k ^^^ 1 < 2 * m := by
  have : (k ^^^ 1) / 2 = k / 2 := by rw [Nat.xor_div_two]; simp
  omega
/-- The network's shape: so many nodes, so many pairs of arcs. -/
structure Shp (g : Net) (N m : Nat) : Prop where
  nodes : g.out.length = N
  arcs : g.arcs.length = 2 * m
  tips : ∀ k, k < g.arcs.length → g.tip k < N
  out : ∀ r ∈ g.out, ∀ k ∈ r, k < g.arcs.length
  rows : ∀ r ∈ g.out, r.length ≤ 2 * m
theorem Shp.ok {g : Net} {N m : Nat} (h : Shp g N m) (hN : N ≤ 1000) (hm : m ≤ 5000) : NetOk g :=
  ⟨by rw [h.nodes]; exact hN, by rw [h.arcs]; omega, fun k hk => by rw [h.arcs] at hk ⊢; exact xor_lt hk, fun k hk => by rw [h.nodes]; exact h.tips k hk, h.out, fun r hr => by have := h.rows r hr; omega⟩
theorem mem_pushAt {o : List (List Nat)} {i k : Nat} {r : List Nat} (h : r ∈ pushAt o i k) : r ∈ o ∨ r = o.getD i [] ++ [k] := by
  unfold pushAt at h
  exact List.mem_or_eq_of_mem_set h
theorem getD_mem_or {o : List (List Nat)} (i : Nat) : o.getD i [] ∈ o ∨ o.getD i [] = [] := by
  by_cases h : i < o.length
  · exact .inl (List.mem_of_getElem? (get_some h []))
  · right; rw [List.getD_eq_getElem?_getD, List.getElem?_eq_none (by omega)]; rfl
theorem Shp.add {g : Net} {N m : Nat} (h : Shp g N m) {f t : Nat} (hf : f < N) (ht : t < N) (y : Int) : Shp (g.add f t y) N (m + 1) := by
  have hal : (g.add f t y).arcs.length = g.arcs.length + 2 := by unfold Net.add; simp
  have base : ∀ i, (∀ k ∈ g.out.getD i [], k < g.arcs.length) ∧ (g.out.getD i []).length ≤ 2 * m := by
    intro i
    rcases getD_mem_or (o := g.out) i with h1 | h1
    · exact ⟨h.out _ h1, h.rows _ h1⟩
    · rw [h1]; simp
  have first : ∀ r ∈ pushAt g.out f g.arcs.length, (∀ k ∈ r, k < g.arcs.length + 2) ∧ r.length ≤ 2 * m + 1 := by
    intro r hr
    rcases mem_pushAt hr with h1 | h1
    · exact ⟨fun k hk => by have := h.out r h1 k hk; omega, by have := h.rows r h1; omega⟩
    · rw [h1]
      refine ⟨fun k hk => ?_, by rw [List.length_append]; have := (base f).2; show _ + 1 ≤ _; omega⟩
      rcases List.mem_append.1 hk with h2 | h2
      · have := (base f).1 k h2; omega
      · simp at h2; omega
  have second : ∀ r ∈ (g.add f t y).out, (∀ k ∈ r, k < g.arcs.length + 2) ∧ r.length ≤ 2 * m + 2 := by
    intro r hr
    rcases mem_pushAt hr with h1 | h1
    · have := first r h1
      exact ⟨this.1, by omega⟩
    · rw [h1]
      have hb : (∀ k ∈ (pushAt g.out f g.arcs.length).getD t [], k < g.arcs.length + 2) ∧ ((pushAt g.out f g.arcs.length).getD t []).length ≤ 2 * m + 1 := by
        rcases getD_mem_or (o := pushAt g.out f g.arcs.length) t with h2 | h2
        · exact first _ h2
        · rw [h2]; simp
      refine ⟨fun k hk => ?_, by rw [List.length_append]; have := hb.2; show _ + 1 ≤ _; omega⟩
      rcases List.mem_append.1 hk with h2 | h2
      · exact hb.1 k h2
      · simp at h2; omega
  refine ⟨?_, by rw [hal, h.arcs]; omega, fun k hk => ?_, fun r hr k hk => by rw [hal]; exact (second r hr).1 k hk, fun r hr => by have := (second r hr).2; omega⟩
  · show (pushAt (pushAt g.out f g.arcs.length) t (g.arcs.length + 1)).length = N
    rw [pushAt_length, pushAt_length]; exact h.nodes
  · rw [hal] at hk
    show ((g.arcs ++ [(t, y), (f, 0)]).getD k (0, 0)).1 < N
    rw [List.getD_eq_getElem?_getD]
    by_cases h1 : k < g.arcs.length
    · rw [List.getElem?_append_left h1, ← List.getD_eq_getElem?_getD]
      exact h.tips k h1
    · rw [List.getElem?_append_right (by omega)]
      rcases Nat.lt_or_ge (k - g.arcs.length) 1 with h2 | h2
      · rw [show k - g.arcs.length = 0 by omega]; exact ht
      · rw [show k - g.arcs.length = 1 by omega]; exact hf
theorem net0_shp (n : Nat) : Shp (net0 n) (2 + 2 * n + n * n) 0 :=
  ⟨by simp [net0], rfl, fun k hk => by simp [net0] at hk, fun r hr k hk => by
    have : r = [] := List.eq_of_mem_replicate hr
    rw [this] at hk; simp at hk, fun r hr => by
    have : r = [] := List.eq_of_mem_replicate hr
    rw [this]; simp⟩
end Quo

namespace Go.Proofs.Ytpecepfnmkpmmaa
open Go.RowKit Go.Kin Quo
set_option maxRecDepth 100000
set_option linter.unusedVariables false
/-- The closure: does a device hold too many bytes? -/
theorem over_any (T : Tab) (q : List Int) (qa : Option Addr) (n qc gq gt gl d : Nat) (w : World) (hq : Rd vi w qa n qc q) (hl : Rd vi w (some ⟨gl, 0, none⟩) n n (heldF T)) (c1 : w.heap[gq]? = some (.cells #[.slice qa n qc] 26 (0, 0))) (c2 : w.heap[gt]? = some (.cells #[.slice (some ⟨gl, 0, none⟩) n n] 26 (0, 0))) (hd : d < n) :
    Calls Try.prog 59 #[.int .i64 (d : Int), .pointer (some ⟨gt, 0, none⟩), .pointer (some ⟨gq, 0, none⟩)] w fun e w' => e = .returned (.bool (decide (over T q d))) ∧ ∃ m, w' = w.drewN m := by
  have i1 : (d : Int) < (n : Int) := by omega
  have k1 := cell_one c1
  have k2 := cell_one c2
  have x0 : q[d]? = some (q.getD d 0) := get_some (by rw [hq.len]; exact hd) 0
  have y0 : (heldF T)[d]? = some (loadOf T d) := get_some (by rw [hl.len]; exact hd) 0
  obtain ⟨x, hx⟩ : ∃ x, x = q.getD d 0 := ⟨_, rfl⟩
  obtain ⟨y, hy⟩ : ∃ y, y = loadOf T d := ⟨_, rfl⟩
  have HO : Hid (decide (over T q d) = decide (x < y)) := by show decide (q.getD d 0 < loadOf T d) = _; rw [hx, hy]
  rw [← hx] at x0
  rw [← hy] at y0
  obtain ⟨b1, o1, rfl, x1⟩ := hq.cell d _ x0
  obtain ⟨b2, o2, e2, y1⟩ := hl.cell d _ y0
  cases e2
  unfold vi at x1 y1
  rw [Nat.zero_add] at y1
  clear hq hl hx hy x0 y0 c1 c2
  go_enter Try.func59, Try.ntmps59
  go_wp2_with fail
  go_quiet (fail)
  go_wp2_with fail
  go_ret
  exact ⟨ret_bool HO.out.symm, nq, rfl⟩
/-- A choice's cells. -/
def vc (c : Ch) : List Value := [.int .i64 (c.fr : Int), .int .i64 (c.dst : Int), .int .i64 (c.ow : Int), .int .i64 0, .int .i64 (c.num : Int), .int .i64 (c.stock : Int), .int .i64 (c.goal : Int)]
theorem vc_len (c : Ch) : (vc c).length = 7 := rfl
end Go.Proofs.Ytpecepfnmkpmmaa
