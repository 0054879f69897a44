/- How a slice of slices of numbers among a statement's arguments reads. -/
import Derived.Test.YtpecepfnmkpmmaaFrame
import Derived.Test.YtpecepfnmkpmmaaQa
import Derived.Deep.Matrix
namespace Go.Kin
open Go.RowKit Quo Go.ChangeShapes Go.WideShapes Go.ChangeAt
section
variable {H : Type} {enc : TypeId × Value → H} {P : Program} {w : World} {d : DataW H} {ps : List MemPlace}

theorem open_i64_rows {t e q : TypeId} (ht : P.underlying t = some (.slice e)) (he : P.underlying e = some (.slice q)) (hq : P.underlying q = some (.int .i64)) (ce : P.cellsOf e = 1) (cq : P.cellsOf q = 1) {a : Option Addr} {n c : Nat}
    (h : DataW.Trod enc P w 0 (fun _ => true) true t (.slice a n c) d ps) : ∃ M : Tab, RdT w a n c M ∧ ∀ m ∈ M, ∀ z ∈ m, -9223372036854775808 ≤ z ∧ z ≤ 9223372036854775807 := by
  obtain ⟨fuel, hf⟩ := h
  rcases Go.Deep.open_int_rows ht he hq ce cq hf with ⟨hcs, _⟩ | ⟨a0, len, cap, A, L, C, Z, hcs, _, hl, hm, _, hr⟩
  · simp [Value.cells] at hcs
    obtain ⟨rfl, rfl, rfl⟩ := hcs
    exact ⟨[], RdT.nil _, by simp⟩
  · simp [Value.cells] at hcs
    obtain ⟨rfl, rfl, rfl⟩ := hcs
    have hb : ∀ r, r < c → ∀ z ∈ Z r, -9223372036854775808 ≤ z ∧ z ≤ 9223372036854775807 := fun r hrc z hz => wf_i64 ((hr r hrc).2.2.2.2.1 z hz)
    refine ⟨(List.range n).map fun r => (Z r).take (L r), ⟨(List.range n).map fun r => (A r, L r, C r), ⟨by simp, hl, hm, by simp, fun i x hx => ?_⟩, by simp, fun i hd m hi hmm => ?_⟩, fun m hm x hx => ?_⟩
    · rw [List.getElem?_map] at hx
      by_cases hi : i < n
      · rw [List.getElem?_range hi] at hx
        cases hx
        have h0 := (hr 0 (by omega)).1
        have hc := (hr i (by omega)).1
        rw [show a0.add 0 = a0 from by simp [Addr.add]] at h0
        obtain ⟨b, o, rfl⟩ := spot_none h0
        rw [add_eq] at hc
        exact ⟨b, o, rfl, hc⟩
      · rw [List.getElem?_eq_none (by simp; omega)] at hx; cases hx
    · have hin : i < n := by
        have := (List.getElem?_eq_some_iff.1 hi).1
        simpa using this
      rw [List.getElem?_map, List.getElem?_range hin] at hi hmm
      cases hi
      cases hmm
      obtain ⟨_, h1, h2, h3, h4, h5, h6⟩ := hr i (by omega)
      show Rd vi w (A i) (L i) (C i) ((Z i).take (L i))
      cases hA : A i with
      | none =>
        have := h5 hA
        have e1 : C i = 0 := this
        have e2 : L i = 0 := by omega
        simp only [e1, e2, List.take_zero]
        exact Rd.nil _ _
      | some a' =>
        have := rd_of_cells (k := .i64) (w := w) (a := a') (n := L i) (c := C i) (zs := Z i) h1 h2 h3 (fun j hj => (h6 a' hA).2 j (by omega))
        exact this
    · obtain ⟨r, hr1, rfl⟩ := List.mem_map.1 hm
      have hrn : r < n := by simpa using hr1
      exact hb r (by omega) x (List.mem_of_mem_take hx)
end
end Go.Kin
