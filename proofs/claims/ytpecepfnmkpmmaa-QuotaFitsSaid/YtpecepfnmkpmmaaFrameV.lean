/- How moves among a statement's arguments read. -/
import Derived.Test.YtpecepfnmkpmmaaFrameT
import Derived.Test.YtpecepfnmkpmmaaRa
import Derived.Lib.SmallJoins
import Derived.Deep.Slices
namespace Go.Proofs.Ytpecepfnmkpmmaa
open Go.Joins Go.RowKit Quo Go.Kin Go.ChangeShapes Go.WideShapes Go.ChangeAt Go.Deep
section
variable {H : Type} {enc : TypeId × Value → H} {P : Program} {w : World} {d : DataW H} {ps : List MemPlace}
def I64 (z : Int) : Prop := -9223372036854775808 ≤ z ∧ z ≤ 9223372036854775807
theorem open_move1 {e : TypeId} {f0 f1 f2 f3 : Field} (he : P.underlying e = some (.struct #[f0, f1, f2, f3])) (hone : oneCellFields P #[f0, f1, f2, f3] = true)
    (k0 : P.underlying f0.type = some (.int .i64)) (k1 : P.underlying f1.type = some (.int .i64)) (k2 : P.underlying f2.type = some (.int .i64)) (k3 : P.underlying f3.type = some (.int .i64))
    {base : Nat} {sp : Nat → Bool} {hd : Bool} {fuel : Nat} {cs : List Value} {x : DataW H × List MemPlace} (hl : cs.length = 4) (h : DataW.trod enc P w base sp hd fuel e cs = some x) :
    ∃ m : Mz, cs = vmz m ∧ I64 m.fr ∧ I64 m.dst ∧ I64 m.ow ∧ I64 m.amt := by
  obtain ⟨y0, y1, y2, y3, n, hx, _, h0, h1, h2, h3⟩ := trod_struct4 he h
  obtain ⟨o0, c0⟩ := hone_of hone 0 f0 rfl
  obtain ⟨o1, c1⟩ := hone_of hone 1 f1 rfl
  obtain ⟨o2, c2⟩ := hone_of hone 2 f2 rfl
  obtain ⟨o3, c3⟩ := hone_of hone 3 f3 rfl
  match cs, hl with
  | [v0, v1, v2, v3], _ =>
    simp [o0, c0] at h0
    simp [o1, c1] at h1
    simp [o2, c2] at h2
    simp [o3, c3] at h3
    obtain ⟨z0, e0, _, w0⟩ := DataW.trod_int k0 h0
    obtain ⟨z1, e1, _, w1⟩ := DataW.trod_int k1 h1
    obtain ⟨z2, e2, _, w2⟩ := DataW.trod_int k2 h2
    obtain ⟨z3, e3, _, w3⟩ := DataW.trod_int k3 h3
    cases e0; cases e1; cases e2; cases e3
    exact ⟨⟨z0, z1, z2, z3⟩, rfl, wf_i64 w0, wf_i64 w1, wf_i64 w2, wf_i64 w3⟩
theorem open_moves {t e : TypeId} {f0 f1 f2 f3 : Field} (ht : P.underlying t = some (.slice e)) (he : P.underlying e = some (.struct #[f0, f1, f2, f3])) (hone : oneCellFields P #[f0, f1, f2, f3] = true) (ce : P.cellsOf e = 4)
    (k0 : P.underlying f0.type = some (.int .i64)) (k1 : P.underlying f1.type = some (.int .i64)) (k2 : P.underlying f2.type = some (.int .i64)) (k3 : P.underlying f3.type = some (.int .i64))
    {a : Option Addr} {n c : Nat} (h : DataW.Trod enc P w 0 (fun _ => true) true t (.slice a n c) d ps) : ∃ l : List Mz, RdA vmz 4 w a n c l ∧ ∀ m ∈ l, I64 m.fr ∧ I64 m.dst ∧ I64 m.ow ∧ I64 m.amt := by
  obtain ⟨fuel, hf⟩ := h
  rcases open_slice ht hf with ⟨hcs, _⟩ | ⟨a0, len, cap, m, n', D, Pl, hcs, hb, hl, hm, hmm, _, hx⟩
  · simp [Value.cells] at hcs
    obtain ⟨rfl, rfl, rfl⟩ := hcs
    exact ⟨[], ⟨rfl, Nat.le_refl _, by simp [maxLen], fun i x hx => by simp at hx⟩, by simp⟩
  · simp [Value.cells] at hcs
    obtain ⟨rfl, rfl, rfl⟩ := hcs
    have hnm : n ≤ m := by rw [hmm]; simp; exact hl
    have each : ∀ i, i < n → ∃ q : Mz, (∀ (k : Nat) (v : Value), (vmz q)[k]? = some v → w.cell? (a0.add (i * 4 + k)) = some v) ∧ I64 q.fr ∧ I64 q.dst ∧ I64 q.ow ∧ I64 q.amt := by
      intro i hi
      obtain ⟨cs', h1, h2⟩ := hx i (by omega)
      rw [ce] at h1
      obtain ⟨_, hlen, hcell⟩ := World.cells?_some h1
      obtain ⟨q, rfl, b⟩ := open_move1 he hone k0 k1 k2 k3 hlen h2
      refine ⟨q, fun k v hk => ?_, b⟩
      have hk4 : k < 4 := by have := (List.getElem?_eq_some_iff.1 hk).1; rwa [vmz_len] at this
      rw [← add_add, hcell k hk4, hk]
    haveI : Inhabited Mz := ⟨⟨0, 0, 0, 0⟩⟩
    obtain ⟨q, hq⟩ := choose_lt each
    have hget : ∀ (i : Nat) (x : Mz), ((List.range n).map q)[i]? = some x → i < n ∧ x = q i := by
      intro i x hx
      rw [List.getElem?_map] at hx
      by_cases hi : i < n
      · rw [List.getElem?_range hi] at hx
        cases hx; exact ⟨hi, rfl⟩
      · rw [List.getElem?_eq_none (by simp; omega)] at hx; cases hx
    refine ⟨(List.range n).map q, ⟨by simp, hl, hm, fun i x hx => ?_⟩, fun x hx => ?_⟩
    · obtain ⟨hi, rfl⟩ := hget i x hx
      have hc := (hq i hi).1
      have h0 := (hq 0 (by omega)).1 0 _ rfl
      rw [show a0.add (0 * 4 + 0) = a0 from by simp [Addr.add]] at h0
      obtain ⟨ab, ao, rfl⟩ := spot_none h0
      refine ⟨ab, ao, rfl, fun k v hk => ?_⟩
      have := hc k v hk
      rw [add_eq] at this
      rw [Nat.add_assoc]; exact this
    · obtain ⟨i, hi, rfl⟩ := List.mem_map.1 hx
      exact (hq i (by simpa using hi)).2
theorem open_moveV {e : TypeId} {f0 f1 f2 f3 : Field} (he : P.underlying e = some (.struct #[f0, f1, f2, f3])) (hone : oneCellFields P #[f0, f1, f2, f3] = true) (hC : P.cellsOf e = 4)
    (k0 : P.underlying f0.type = some (.int .i64)) (k1 : P.underlying f1.type = some (.int .i64)) (k2 : P.underlying f2.type = some (.int .i64)) (k3 : P.underlying f3.type = some (.int .i64))
    {r : Reach} {b0 : Nat} {v : Value} (hv : Value.okWide P w r b0 e v) (h : DataW.Trod enc P w 0 (fun _ => true) true e v d ps) :
    ∃ m : Mz, v = .agg #[.int .i64 m.fr, .int .i64 m.dst, .int .i64 m.ow, .int .i64 m.amt] ∧ I64 m.fr ∧ I64 m.dst ∧ I64 m.ow ∧ I64 m.amt := by
  obtain ⟨v0, v1, v2, v3, y0, y1, y2, y3, n, rfl, _, _, h0, h1, h2, h3⟩ := open_agg4 he hone hC hv h
  obtain ⟨z0, e0, _, w0⟩ := DataW.trod_int k0 h0
  obtain ⟨z1, e1, _, w1⟩ := DataW.trod_int k1 h1
  obtain ⟨z2, e2, _, w2⟩ := DataW.trod_int k2 h2
  obtain ⟨z3, e3, _, w3⟩ := DataW.trod_int k3 h3
  cases e0; cases e1; cases e2; cases e3
  exact ⟨⟨z0, z1, z2, z3⟩, rfl, wf_i64 w0, wf_i64 w1, wf_i64 w2, wf_i64 w3⟩
end
end Go.Proofs.Ytpecepfnmkpmmaa
