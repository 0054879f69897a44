/- How the arguments of a statement read: integers with their bounds, slices of bytes and of numbers. -/
import Derived.Test.YtioiaiifkfopnaaKit
import Derived.ProofKit
import Derived.OpenShut
import Derived.ShutString
import Derived.ChangeOld
namespace Go.Kin
open Go.RowKit Go.ChangeShapes Go.WideShapes Go.ChangeAt

theorem wf_u8 {a : Int} (h : (Lit.int .u8 a).wf = true) : 0 ≤ a ∧ a < 256 := by
  have := (bounds_u8 h); omega
theorem wf_u16 {a : Int} (h : (Lit.int .u16 a).wf = true) : 0 ≤ a ∧ a < 65536 := by
  have := (bounds_u16 h); omega
theorem wf_i64 {a : Int} (h : (Lit.int .i64 a).wf = true) : -9223372036854775808 ≤ a ∧ a ≤ 9223372036854775807 := by
  have := (bounds_i64 h); omega

section
variable {H : Type} {enc : TypeId × Value → H} {P : Program} {w : World} {d : DataW H} {ps : List MemPlace}

theorem spot_none {w : World} {a : Addr} {v : Value} (h : w.cell? a = some v) : ∃ b o, a = ⟨b, o, none⟩ := by
  obtain ⟨b, o, s⟩ := a
  have := World.cell?_spot h
  exact ⟨b, o, by rw [show s = none from this]⟩

theorem add_eq (b o i : Nat) : (⟨b, o, none⟩ : Addr).add i = ⟨b, o + i, none⟩ := by
  unfold Addr.add
  split <;> simp_all

/-- Numbers of a kind, as they lie in memory, read as a list. -/
theorem rd_of_cells {k : IntKind} {a : Addr} {n c : Nat} {zs : List Int} (hl : n ≤ c) (hm : c ≤ maxLen) (hz : zs.length = c)
    (hcell : ∀ i, i < zs.length → w.cell? (a.add i) = some (.int k (zs.getD i 0))) : Rd (fun z : Int => Value.int k z) w (some a) n c (zs.take n) := by
  refine ⟨by simp; omega, hl, hm, by simp, fun i x hx => ?_⟩
  have hi : i < n ∧ zs[i]? = some x := by
    rw [List.getElem?_take] at hx
    split at hx
    · exact ⟨by assumption, hx⟩
    · cases hx
  have hlt := (List.getElem?_eq_some_iff.1 hi.2).1
  have h0 := hcell 0 (by omega)
  have hci := hcell i hlt
  have e0 : a.add 0 = a := by simp [Addr.add]
  rw [e0] at h0
  obtain ⟨b, o, rfl⟩ := spot_none h0
  refine ⟨b, o, rfl, ?_⟩
  rw [add_eq] at hci
  rw [hci, List.getD_eq_getElem?_getD, hi.2]
  rfl

theorem open_i64s {t e : TypeId} (ht : P.underlying t = some (.slice e)) (he : P.underlying e = some (.int .i64)) (hc : P.cellsOf e = 1) {a : Option Addr} {n c : Nat}
    (h : DataW.Trod enc P w 0 (fun _ => true) true t (.slice a n c) d ps) : ∃ l : List Int, Rd vi w a n c l ∧ ∀ z ∈ l, -9223372036854775808 ≤ z ∧ z ≤ 9223372036854775807 := by
  obtain ⟨fuel, hf⟩ := h
  rcases open_ints ht he hc hf with ⟨hcs, _⟩ | ⟨x, l, c, zs, hcs, _, hl, hm, hz, _, hcell, hwz⟩
  · simp [Value.cells] at hcs
    obtain ⟨rfl, rfl, rfl⟩ := hcs
    exact ⟨[], Rd.nil _ _, by simp⟩
  · simp [Value.cells] at hcs
    obtain ⟨rfl, rfl, rfl⟩ := hcs
    exact ⟨zs.take n, rd_of_cells hl hm (by simpa using hz) hcell, fun z hz' => wf_i64 (hwz z (List.mem_of_mem_take hz'))⟩

theorem Rd.bytes {w : World} {a : Option Addr} {n c : Nat} {l : List Int} (h : Rd (fun z : Int => Value.int .u8 z) w a n c l) (hb : ∀ z ∈ l, 0 ≤ z) : Rd vb w a n c (l.map Int.toNat) := by
  refine ⟨by rw [List.length_map]; exact h.len, h.cap, h.max, h.none0, fun i x hx => ?_⟩
  rw [List.getElem?_map] at hx
  cases hz : l[i]? with
  | none => simp [hz] at hx
  | some z =>
    obtain ⟨b, o, ha, hcell⟩ := h.cell i z hz
    refine ⟨b, o, ha, ?_⟩
    have h0 := hb z (List.mem_of_getElem? hz)
    simp [hz] at hx
    rw [hcell, vb, ← hx, Int.toNat_of_nonneg h0]

theorem open_bytes {t e : TypeId} (ht : P.underlying t = some (.slice e)) (he : P.underlying e = some (.int .u8)) (hc : P.cellsOf e = 1) {a : Option Addr} {n c : Nat}
    (h : DataW.Trod enc P w 0 (fun _ => true) true t (.slice a n c) d ps) : ∃ l : List Nat, Rd vb w a n c l ∧ ∀ x ∈ l, x < 256 := by
  obtain ⟨fuel, hf⟩ := h
  rcases open_ints ht he hc hf with ⟨hcs, _⟩ | ⟨x, l, c, zs, hcs, _, hl, hm, hz, _, hcell, hwz⟩
  · simp [Value.cells] at hcs
    obtain ⟨rfl, rfl, rfl⟩ := hcs
    exact ⟨[], Rd.nil _ _, by simp⟩
  · simp [Value.cells] at hcs
    obtain ⟨rfl, rfl, rfl⟩ := hcs
    have hr := rd_of_cells hl hm (by simpa using hz) hcell
    have hb : ∀ z ∈ zs.take n, 0 ≤ z ∧ z < 256 := fun z hz' => wf_u8 (hwz z (List.mem_of_mem_take hz'))
    refine ⟨(zs.take n).map Int.toNat, hr.bytes fun z hz => (hb z hz).1, fun x hx => ?_⟩
    obtain ⟨z, hz, rfl⟩ := List.mem_map.1 hx
    have := hb z hz
    omega

end

end Go.Kin
