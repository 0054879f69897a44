/- matrix: the search for a pivot, reduce. -/
import Derived.Test.YtioiaiifkfopnaaMe
import Derived.Deep.AppendLies
import Derived.BigQuiet
namespace Go.Proofs.Ytioiaiifkfopnaa
open Go.RowKit Go.Kin Mat
set_option maxRecDepth 100000

/-- The block b holds one value. -/
def OneB (w : World) (b : Nat) (v : Value) (T : TypeId) : Prop := w.heap[b]? = some (.cells #[v] T (0, 0))
theorem OneB.cell {w : World} {b : Nat} {v : Value} {T : TypeId} (h : OneB w b v T) : w.cell? ⟨b, 0, none⟩ = some v := by rw [cell_of_row w b 0 _ _ _ h]; rfl
theorem OneB.frozen {w : World} {b : Nat} {v : Value} {T : TypeId} (h : OneB w b v T) : w.frozen? ⟨b, 0, none⟩ = false := frozen_of_row w b 0 _ _ h
theorem OneB.lt {w : World} {b : Nat} {v : Value} {T : TypeId} (h : OneB w b v T) : b < w.heap.size := (Array.getElem?_eq_some_iff.1 h).1
theorem OneB.fw {w w' : World} {b : Nat} {v : Value} {T : TypeId} (h : OneB w b v T) (hb : Below w.heap.size w w') : OneB w' b v T := (hb.block b h.lt).trans h
theorem OneB.other {w : World} {b : Nat} {v : Value} {T : TypeId} (h : OneB w b v T) (p : Addr) (u : Value) (hp : p.block ≠ b) : OneB (w.setCell p u) b v T := by
  unfold OneB
  rw [Below.heap_setCell _ _ _ _ (fun e => hp e.symm)]; exact h
theorem OneB.grown {w w' : World} {b o : Nat} {v : Value} {T : TypeId} (h : OneB w b v T) (hg : w.grownBy w' (some o)) (hne : o ≠ b) : OneB w' b v T :=
  (hg.block b h.lt (by intro e; cases e; exact hne rfl)).trans h
theorem OneB.new (w : World) (v : Value) (T : TypeId) : OneB (w.alloc (.cells #[v] T (0, 0))) w.heap.size v T := heap_alloc_new w _

/-- What the search finds, as a number. -/
def findV (R : Mat) (col n top : Nat) : Int := match findP R col n top with
  | some i => (i : Int)
  | none => -1

set_option maxHeartbeats 1000000 in
theorem find_any (bt be bc ge n rc wd B top col : Nat) (ra : Option Addr) (pv : Value) (pr : Int) (R : Mat) (w : World) (hT : w.cell? ⟨bt, 0, none⟩ = some (.int .i64 (top : Int))) (hP : w.cell? ⟨be, 0, none⟩ = some (.pointer (some ⟨ge, 0, none⟩))) (hC : w.cell? ⟨bc, 0, none⟩ = some (.int .i64 (col : Int)))
    (hE : ECell w ge (.slice ra n rc) pv pr) (hM : MatR w B ra n rc wd R) (ht : top ≤ n) (hc : col < wd) (hn : n ≤ 1000) :
    Calls Try.prog 69 #[.pointer (some ⟨bt, 0, none⟩), .pointer (some ⟨be, 0, none⟩), .pointer (some ⟨bc, 0, none⟩)] w fun e w' => e = .returned (.int .i64 (findV R col n top)) ∧ Drw w w' := by
  have c0 := hE.c0
  have HM := Lib.hid hM
  have i2 : (col : Int) < (wd : Int) := by omega
  have hbT := lt_of_cell hT; have hbP := lt_of_cell hP; have hbC := lt_of_cell hC; have hbE := lt_of_cell c0
  clear hE hM
  go_enter Try.func69, Try.ntmps69
  go_wp2
  go_loopw [4] (fun i wr => ∃ j : Nat, top ≤ j ∧ j ≤ n ∧ i = .int .i64 (j : Int) ∧ Hid (∀ t, top ≤ t → t < j → R t col = 0) ∧ Hid (Drw w wr)) (fun i _ => n - (intOf i).toNat)
  case atStart => exact ⟨top, Nat.le_refl _, ht, rfl, fun t h1 h2 => by omega, Drw.refl w⟩
  case round =>
    obtain ⟨j, hj1, hj, rfl, hz, hd⟩ := hrel
    have k1 := (cellBelow hd.out.fw hbT).trans hT
    have k2 := (cellBelow hd.out.fw hbP).trans hP
    have k3 := (cellBelow hd.out.fw hbC).trans hC
    have k4 := (cellBelow hd.out.fw hbE).trans c0
    have HT := Lib.hid hT; have HP := Lib.hid hP; have HC := Lib.hid hC; have H0 := Lib.hid c0
    clear hT hP hC c0
    by_cases hlt : j < n
    · obtain ⟨o, ra2, rc2, rfl, _, c2, f2, hr2, _⟩ := (HM.out.fw hd.out.fw).at hlt
      obtain ⟨gr, rfl, _, d1, _⟩ := hr2.cell (mrow_get _ hc)
      obtain ⟨z, hzz⟩ : ∃ z, z = (R j col).n := ⟨_, rfl⟩
      rw [← hzz] at d1
      unfold vb at d1
      have i1 : (j : Int) < (n : Int) := by omega
      by_cases h0 : z = 0
      · have e1 : (((z : Nat) : Int) != 0) = false := by rw [h0]; rfl
        have hz2 : Hid (∀ t, top ≤ t → t < j + 1 → R t col = 0) := by
          intro t h1 h2
          by_cases e : t = j
          · rw [e]; exact Fq.n_eq_zero.1 (hzz ▸ h0)
          · exact hz.out t h1 (by omega)
        clear hzz h0 hr2
        go_wp2_with fail
        go_quiet (fail)
        go_wp2
        go_roundw
        case rel => exact ⟨j + 1, by omega, by omega, by go_num, hz2, hd.out.step nq⟩
        case measure => simp [intOf]; omega
      · have e1 : (((z : Nat) : Int) != 0) = true := by simp; omega
        have hf : Hid ((j : Int) = findV R col n top) := by
          show _ = _
          unfold findV
          rw [findP_some hj1 hlt (fun e => h0 (by rw [hzz, e]; rfl)) hz.out]
        clear hzz h0 hr2
        go_wp2_with fail
        go_quiet (fail)
        go_wp2
        go_ret
        exact ⟨ret_int hf.out, hd.out.step nq⟩
    · have hf : Hid ((-1 : Int) = findV R col n top) := by
        show _ = _
        unfold findV
        rw [findP_none fun t h1 h2 => hz.out t h1 (by omega)]
      go_wp2
      go_ret
      exact ⟨ret_int hf.out, hd.out⟩
end Go.Proofs.Ytioiaiifkfopnaa
