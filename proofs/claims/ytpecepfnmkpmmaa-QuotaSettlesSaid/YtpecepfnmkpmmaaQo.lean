/- kinkeeplaw35.awake returns true. -/
import Derived.Test.YtpecepfnmkpmmaaNh
import Derived.Test.YtpecepfnmkpmmaaNk
import Derived.Test.YtpecepfnmkpmmaaQm
namespace Quo
def exT : Tab := [[0, 5, 2], [3, 0, 0], [0, 4, 0]]
def exQ : List Int := [5, 9, 9]
def exR : List Int := [5, 4, 4]
theorem exT_vt : VT exT := by decide +kernel
theorem ex_bal : balF exT = [-4, 6, -2] := by decide +kernel
theorem ex_cyc : cycF exT = some [0, 1] := by decide +kernel
theorem ex_cut : cutC exT [0, 1] = [[0, 2, 2], [0, 0, 0], [0, 4, 0]] := by decide +kernel
theorem ex_cyc2 : cycF [[0, 2, 2], [0, 0, 0], [0, 4, 0]] = none := by decide +kernel
theorem ex_canc : Canc exT [[0, 2, 2], [0, 0, 0], [0, 4, 0]] := .step ex_cyc (by rw [ex_cut]; exact .done ex_cyc2)
def firstP (q : List Int) : Option (Net × Int) := pushF 0 1 50 (relief exT q).1 0
def mvT (m : Mv) : Nat × Nat × Nat × Int := (m.fr, m.dst, m.ow, m.amt)
theorem mvT_inj {a b : Mv} (h : mvT a = mvT b) : a = b := by
  cases a; cases b
  simp only [mvT, Prod.mk.injEq] at h
  obtain ⟨rfl, rfl, rfl, rfl⟩ := h
  rfl
theorem ex_run0 : (match firstP exQ with | none => false | some (g1, y) => decide (¬ y < (relief exT exQ).2.2) && match runF 50 g1 [] (relief exT exQ).2.1 with | none => false | some r => decide (r.map mvT = [(0, 2, 1, 2)])) = true := by decide +kernel
theorem ex_full0 : (match firstP exR with | none => false | some (_, y) => decide (y < (relief exT exR).2.2)) = true := by decide +kernel
theorem ex_ch : ∀ c ∈ (relief exT exQ).2.1, ChOk (relief exT exQ).1 c := by decide +kernel
theorem ex_n : 1 < (relief exT exQ).1.out.length := by decide +kernel
theorem ex_n2 : 1 < (relief exT exR).1.out.length := by decide +kernel
theorem ex_l : (relief exT exQ).2.1.length ≤ 100000 := by decide +kernel
theorem ex_run : ∃ g1 y, pushF 0 1 50 (relief exT exQ).1 0 = some (g1, y) ∧ ¬ y < (relief exT exQ).2.2 ∧ Run g1 [] (relief exT exQ).2.1 [⟨0, 2, 1, 2⟩] := by
  have h := ex_run0
  cases hp : firstP exQ with
  | none => rw [hp] at h; cases h
  | some p =>
    rw [hp] at h
    obtain ⟨g1, y⟩ := p
    have h1 := (Bool.and_eq_true _ _).mp h
    refine ⟨g1, y, hp, of_decide_eq_true h1.1, ?_⟩
    have h2 := h1.2
    cases hr : runF 50 g1 [] (relief exT exQ).2.1 with
    | none => rw [hr] at h2; cases h2
    | some r =>
      rw [hr] at h2
      have h3 : r.map mvT = [(0, 2, 1, 2)] := of_decide_eq_true h2
      cases r with
      | nil => simp at h3
      | cons m t =>
        rw [List.map_cons] at h3
        injection h3 with h4 h5
        have h6 : t = [] := List.map_eq_nil_iff.1 h5
        subst h6
        have : mvT m = mvT ⟨0, 2, 1, 2⟩ := h4
        rw [mvT_inj this] at hr
        exact run_of _ _ _ _ hr
theorem ex_full : ∃ g1 y, pushF 0 1 50 (relief exT exR).1 0 = some (g1, y) ∧ y < (relief exT exR).2.2 := by
  have h := ex_full0
  cases hp : firstP exR with
  | none => rw [hp] at h; cases h
  | some p =>
    rw [hp] at h
    exact ⟨p.1, p.2, hp, of_decide_eq_true h⟩
end Quo
namespace Go.Proofs.Ytpecepfnmkpmmaa
open Go.RowKit Go.Kin Quo
set_option maxRecDepth 100000
set_option linter.unusedVariables false
theorem reliefAny : ReliefAny := relief_any
theorem exT_fit : Fit exT [10, 10, 10] := by decide +kernel
theorem exQ_fit : Fit exT exQ := by decide +kernel
theorem exR_fit : Fit exT exR := by decide +kernel
theorem ex_allow : allowF exT [10, 10, 10] 8 2 1 = 2 := by decide +kernel
def hdr3 (g : Nat) : Option Addr × Nat × Nat := (some ⟨g, 0, none⟩, 3, 3)
theorem lit3 (w : World) (l1 l2 l3 : List Int) (g0 g1 g2 g3 : Nat) (h1 : l1.length = 3) (h2 : l2.length = 3) (h3 : l3.length = 3) (e0 : g0 = w.heap.size) (e1 : g1 = w.heap.size + 1) (e2 : g2 = w.heap.size + 2) (e3 : g3 = w.heap.size + 3) :
    RdT ((((w.alloc (.cells (row vi l1) 3 (0, 0))).alloc (.cells (row vi l2) 3 (0, 0))).alloc (.cells (row vi l3) 3 (0, 0))).alloc (.cells #[.slice (some ⟨g0, 0, none⟩) 3 3, .slice (some ⟨g1, 0, none⟩) 3 3, .slice (some ⟨g2, 0, none⟩) 3 3] 26 (0, 0))) (some ⟨g3, 0, none⟩) 3 3 [l1, l2, l3] := by
  subst e0; subst e1; subst e2; subst e3
  have hs : (((w.alloc (.cells (row vi l1) 3 (0, 0))).alloc (.cells (row vi l2) 3 (0, 0))).alloc (.cells (row vi l3) 3 (0, 0))).heap.size = w.heap.size + 3 := by simp
  have hs2 : ((w.alloc (.cells (row vi l1) 3 (0, 0))).alloc (.cells (row vi l2) 3 (0, 0))).heap.size = w.heap.size + 2 := by simp
  have r1 := rd_new vi 3 w l1 h1 (by omega : 3 ≤ 9223372036854775807)
  have r2 := rd_new1 vi 3 w (.cells (row vi l1) 3 (0, 0)) l2 h2 (by omega : 3 ≤ 9223372036854775807)
  have r3 := rd_new vi 3 ((w.alloc (.cells (row vi l1) 3 (0, 0))).alloc (.cells (row vi l2) 3 (0, 0))) l3 h3 (by omega : 3 ≤ 9223372036854775807)
  have r4 := rd_new vh 26 (((w.alloc (.cells (row vi l1) 3 (0, 0))).alloc (.cells (row vi l2) 3 (0, 0))).alloc (.cells (row vi l3) 3 (0, 0))) [hdr3 w.heap.size, hdr3 (w.heap.size + 1), hdr3 (w.heap.size + 2)] (n := 3) rfl (by omega)
  rw [hs] at r4
  rw [hs2] at r3
  refine ⟨_, r4, rfl, fun i h m hi hm => ?_⟩
  match i, hi, hm with
  | 0, hi, hm => cases hi; cases hm; exact ((r1.alloc _).alloc _).alloc _
  | 1, hi, hm => cases hi; cases hm; exact (r2.alloc _).alloc _
  | 2, hi, hm => cases hi; cases hm; exact r3.alloc _
theorem example_any (w : World) :
    Calls Try.prog 36 #[] w fun e w' => ∃ g, e = .returned (.slice (some ⟨g, 0, none⟩) 3 3) ∧ RdT w' (some ⟨g, 0, none⟩) 3 3 exT ∧ Below w.heap.size w w' := by
  go_enter Try.func36, Try.ntmps36
  go_wp2_with fail
  go_ret
  refine ⟨w.heap.size + 3, rfl, lit3 w [0, 5, 2] [3, 0, 0] [0, 4, 0] _ _ _ _ rfl rfl rfl rfl rfl rfl rfl, ?_⟩
  exact below_alloc _ (below_alloc _ (below_alloc _ (below_alloc _ (below_refl w))))
theorem aw_bal (a : Option Addr) (c : Nat) (w : World) (h : RdT w a 3 c exT) :
    Calls Try.prog 17 #[.slice a 3 c] w fun e w' => ∃ g, e = .returned (.tuple #[.slice (some ⟨g, 0, none⟩) 3 3, .int .i64 0]) ∧ Rd vi w' (some ⟨g, 0, none⟩) 3 3 [-4, 6, -2] ∧ Below w.heap.size w w' := by
  refine (Balance_any a 3 c exT w h exT_vt).mono fun e w' ⟨g, he, hg, hB, hb⟩ => ?_
  rw [ex_bal] at hB
  exact ⟨g, he, hB.rdn rfl (Nat.le_refl _) (by omega), hb⟩
theorem aw_allow (a b : Option Addr) (c d : Nat) (w : World) (h : RdT w a 3 c exT) (h2 : Rd vi w b 3 d [10, 10, 10]) :
    Calls Try.prog 18 #[.slice a 3 c, .slice b 3 d, .int .i64 8, .int .i64 2, .int .i64 1] w fun e w' => e = .returned (.tuple #[.int .i64 2, .int .i64 0]) ∧ Below w.heap.size w w' := by
  have := allowed_ok a 3 c exT b d [10, 10, 10] 8 2 1 w h h2 exT_fit (by omega) (by omega) (by omega) (by omega) (by omega)
  rwa [ex_allow] at this
theorem aw_cancel (a : Option Addr) (c : Nat) (w : World) (h : RdT w a 3 c exT) :
    Calls Try.prog 23 #[.slice a 3 c] w fun e w' => ∃ g, e = .returned (.tuple #[.slice (some ⟨g, 0, none⟩) 3 3, .int .i64 0]) ∧ RdT w' (some ⟨g, 0, none⟩) 3 3 [[0, 2, 2], [0, 0, 0], [0, 4, 0]] ∧ Below w.heap.size w w' := by
  refine (cancel_ok a 3 c exT w h exT_vt).mono fun e w' ⟨g, T', he, hC, _, hO, hb⟩ => ?_
  rw [hC.unique ex_canc] at hO
  exact ⟨g, he, hO.rdt, hb⟩
theorem aw_settle (a b : Option Addr) (c d : Nat) (w : World) (h : RdT w a 3 c exT) (h2 : Rd vi w b 3 d exQ) :
    Calls Try.prog 28 #[.slice a 3 c, .slice b 3 d] w fun e w' => ∃ g mc, e = .returned (.tuple #[.slice (some ⟨g, 0, none⟩) 1 mc, .int .i64 0]) ∧ (∀ k v, (vm ⟨0, 2, 1, 2⟩)[k]? = some v → w'.cell? ⟨g, k, none⟩ = some v) ∧ Below w.heap.size w w' := by
  obtain ⟨g1, y, h3, h4, h5⟩ := ex_run
  refine (settle_ok reliefAny a 3 c exT b d exQ w h h2 exQ_fit ex_n ex_ch ex_l 50 g1 y h3 h4 _ h5).mono fun e w' ⟨ma, mc, he, hO, hb⟩ => ?_
  obtain ⟨g, rfl, hc⟩ := OwnA.cells hO vm_len (i := 0) rfl
  exact ⟨g, mc, he, fun k v hk => by have := hc k v hk; rwa [Nat.zero_mul, Nat.zero_add] at this, hb⟩
theorem aw_full (a b : Option Addr) (c d : Nat) (w : World) (h : RdT w a 3 c exT) (h2 : Rd vi w b 3 d exR) :
    Calls Try.prog 28 #[.slice a 3 c, .slice b 3 d] w fun e w' => e = .returned (.tuple #[.slice none 0 0, .int .i64 7]) ∧ Below w.heap.size w w' := by
  obtain ⟨g1, y, h3, h4⟩ := ex_full
  exact settle_full reliefAny a 3 c exT b d exR w h h2 exR_fit ex_n2 50 g1 y h3 h4
end Go.Proofs.Ytpecepfnmkpmmaa
