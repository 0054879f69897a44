/- kinkeeplaw04.awake returns true. -/
import Derived.Test.YtchhfpaicdhjbaaMke
namespace Go.Proofs.Ytchhfpaicdhjbaa
open Go.RowKit Go.Kin Mat
open Fq (sum)
set_option maxRecDepth 100000
set_option linter.unusedVariables false

theorem lit2e (w : World) (l1 l2 : List Nat) (k g0 g1 g2 : Nat) (h1 : l1.length = k) (h2 : l2.length = k) (hk : k ≤ 1000) (e0 : g0 = w.heap.size) (e1 : g1 = w.heap.size + 1) (e2 : g2 = w.heap.size + 2) :
    RdM (((w.alloc (.cells (row vb l1) 5 (0, 0))).alloc (.cells (row vb l2) 5 (0, 0))).alloc (.cells #[.slice (some ⟨g0, 0, none⟩) k k, .slice (some ⟨g1, 0, none⟩) k k] 34 (0, 0))) (some ⟨g2, 0, none⟩) 2 2 [l1, l2] := by
  subst e0; subst e1; subst e2
  have hs : ((w.alloc (.cells (row vb l1) 5 (0, 0))).alloc (.cells (row vb l2) 5 (0, 0))).heap.size = w.heap.size + 2 := by simp
  have r1 := rd_new vb 5 w l1 h1 (by omega : k ≤ 9223372036854775807)
  have r2 := rd_new1 vb 5 w (.cells (row vb l1) 5 (0, 0)) l2 h2 (by omega : k ≤ 9223372036854775807)
  have r3 := rd_new vh 34 ((w.alloc (.cells (row vb l1) 5 (0, 0))).alloc (.cells (row vb l2) 5 (0, 0))) [hdr k w.heap.size, hdr k (w.heap.size + 1)] (n := 2) rfl (by omega)
  rw [hs] at r3
  refine ⟨_, r3, rfl, fun i h m hi hm => ?_⟩
  match i, hi, hm with
  | 0, hi, hm => cases hi; cases hm; exact (r1.alloc _).alloc _
  | 1, hi, hm => cases hi; cases hm; exact r2.alloc _
theorem lit1e (w : World) (l1 : List Nat) (k g0 g2 : Nat) (h1 : l1.length = k) (hk : k ≤ 1000) (e0 : g0 = w.heap.size) (e2 : g2 = w.heap.size + 1) :
    RdM ((w.alloc (.cells (row vb l1) 5 (0, 0))).alloc (.cells #[.slice (some ⟨g0, 0, none⟩) k k] 34 (0, 0))) (some ⟨g2, 0, none⟩) 1 1 [l1] := by
  subst e0; subst e2
  have hs : (w.alloc (.cells (row vb l1) 5 (0, 0))).heap.size = w.heap.size + 1 := by simp
  have r1 := rd_new vb 5 w l1 h1 (by omega : k ≤ 9223372036854775807)
  have r3 := rd_new vh 34 (w.alloc (.cells (row vb l1) 5 (0, 0))) [hdr k w.heap.size] (n := 1) rfl (by omega)
  rw [hs] at r3
  refine ⟨_, r3, rfl, fun i h m hi hm => ?_⟩
  match i, hi, hm with
  | 0, hi, hm => cases hi; cases hm; exact r1.alloc _

def mA : Mat := fnOf [[1, 2], [2, 4]]
def mB : Mat := fnOf [[1, 2], [0, 0]]
def mC : Mat := fnOf [[1, 1], [2, 0]]
def mD : Mat := fnOf [[3, 4], [5, 6]]
theorem mA_l : mlist 2 2 mA = [[1, 2], [2, 4]] := by decide +kernel
theorem mB_l : mlist 2 2 mB = [[1, 2], [0, 0]] := by decide +kernel
theorem mC_l : mlist 2 2 mC = [[1, 1], [2, 0]] := by decide +kernel
theorem mD_l : mlist 2 2 mD = [[3, 4], [5, 6]] := by decide +kernel
theorem aw_c : mlist 1 2 (cauchyM 2) = [[142, 244]] := by decide +kernel
theorem aw_r : mlist 2 2 (elimE 2 mA 2).R = [[1, 2], [0, 0]] := by decide +kernel
theorem aw_p : (elimE 2 mA 2).piv = [0] := by decide +kernel
theorem aw_k0 : freeC (elimE 2 mA 2).piv 2 = [1] := by decide +kernel
theorem aw_k : mlist 1 2 (kerM (elimE 2 mA 2) [1]) = [[2, 1]] := by decide +kernel
def sY : EState := elimE 2 (aug 2 mB (colM [5, 0])) 2
def sN : EState := elimE 2 (aug 2 mB (colM [5, 1])) 2
theorem sY_len : sY.piv.length = 1 := by decide +kernel
theorem sN_len : sN.piv.length = 1 := by decide +kernel
theorem sY_0 : sY.R 1 2 = 0 := by decide +kernel
theorem sN_0 : sN.R 1 2 ≠ 0 := by decide +kernel
theorem sY_x : mrow 2 (solV sY 2 sY.piv.length) = [5, 0] := by decide +kernel
theorem aw_b : mlist 2 2 (mul 2 mC mD) = [[6, 2], [6, 8]] := by decide +kernel
theorem vm22 : VM 2 2 := ⟨by omega, by omega, fun h => by omega⟩

theorem aw_solve_yes (a b : Option Addr) (c d : Nat) (w : World) (h : RdM w a 2 c [[1, 2], [0, 0]]) (h2 : Rd vb w b 2 d [5, 0]) :
    Calls Try.prog 31 #[.slice a 2 c, .slice b 2 d] w fun e w' => ∃ g, e = .returned (.tuple #[.slice (some ⟨g, 0, none⟩) 2 2, .int .i64 0]) ∧ Rd vb w' (some ⟨g, 0, none⟩) 2 2 [5, 0] ∧ Below w.heap.size w w' := by
  refine (solve_any a b 2 c d 2 mB [5, 0] w (by rw [mB_l]; exact h) h2 (by intro x hx; simp at hx; omega) vm22).mono fun e w' hr => ?_
  rcases hr with ⟨_, g, he, hB, hb⟩ | ⟨⟨i, h1, h2, h3⟩, _⟩
  · refine ⟨g, he, ?_, hb⟩
    have := hB.rdn (n := 2) (c := 2) (mrow_length _ _) (Nat.le_refl _) (by omega)
    rwa [show mrow 2 (solV (elimE 2 (aug 2 mB (colM [5, 0])) 2) 2 (elimE 2 (aug 2 mB (colM [5, 0])) 2).piv.length) = [5, 0] from sY_x] at this
  · exfalso
    have h4 := sY_len
    unfold sY at h4
    have : i = 1 := by omega
    subst this
    exact h3 sY_0
theorem aw_solve_no (a b : Option Addr) (c d : Nat) (w : World) (h : RdM w a 2 c [[1, 2], [0, 0]]) (h2 : Rd vb w b 2 d [5, 1]) :
    Calls Try.prog 31 #[.slice a 2 c, .slice b 2 d] w fun e w' => e = .returned (.tuple #[.slice none 0 0, .int .i64 4]) ∧ Below w.heap.size w w' := by
  refine (solve_any a b 2 c d 2 mB [5, 1] w (by rw [mB_l]; exact h) h2 (by intro x hx; simp at hx; omega) vm22).mono fun e w' hr => ?_
  rcases hr with ⟨h1, _⟩ | ⟨_, he, hb⟩
  · exfalso
    exact sN_0 (h1 1 (by have := sN_len; unfold sN at this; omega) (by omega))
  · exact ⟨he, hb⟩
theorem aw_reduce (a : Option Addr) (c : Nat) (w : World) (h : RdM w a 2 c [[1, 2], [2, 4]]) :
    Calls Try.prog 28 #[.slice a 2 c] w fun e w' => ∃ ra rc pa pc, e = .returned (.tuple #[.slice ra 2 rc, .slice pa 1 pc, .int .i64 0]) ∧ RdM w' ra 2 rc [[1, 2], [0, 0]] ∧ Rd vi w' pa 1 pc [0] ∧ Below w.heap.size w w' := by
  refine (reduce_ok a 2 c 2 mA w (by rw [mA_l]; exact h) vm22).mono fun e w' ⟨ra, rc, pa, pc, he, hM, hO, hb⟩ => ?_
  rw [aw_p] at he hO
  have h1 := hM.rdm
  rw [aw_r] at h1
  exact ⟨ra, rc, pa, pc, he, h1, hO.rd, hb⟩
theorem aw_kernel (a : Option Addr) (c : Nat) (w : World) (h : RdM w a 2 c [[1, 2], [2, 4]]) :
    Calls Try.prog 17 #[.slice a 2 c] w fun e w' => ∃ ra rc, e = .returned (.tuple #[.slice ra 1 rc, .int .i64 0]) ∧ RdM w' ra 1 rc [[2, 1]] ∧ Below w.heap.size w w' := by
  refine (kernel_any a 2 c 2 mA w (by rw [mA_l]; exact h) vm22).mono fun e w' ⟨ra, rc, he, hM, hb⟩ => ?_
  rw [aw_k0] at he hM
  have h1 := hM.rdm
  rw [show ([1] : List Nat).length = 1 from rfl, aw_k] at h1
  exact ⟨ra, rc, he, h1, hb⟩
theorem aw_apply (a b : Option Addr) (c d : Nat) (w : World) (h : RdM w a 2 c [[1, 1], [2, 0]]) (h2 : RdM w b 2 d [[3, 4], [5, 6]]) :
    Calls Try.prog 26 #[.slice a 2 c, .slice b 2 d] w fun e w' => ∃ g, e = .returned (.tuple #[.slice (some ⟨g, 0, none⟩) 2 2, .int .i64 0]) ∧ RdM w' (some ⟨g, 0, none⟩) 2 2 [[6, 2], [6, 8]] ∧ Below w.heap.size w w' := by
  refine (apply_ok a b 2 c 2 d 2 mC mD w (by rw [mC_l]; exact h) (by rw [mD_l]; exact h2) vm22 (by omega) (by omega)).mono fun e w' ⟨g, he, hM, hb⟩ => ?_
  have h1 := hM.rdm
  rw [aw_b] at h1
  exact ⟨g, he, h1, hb⟩
theorem aw_cauchy (w : World) :
    Calls Try.prog 34 #[.int .i64 1, .int .i64 2] w fun e w' => ∃ g, e = .returned (.tuple #[.slice (some ⟨g, 0, none⟩) 1 1, .int .i64 0]) ∧ RdM w' (some ⟨g, 0, none⟩) 1 1 [[142, 244]] ∧ Below w.heap.size w w' := by
  refine (cauchy_any 1 2 w (by omega) (by omega)).mono fun e w' ⟨g, he, hM, hb⟩ => ?_
  have h1 := hM.rdm (by omega)
  rw [aw_c] at h1
  exact ⟨g, he, h1, hb⟩
theorem bytM {M : List (List Nat)} (h : decide (∀ m ∈ M, ∀ x ∈ m, x < 256) = true) : ∀ m ∈ M, Gf.Byt m := @of_decide_eq_true (∀ m ∈ M, ∀ x ∈ m, x < 256) _ h

set_option maxHeartbeats 4000000 in
theorem awake_any (w : World) :
    Calls Try.prog 14 #[] w fun e w' => e = .returned (.bool true) ∧ Below w.heap.size w w' := by
  go_enter Try.func14, Try.ntmps14
  go_wp2_with (first
    | (go_at_call 34; refine (aw_cauchy _).mono ?_; rintro e w1 ⟨g1, rfl, r1, b1⟩)
    | (go_at_call 28; refine (aw_reduce _ _ _ (lit2e w1 [1, 2] [2, 4] 2 _ _ _ rfl rfl (by omega) rfl rfl rfl)).mono ?_; rintro e w2 ⟨a2, c2, p2, pc2, rfl, r2, rp2, b2⟩; have bw2 : Below w1.heap.size w1 w2 := bt (below_alloc _ (below_alloc _ (below_alloc _ (below_refl w1)))) b2; have lit2 := (lit2e w1 [1, 2] [2, 4] 2 _ _ _ rfl rfl (by omega) rfl rfl rfl).fw b2; clear b2)
    | (go_at_call 17; refine (aw_kernel _ _ _ lit2).mono ?_; rintro e w3 ⟨a3, c3, rfl, r3, b3⟩)
    | (go_at_call_of 31 w3; refine (aw_solve_yes _ _ _ _ _ ((lit2e w3 [1, 2] [0, 0] 2 _ _ _ rfl rfl (by omega) rfl rfl rfl).alloc _) (rd_newe vb 5 _ [5, 0] (n := 2) rfl (by omega) (by simp))).mono ?_; rintro e w4 ⟨g4, rfl, r4, b4⟩; have bw4 : Below w3.heap.size w3 w4 := bt (below_alloc _ (below_alloc _ (below_alloc _ (below_alloc _ (below_refl w3))))) b4; clear b4)
    | (go_at_call_of 31 w4; refine (aw_solve_no _ _ _ _ _ ((lit2e w4 [1, 2] [0, 0] 2 _ _ _ rfl rfl (by omega) rfl rfl rfl).alloc _) (rd_newe vb 5 _ [5, 1] (n := 2) rfl (by omega) (by simp))).mono ?_; rintro e w5 ⟨rfl, b5⟩; have bw5 : Below w4.heap.size w4 w5 := bt (below_alloc _ (below_alloc _ (below_alloc _ (below_alloc _ (below_refl w4))))) b5; clear b5)
    | (go_at_call 26; refine (aw_apply _ _ _ _ _ ((((lit2e w5 [1, 1] [2, 0] 2 _ _ _ rfl rfl (by omega) rfl rfl rfl).alloc _).alloc _).alloc _) (lit2e _ [3, 4] [5, 6] 2 _ _ _ rfl rfl (by omega) (by simp) (by simp) (by simp))).mono ?_; rintro e w6 ⟨g6, rfl, r6, b6⟩; have bw6 : Below w5.heap.size w5 w6 := bt (below_alloc _ (below_alloc _ (below_alloc _ (below_alloc _ (below_alloc _ (below_alloc _ (below_refl w5))))))) b6; clear b6)
    | (go_at_call_of 21 g1; refine (msame_eq _ _ 1 1 _ _ [[142, 244]] _ _ (by repeat (first | assumption | apply RdM.alloc | (apply RdM.fw2; assumption))) (lit1e w6 [142, 244] 2 _ _ rfl (by omega) rfl rfl) (bytM (by decide)) rfl).mono ?_; rintro e w7 ⟨rfl, hd⟩; have bw7 : Below w6.heap.size w6 w7 := bt (below_alloc _ (below_alloc _ (below_refl w6))) hd.fw; clear hd)
    | (go_at_call_of 21 a2; refine (msame_eq _ _ 2 2 _ _ [[1, 2], [0, 0]] _ _ (by repeat (first | assumption | apply RdM.alloc | (apply RdM.fw2; assumption))) (lit2e w7 [1, 2] [0, 0] 2 _ _ _ rfl rfl (by omega) rfl rfl rfl) (bytM (by decide)) rfl).mono ?_; rintro e w8 ⟨rfl, hd⟩; have bw8 : Below w7.heap.size w7 w8 := bt (below_alloc _ (below_alloc _ (below_alloc _ (below_refl w7)))) hd.fw; clear hd)
    | (go_at_call 30; refine (ints_any _ _ 1 1 _ _ [0] [0] _ (by repeat (first | assumption | apply Rd.alloc | (apply Rd.fw2; assumption))) (rd_newe vi 3 w8 [0] (n := 1) rfl (by omega) rfl)).mono ?_; rintro e w9 ⟨rfl, hd⟩; have bw9 : Below w8.heap.size w8 w9 := bt (below_alloc _ (below_refl w8)) hd.fw; clear hd)
    | (go_at_call_of 21 a3; refine (msame_eq _ _ 1 1 _ _ [[2, 1]] _ _ (by repeat (first | assumption | apply RdM.alloc | (apply RdM.fw2; assumption))) (lit1e w9 [2, 1] 2 _ _ rfl (by omega) rfl rfl) (bytM (by decide)) rfl).mono ?_; rintro e w10 ⟨rfl, hd⟩; have bw10 : Below w9.heap.size w9 w10 := bt (below_alloc _ (below_alloc _ (below_refl w9))) hd.fw; clear hd; have rs : Rd vb w10 (some ⟨g4, 0, none⟩) 2 2 [5, 0] := (by repeat (first | assumption | apply Rd.alloc | (apply Rd.fw2; assumption))); have s5 : (convert 34 9 (.slice (some ⟨g4, 0, none⟩) 2 2)).run Try.prog w10 = .ok (.string ⟨#[5, 0]⟩) w10 := run_string_rd (P := Try.prog) rs Try.underlying34 Try.underlying5 Try.underlying9; clear rs)
    | (go_at_call_of 21 g6; refine (msame_eq _ _ 2 2 _ _ [[6, 2], [6, 8]] _ _ (by repeat (first | assumption | apply RdM.alloc | (apply RdM.fw2; assumption))) (lit2e w10 [6, 2] [6, 8] 2 _ _ _ rfl rfl (by omega) rfl rfl rfl) (bytM (by decide)) rfl).mono ?_; rintro e w11 ⟨rfl, hd⟩; have bw11 : Below w10.heap.size w10 w11 := bt (below_alloc _ (below_alloc _ (below_alloc _ (below_refl w10)))) hd.fw; clear hd))
  go_ret
  exact ⟨rfl, (by repeat (first | assumption | apply below_alloc | (apply bt'; assumption)))⟩
end Go.Proofs.Ytchhfpaicdhjbaa
