/- MatrixReduces: the walk. -/
import Derived.Test.YtchhfpaicdhjbaaMw
import Derived.Test.YtchhfpaicdhjbaaMkc
namespace Go.Proofs.Ytchhfpaicdhjbaa
open Go.RowKit Go.Kin Mat
set_option maxRecDepth 100000
set_option linter.unusedVariables false

set_option maxHeartbeats 4000000 in
theorem walk_MatrixReduces (a : Option Addr) (n c : Nat) (A : List (List Nat)) (w : World) (h1 : RdM w a n c A) (hb1 : ∀ m ∈ A, ∀ x ∈ m, x < 256) :
    Calls Try.prog 6 #[.slice a n c] w fun e w' => e = .returned (.bool true) ∧ Below w.heap.size w w' := by
  by_cases hfA : FewL A 8
  case neg =>
    have HF := decide_eq_false hfA
    go_enter Try.func6, Try.ntmps6
    go_wp2_with (first
      | (go_at_call 13; refine (few_any _ _ _ _ 8 _ h1).mono ?_; rw [HF]; rintro e w' ⟨rfl, rfl⟩)
      | (go_at_call 14; refine (awake_any _).mono ?_; rintro e w1 ⟨rfl, b1⟩))
    go_ret
    exact ⟨rfl, b1⟩
  have HF := decide_eq_true hfA
  by_cases hok : ValidL A
  · have dA := decide_eq_true hok
    obtain ⟨k, f, v1, hk, rfl⟩ := valid_form h1 hb1 hok
    obtain ⟨s, hs⟩ : ∃ s, s = elimE n f k := ⟨_, rfl⟩
    have HS := Lib.hid hs
    have hlen : s.piv.length ≤ n := by rw [hs]; exact (ech_elim n f k).len
    have hn := v1.hn
    clear hk hfA hok hb1 hs
    go_enter Try.func6, Try.ntmps6
    go_wp2_with (first
      | (go_at_call 13; refine (few_any _ _ _ _ 8 _ h1).mono ?_; rw [HF]; rintro e w' ⟨rfl, rfl⟩)
      | (go_at_call 28; refine (reduce_ok _ _ _ _ f _ (by repeat (first | assumption | apply RdM.alloc | (apply RdM.fw2; assumption))) v1).mono ?_; rw [← HS.out]; rintro e w1 ⟨ra, rc, pa, pc, rfl, hM, hO, b1⟩; have r1 := hM.rdm; have p1 := hO.rd; clear hM hO)
      | (go_at_call 16; refine (rvalid_any _ _ _ _ _ (by repeat (first | assumption | apply RdM.alloc | (apply RdM.fw2; assumption)))).mono ?_; rintro e w2 ⟨rfl, hd⟩; have b2 := hd.fw; clear hd)
      | (go_at_call 18; refine (rreduce_any _ _ _ _ f _ (by repeat (first | assumption | apply RdM.alloc | (apply RdM.fw2; assumption))) v1).mono ?_; rw [← HS.out]; rintro e w3 ⟨oa, oc, qa, qc, rfl, hM, hO, b3⟩; have r3 := hM.rdm (by have := v1.hk; omega); have p3 := hO.rd; clear hM hO)
      | (go_at_call 14; refine (awake_any _).mono ?_; rintro e w4 ⟨rfl, b4⟩)
      | (go_at_call 21; refine (msame_eq _ _ _ _ _ _ _ _ _ (by repeat (first | assumption | apply RdM.alloc | (apply RdM.fw2; assumption))) (by repeat (first | assumption | apply RdM.alloc | (apply RdM.fw2; assumption))) mlist_b rfl).mono ?_; rintro e w5 ⟨rfl, hd⟩; have b5 := hd.fw; clear hd)
      | (go_at_call 30; refine (ints_any _ _ _ _ _ _ _ _ _ (by repeat (first | assumption | apply Rd.alloc | (apply Rd.fw2; assumption))) (by repeat (first | assumption | apply Rd.alloc | (apply Rd.fw2; assumption)))).mono ?_; rw [decide_eq_true rfl]; rintro e w6 ⟨rfl, hd⟩; have b6 := hd.fw; clear hd)
      | (go_at_call 29; refine (rank_ok _ _ _ _ f _ (by repeat (first | assumption | apply RdM.alloc | (apply RdM.fw2; assumption))) v1).mono ?_; rw [← HS.out]; rintro e w7 ⟨rfl, b7⟩))
    go_ret
    exact ⟨rfl, (by repeat (first | assumption | apply below_alloc | (apply bt'; assumption)))⟩
  · have dA := decide_eq_false hok
    have HO := Lib.hid hok
    clear hok hfA
    go_enter Try.func6, Try.ntmps6
    go_wp2_with (first
      | (go_at_call 13; refine (few_any _ _ _ _ 8 _ h1).mono ?_; rw [HF]; rintro e w' ⟨rfl, rfl⟩)
      | (go_at_call 28; refine (reduce_bad _ _ _ A _ (by repeat (first | assumption | apply RdM.alloc | (apply RdM.fw2; assumption))) HO.out).mono ?_; rintro e w' ⟨rfl, rfl⟩)
      | (go_at_call 16; refine (rvalid_any _ _ _ _ _ (by repeat (first | assumption | apply RdM.alloc | (apply RdM.fw2; assumption)))).mono ?_; rintro e w2 ⟨rfl, hd⟩; have b2 := hd.fw; clear hd)
      | (go_at_call 14; refine (awake_any _).mono ?_; rintro e w4 ⟨rfl, b4⟩)
      | (go_at_call 29; refine (rank_bad _ _ _ A _ (by repeat (first | assumption | apply RdM.alloc | (apply RdM.fw2; assumption))) HO.out).mono ?_; rintro e w' ⟨rfl, rfl⟩))
    go_ret
    exact ⟨rfl, (by repeat (first | assumption | apply below_alloc | (apply bt'; assumption)))⟩
end Go.Proofs.Ytchhfpaicdhjbaa
