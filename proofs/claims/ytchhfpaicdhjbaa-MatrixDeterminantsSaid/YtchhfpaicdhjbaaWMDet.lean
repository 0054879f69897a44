/- MatrixDeterminants: the walk. -/
import Derived.Test.YtchhfpaicdhjbaaMw
import Derived.Test.YtchhfpaicdhjbaaMkd
import Derived.Test.YtchhfpaicdhjbaaMy
namespace Go.Proofs.Ytchhfpaicdhjbaa
open Go.RowKit Go.Kin Mat
set_option maxRecDepth 100000
set_option linter.unusedVariables false

set_option maxHeartbeats 4000000 in
theorem walk_MatrixDeterminants (a : Option Addr) (n c : Nat) (A : List (List Nat)) (w : World) (h1 : RdM w a n c A) (hb1 : ∀ m ∈ A, ∀ x ∈ m, x < 256) :
    Calls Try.prog 11 #[.slice a n c] w fun e w' => e = .returned (.bool true) ∧ Below w.heap.size w w' := by
  by_cases hfA : FewL A 6
  case neg =>
    have HF := decide_eq_false hfA
    go_enter Try.func11, Try.ntmps11
    go_wp2_with (first
      | (go_at_call 13; refine (few_any _ _ _ _ 6 _ h1).mono ?_; rw [HF]; rintro e w' ⟨rfl, rfl⟩)
      | (go_at_call 14; refine (awake_any _).mono ?_; rintro e w1 ⟨rfl, b1⟩))
    go_ret
    exact ⟨rfl, b1⟩
  have HF := decide_eq_true hfA
  have hl := h1.len
  by_cases hok : ValidL A ∧ A.length = colsL A
  · obtain ⟨vA, hsq⟩ := hok
    have dA := decide_eq_true vA
    obtain ⟨k, f, v1, hk, rfl⟩ := valid_form h1 hb1 vA
    rw [mlist_length, ← hk] at hsq
    subst hsq
    have hcA := v1.cols f
    have hn := v1.hn
    have e1 : ((n : Int) != (n : Int)) = false := by simp
    obtain ⟨d, hd⟩ : ∃ d, d = (det n f).n := ⟨_, rfl⟩
    have d1 : d < 256 := by rw [hd]; exact (det n f).h
    have HD := Lib.hid hd
    clear hk hfA vA hb1 hl
    by_cases hd0 : d = 0
    · have hlen : (elimE n (aug n f idm) n).piv.length < n := by
        have h2 : det n f = 0 := Fq.n_eq_zero.1 (by rw [← hd, hd0])
        have h3 := (ech_elim n (aug n f idm) n).len
        have h4 : ¬ (elimE n (aug n f idm) n).piv.length = n := fun e => (det_inv n f).2 e h2
        omega
      have HL := Lib.hid hlen
      have e2 : (((d : Nat) : Int) == 0) = true := by rw [hd0]; rfl
      have e3 : (((d : Nat) : Int) != ((d : Nat) : Int)) = false := by simp
      clear hlen hd hd0
      go_enter Try.func11, Try.ntmps11
      go_wp2_with (first
        | (go_at_call 13; refine (few_any _ _ _ _ 6 _ h1).mono ?_; rw [HF]; rintro e w' ⟨rfl, rfl⟩)
        | (go_at_call 32; refine (det_ok _ _ _ f _ (by repeat (first | assumption | apply RdM.alloc | (apply RdM.fw2; assumption))) hn).mono ?_; rw [← HD.out]; rintro e w1 ⟨rfl, b1⟩)
        | (go_at_call 36; refine (inv_none _ _ _ f _ (by repeat (first | assumption | apply RdM.alloc | (apply RdM.fw2; assumption))) hn HL.out).mono ?_; rintro e w2 ⟨rfl, b2⟩)
        | (go_at_call 16; refine (rvalid_any _ _ _ _ _ (by repeat (first | assumption | apply RdM.alloc | (apply RdM.fw2; assumption)))).mono ?_; rintro e w3 ⟨rfl, hd⟩; have b3 := hd.fw; clear hd)
        | (go_at_call 19; refine (rcols_any _ _ _ _ _ (by repeat (first | assumption | apply RdM.alloc | (apply RdM.fw2; assumption)))).mono ?_; rw [hcA]; rintro e w' ⟨rfl, rfl⟩)
        | (go_at_call 41; refine (rdet_any _ _ _ f _ (by repeat (first | assumption | apply RdM.alloc | (apply RdM.fw2; assumption))) hn).mono ?_; rw [← HD.out]; rintro e w4 ⟨rfl, b4⟩)
        | (go_at_call 14; refine (awake_any _).mono ?_; rintro e w5 ⟨rfl, b5⟩))
      go_ret
      exact ⟨rfl, (by repeat (first | assumption | apply below_alloc | (apply bt'; assumption)))⟩
    · have hlen : (elimE n (aug n f idm) n).piv.length = n := (det_inv n f).1 fun e => hd0 (by rw [hd, e]; rfl)
      have e2 : (((d : Nat) : Int) == 0) = false := by simp; omega
      have e3 : (((d : Nat) : Int) != ((d : Nat) : Int)) = false := by simp
      obtain ⟨i1, i2⟩ := inv_both hlen
      obtain ⟨X, hX⟩ : ∃ X : Mat, X = fun i c => (elimE n (aug n f idm) n).R i (n + c) := ⟨_, rfl⟩
      rw [← hX] at i1 i2
      have HX := Lib.hid hX; have HL := Lib.hid hlen
      have I1 : Hid (mlist n n (mul n f X) = mlist n n idm) := mlist_congr i1
      have I2 : Hid (mlist n n (mul n X f) = mlist n n idm) := mlist_congr i2
      clear hlen hd hd0 hX i1 i2
      have tok : True := trivial
      go_enter Try.func11, Try.ntmps11
      go_wp2_with (first
        | (go_at_call 13; refine (few_any _ _ _ _ 6 _ h1).mono ?_; rw [HF]; rintro e w' ⟨rfl, rfl⟩)
        | (go_at_call 32; refine (det_ok _ _ _ f _ (by repeat (first | assumption | apply RdM.alloc | (apply RdM.fw2; assumption))) hn).mono ?_; rw [← HD.out]; rintro e w1 ⟨rfl, b1⟩)
        | (go_at_call 36; refine (inv_ok _ _ _ f _ (by repeat (first | assumption | apply RdM.alloc | (apply RdM.fw2; assumption))) hn HL.out).mono ?_; rw [← HX.out]; rintro e w2 ⟨o2, rfl, hM, b2⟩; have r2 := hM.rdm; clear hM)
        | (go_at_call 16; refine (rvalid_any _ _ _ _ _ (by repeat (first | assumption | apply RdM.alloc | (apply RdM.fw2; assumption)))).mono ?_; rintro e w3 ⟨rfl, hd⟩; have b3 := hd.fw; clear hd)
        | (go_at_call 19; refine (rcols_any _ _ _ _ _ (by repeat (first | assumption | apply RdM.alloc | (apply RdM.fw2; assumption)))).mono ?_; rw [hcA]; rintro e w' ⟨rfl, rfl⟩)
        | (go_at_call 41; refine (rdet_any _ _ _ f _ (by repeat (first | assumption | apply RdM.alloc | (apply RdM.fw2; assumption))) hn).mono ?_; rw [← HD.out]; rintro e w4 ⟨rfl, b4⟩)
        | (go_at_call 25; have _t := tok; refine (mul_ok _ _ _ _ _ _ _ f X _ (by repeat (first | assumption | apply RdM.alloc | (apply RdM.fw2; assumption))) (by repeat (first | assumption | apply RdM.alloc | (apply RdM.fw2; assumption))) v1 v1).mono ?_; rintro e w6 ⟨o6, rfl, hM, b6⟩; have r6 := hM.rdm; clear hM; rw [I1.out] at r6; clear _t tok)
        | (go_at_call 25; refine (mul_ok _ _ _ _ _ _ _ X f _ (by repeat (first | assumption | apply RdM.alloc | (apply RdM.fw2; assumption))) (by repeat (first | assumption | apply RdM.alloc | (apply RdM.fw2; assumption))) v1 v1).mono ?_; rintro e w7 ⟨o7, rfl, hM, b7⟩; have r7 := hM.rdm; clear hM; rw [I2.out] at r7)
        | (go_at_call 37; refine (rident_any n _ (by omega)).mono ?_; rintro e w8 ⟨a8, c8, rfl, hM, b8⟩; have r8 := hM.rdm (by omega); clear hM)
        | (go_at_call_of 21 o6; refine (msame_eq _ _ _ _ _ _ _ _ _ (by repeat (first | assumption | apply RdM.alloc | (apply RdM.fw2; assumption))) (by repeat (first | assumption | apply RdM.alloc | (apply RdM.fw2; assumption))) mlist_b rfl).mono ?_; rintro e w9 ⟨rfl, hd⟩; have b9 := hd.fw; clear hd)
        | (go_at_call_of 21 o7; refine (msame_eq _ _ _ _ _ _ _ _ _ (by repeat (first | assumption | apply RdM.alloc | (apply RdM.fw2; assumption))) (by repeat (first | assumption | apply RdM.alloc | (apply RdM.fw2; assumption))) mlist_b rfl).mono ?_; rintro e w10 ⟨rfl, hd⟩; have b10 := hd.fw; clear hd)
        | (go_at_call 14; refine (awake_any _).mono ?_; rintro e w5 ⟨rfl, b5⟩))
      go_ret
      exact ⟨rfl, (by repeat (first | assumption | apply below_alloc | (apply bt'; assumption)))⟩
  · have HO := Lib.hid hok
    by_cases vA : ValidL A
    · have dA := decide_eq_true vA
      have e1 : (((colsL A : Nat) : Int) != (n : Int)) = true := by
        have : A.length ≠ colsL A := fun e => hok ⟨vA, e⟩
        simp; omega
      clear hok hl hfA vA
      go_enter Try.func11, Try.ntmps11
      go_wp2_with (first
        | (go_at_call 13; refine (few_any _ _ _ _ 6 _ h1).mono ?_; rw [HF]; rintro e w' ⟨rfl, rfl⟩)
        | (go_at_call 32; refine (det_bad _ _ _ A _ (by repeat (first | assumption | apply RdM.alloc | (apply RdM.fw2; assumption))) HO.out).mono ?_; rintro e w' ⟨rfl, rfl⟩)
        | (go_at_call 36; refine (inv_bad _ _ _ A _ (by repeat (first | assumption | apply RdM.alloc | (apply RdM.fw2; assumption))) HO.out).mono ?_; rintro e w' ⟨rfl, rfl⟩)
        | (go_at_call 16; refine (rvalid_any _ _ _ _ _ (by repeat (first | assumption | apply RdM.alloc | (apply RdM.fw2; assumption)))).mono ?_; rintro e w3 ⟨rfl, hd⟩; have b3 := hd.fw; clear hd)
        | (go_at_call 19; refine (rcols_any _ _ _ _ _ (by repeat (first | assumption | apply RdM.alloc | (apply RdM.fw2; assumption)))).mono ?_; rintro e w' ⟨rfl, rfl⟩)
        | (go_at_call 14; refine (awake_any _).mono ?_; rintro e w5 ⟨rfl, b5⟩))
      go_ret
      exact ⟨rfl, (by repeat (first | assumption | apply below_alloc | (apply bt'; assumption)))⟩
    · have dA := decide_eq_false vA
      clear hok hl hfA vA
      go_enter Try.func11, Try.ntmps11
      go_wp2_with (first
        | (go_at_call 13; refine (few_any _ _ _ _ 6 _ h1).mono ?_; rw [HF]; rintro e w' ⟨rfl, rfl⟩)
        | (go_at_call 32; refine (det_bad _ _ _ A _ (by repeat (first | assumption | apply RdM.alloc | (apply RdM.fw2; assumption))) HO.out).mono ?_; rintro e w' ⟨rfl, rfl⟩)
        | (go_at_call 36; refine (inv_bad _ _ _ A _ (by repeat (first | assumption | apply RdM.alloc | (apply RdM.fw2; assumption))) HO.out).mono ?_; rintro e w' ⟨rfl, rfl⟩)
        | (go_at_call 16; refine (rvalid_any _ _ _ _ _ (by repeat (first | assumption | apply RdM.alloc | (apply RdM.fw2; assumption)))).mono ?_; rintro e w3 ⟨rfl, hd⟩; have b3 := hd.fw; clear hd)
        | (go_at_call 14; refine (awake_any _).mono ?_; rintro e w5 ⟨rfl, b5⟩))
      go_ret
      exact ⟨rfl, (by repeat (first | assumption | apply below_alloc | (apply bt'; assumption)))⟩
end Go.Proofs.Ytchhfpaicdhjbaa
