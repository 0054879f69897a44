/- MatrixProducts: the walk. -/
import Derived.Test.YtchhfpaicdhjbaaMw
namespace Go.Proofs.Ytchhfpaicdhjbaa
open Go.RowKit Go.Kin Mat
set_option maxRecDepth 100000
set_option linter.unusedVariables false

set_option maxHeartbeats 4000000 in
theorem walk_MatrixProducts (a : Option Addr) (n c : Nat) (A : List (List Nat)) (b : Option Addr) (m d : Nat) (B : List (List Nat)) (w : World) (h1 : RdM w a n c A) (hb1 : ∀ m ∈ A, ∀ x ∈ m, x < 256) (h2 : RdM w b m d B) (hb2 : ∀ m ∈ B, ∀ x ∈ m, x < 256) :
    Calls Try.prog 5 #[.slice a n c, .slice b m d] w fun e w' => e = .returned (.bool true) ∧ Below w.heap.size w w' := by
  have hl := h2.len
  by_cases hfA : FewL A 8
  case neg =>
    have HF := decide_eq_false hfA
    go_enter Try.func5, Try.ntmps5
    go_wp2_with (first
      | (go_at_call 13; refine (few_any _ _ _ _ 8 _ h1).mono ?_; rw [HF]; rintro e w' ⟨rfl, rfl⟩)
      | (go_at_call 14; refine (awake_any _).mono ?_; rintro e w1 ⟨rfl, b1⟩))
    go_ret
    exact ⟨rfl, b1⟩
  by_cases hfB : FewL B 8
  case neg =>
    have HF := decide_eq_true hfA
    have HG := decide_eq_false hfB
    go_enter Try.func5, Try.ntmps5
    go_wp2_with (first
      | (go_at_call 13; refine (few_any _ _ _ _ 8 _ (by assumption)).mono ?_; rintro e w' ⟨rfl, rfl⟩)
      | (go_at_call 14; refine (awake_any _).mono ?_; rintro e w1 ⟨rfl, b1⟩))
    go_ret
    exact ⟨rfl, b1⟩
  have HF := decide_eq_true hfA
  have HG := decide_eq_true hfB
  by_cases hok : MulOk A B
  · obtain ⟨vA, vB, hc⟩ := hok
    have dA := decide_eq_true vA
    have dB := decide_eq_true vB
    obtain ⟨q, f, v1, hq, rfl⟩ := valid_form h1 hb1 vA
    obtain ⟨L, g, v2, hL, rfl⟩ := valid_form h2 hb2 vB
    rw [mlist_length, ← hq] at hc
    subst hc
    have hcA := v1.cols f
    have x1 := v1.hn; have x2 := v1.hk; have x3 := v2.hk
    have e1 : ((q : Int) != (q : Int)) = false := by simp
    clear hq hL hl hfA hfB vA vB hb1 hb2
    go_enter Try.func5, Try.ntmps5
    go_wp2_with (first
      | (go_at_call 13; refine (few_any _ _ _ _ 8 _ (by assumption)).mono ?_; rintro e w' ⟨rfl, rfl⟩)
      | (go_at_call 25; refine (mul_ok _ _ _ _ _ _ _ f g _ (by repeat (first | assumption | apply RdM.alloc | (apply RdM.fw2; assumption))) (by repeat (first | assumption | apply RdM.alloc | (apply RdM.fw2; assumption))) v1 v2).mono ?_; rintro e w1 ⟨o1, rfl, hM, b1⟩; have r1 := hM.rdm; clear hM)
      | (go_at_call 26; refine (apply_ok _ _ _ _ _ _ _ f g _ (by repeat (first | assumption | apply RdM.alloc | (apply RdM.fw2; assumption))) (by repeat (first | assumption | apply RdM.alloc | (apply RdM.fw2; assumption))) v1 (by omega) v2.hz).mono ?_; rintro e w2 ⟨o2, rfl, hM, b2⟩; have r2 := hM.rdm; clear hM)
      | (go_at_call 16; refine (rvalid_any _ _ _ _ _ (by repeat (first | assumption | apply RdM.alloc | (apply RdM.fw2; assumption)))).mono ?_; rintro e w3 ⟨rfl, hd⟩; have b3 := hd.fw; clear hd)
      | (go_at_call 19; refine (rcols_any _ _ _ _ _ (by repeat (first | assumption | apply RdM.alloc | (apply RdM.fw2; assumption)))).mono ?_; rw [hcA]; rintro e w' ⟨rfl, rfl⟩)
      | (go_at_call 14; refine (awake_any _).mono ?_; rintro e w4 ⟨rfl, b4⟩)
      | (go_at_call 22; refine (rprod_any _ _ _ _ _ _ _ f g _ (by repeat (first | assumption | apply RdM.alloc | (apply RdM.fw2; assumption))) (by repeat (first | assumption | apply RdM.alloc | (apply RdM.fw2; assumption))) (by omega) (by omega) v2.hz).mono ?_; rintro e w5 ⟨a5, c5, rfl, hM, b5⟩; have r5 := hM.rdm (by omega); clear hM)
      | (go_at_call 27; refine (rapply_any _ _ _ _ _ _ _ f g _ (by repeat (first | assumption | apply RdM.alloc | (apply RdM.fw2; assumption))) (by repeat (first | assumption | apply RdM.alloc | (apply RdM.fw2; assumption))) (by omega) (by omega) v2.hz).mono ?_; rintro e w6 ⟨a6, c6, rfl, hM, b6⟩; have r6 := hM.rdm (by omega); clear hM)
      | (go_at_call_of 21 o1; refine (msame_eq _ _ _ _ _ _ _ _ _ (by repeat (first | assumption | apply RdM.alloc | (apply RdM.fw2; assumption))) (by repeat (first | assumption | apply RdM.alloc | (apply RdM.fw2; assumption))) mlist_b rfl).mono ?_; rintro e w7 ⟨rfl, hd⟩; have b7 := hd.fw; clear hd)
      | (go_at_call_of 21 o2; refine (msame_eq _ _ _ _ _ _ _ _ _ (by repeat (first | assumption | apply RdM.alloc | (apply RdM.fw2; assumption))) (by repeat (first | assumption | apply RdM.alloc | (apply RdM.fw2; assumption))) mlist_b rfl).mono ?_; rintro e w8 ⟨rfl, hd⟩; have b8 := hd.fw; clear hd))
    go_ret
    exact ⟨rfl, (by repeat (first | assumption | apply below_alloc | (apply bt'; assumption)))⟩
  · have hok2 : ¬ ApOk A B := fun ⟨vA, hc, he⟩ => hok ⟨vA, few_valid hfB (by omega) he, hc.symm⟩
    have HO := Lib.hid hok
    have HO2 := Lib.hid hok2
    by_cases vA : ValidL A
    · have dA := decide_eq_true vA
      by_cases vB : ValidL B
      · have dB := decide_eq_true vB
        have e1 : (((colsL A : Nat) : Int) != (m : Int)) = true := by
          have : colsL A ≠ B.length := fun e => hok ⟨vA, vB, e⟩
          simp; omega
        clear hok hok2 hl hfA hfB vA vB
        go_enter Try.func5, Try.ntmps5
        go_wp2_with (first
          | (go_at_call 13; refine (few_any _ _ _ _ 8 _ (by assumption)).mono ?_; rintro e w' ⟨rfl, rfl⟩)
          | (go_at_call 25; refine (mul_bad _ _ _ _ _ _ A B _ (by repeat (first | assumption | apply RdM.alloc | (apply RdM.fw2; assumption))) (by repeat (first | assumption | apply RdM.alloc | (apply RdM.fw2; assumption))) HO.out).mono ?_; rintro e w' ⟨rfl, rfl⟩)
          | (go_at_call 26; refine (apply_bad _ _ _ _ _ _ A B _ (by repeat (first | assumption | apply RdM.alloc | (apply RdM.fw2; assumption))) (by repeat (first | assumption | apply RdM.alloc | (apply RdM.fw2; assumption))) HO2.out).mono ?_; rintro e w' ⟨rfl, rfl⟩)
          | (go_at_call 16; refine (rvalid_any _ _ _ _ _ (by repeat (first | assumption | apply RdM.alloc | (apply RdM.fw2; assumption)))).mono ?_; rintro e w3 ⟨rfl, hd⟩; have b3 := hd.fw; clear hd)
          | (go_at_call 19; refine (rcols_any _ _ _ _ _ (by repeat (first | assumption | apply RdM.alloc | (apply RdM.fw2; assumption)))).mono ?_; rintro e w' ⟨rfl, rfl⟩)
          | (go_at_call 14; refine (awake_any _).mono ?_; rintro e w4 ⟨rfl, b4⟩))
        go_ret
        exact ⟨rfl, (by repeat (first | assumption | apply below_alloc | (apply bt'; assumption)))⟩
      · have dB := decide_eq_false vB
        clear hok hok2 hl hfA hfB vA vB
        go_enter Try.func5, Try.ntmps5
        go_wp2_with (first
          | (go_at_call 13; refine (few_any _ _ _ _ 8 _ (by assumption)).mono ?_; rintro e w' ⟨rfl, rfl⟩)
          | (go_at_call 25; refine (mul_bad _ _ _ _ _ _ A B _ (by repeat (first | assumption | apply RdM.alloc | (apply RdM.fw2; assumption))) (by repeat (first | assumption | apply RdM.alloc | (apply RdM.fw2; assumption))) HO.out).mono ?_; rintro e w' ⟨rfl, rfl⟩)
          | (go_at_call 26; refine (apply_bad _ _ _ _ _ _ A B _ (by repeat (first | assumption | apply RdM.alloc | (apply RdM.fw2; assumption))) (by repeat (first | assumption | apply RdM.alloc | (apply RdM.fw2; assumption))) HO2.out).mono ?_; rintro e w' ⟨rfl, rfl⟩)
          | (go_at_call 16; refine (rvalid_any _ _ _ _ _ (by repeat (first | assumption | apply RdM.alloc | (apply RdM.fw2; assumption)))).mono ?_; rintro e w3 ⟨rfl, hd⟩; have b3 := hd.fw; clear hd)
          | (go_at_call 14; refine (awake_any _).mono ?_; rintro e w4 ⟨rfl, b4⟩))
        go_ret
        exact ⟨rfl, (by repeat (first | assumption | apply below_alloc | (apply bt'; assumption)))⟩
    · have dA := decide_eq_false vA
      clear hok hok2 hl hfA hfB vA
      go_enter Try.func5, Try.ntmps5
      go_wp2_with (first
        | (go_at_call 13; refine (few_any _ _ _ _ 8 _ (by assumption)).mono ?_; rintro e w' ⟨rfl, rfl⟩)
        | (go_at_call 25; refine (mul_bad _ _ _ _ _ _ A B _ (by repeat (first | assumption | apply RdM.alloc | (apply RdM.fw2; assumption))) (by repeat (first | assumption | apply RdM.alloc | (apply RdM.fw2; assumption))) HO.out).mono ?_; rintro e w' ⟨rfl, rfl⟩)
        | (go_at_call 26; refine (apply_bad _ _ _ _ _ _ A B _ (by repeat (first | assumption | apply RdM.alloc | (apply RdM.fw2; assumption))) (by repeat (first | assumption | apply RdM.alloc | (apply RdM.fw2; assumption))) HO2.out).mono ?_; rintro e w' ⟨rfl, rfl⟩)
        | (go_at_call 16; refine (rvalid_any _ _ _ _ _ (by repeat (first | assumption | apply RdM.alloc | (apply RdM.fw2; assumption)))).mono ?_; rintro e w3 ⟨rfl, hd⟩; have b3 := hd.fw; clear hd)
        | (go_at_call 14; refine (awake_any _).mono ?_; rintro e w4 ⟨rfl, b4⟩))
      go_ret
      exact ⟨rfl, (by repeat (first | assumption | apply below_alloc | (apply bt'; assumption)))⟩
end Go.Proofs.Ytchhfpaicdhjbaa
