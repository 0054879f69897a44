/- MatrixValid: the walk. -/
import Derived.Test.YtchhfpaicdhjbaaMw
namespace Go.Proofs.Ytchhfpaicdhjbaa
open Go.RowKit Go.Kin Mat
set_option maxRecDepth 100000

theorem walk_MatrixValid (a : Option Addr) (n c : Nat) (M : List (List Nat)) (w : World) (h : RdM w a n c M) (_hb : ∀ m ∈ M, ∀ x ∈ m, x < 256) :
    Calls Try.prog 3 #[.slice a n c] w fun e w' => e = .returned (.bool true) ∧ Below w.heap.size w w' := by
  by_cases hf : FewL M 70
  · have HF := decide_eq_true hf
    go_enter Try.func3, Try.ntmps3
    go_wp2_with (first
      | (go_at_call 13; refine (few_any _ _ _ _ 70 _ h).mono ?_; rw [HF]; rintro e w' ⟨rfl, rfl⟩)
      | (go_at_call 14; refine (awake_any _).mono ?_; rintro e w1 ⟨rfl, b1⟩)
      | (go_at_call 15; refine (valid_any _ _ _ _ _ (h.fw b1)).mono ?_; rintro e w' ⟨rfl, rfl⟩)
      | (go_at_call 16; refine (rvalid_any _ _ _ _ _ (h.fw b1)).mono ?_; rintro e w2 ⟨rfl, hd⟩; have b2 := hd.fw; clear hd))
    go_ret
    exact ⟨rfl, (by repeat (first | assumption | apply below_alloc | (apply bt'; assumption)))⟩
  · have HF := decide_eq_false hf
    go_enter Try.func3, Try.ntmps3
    go_wp2_with (first
      | (go_at_call 13; refine (few_any _ _ _ _ 70 _ h).mono ?_; rw [HF]; rintro e w' ⟨rfl, rfl⟩)
      | (go_at_call 14; refine (awake_any _).mono ?_; rintro e w1 ⟨rfl, b1⟩))
    go_ret
    exact ⟨rfl, b1⟩
end Go.Proofs.Ytchhfpaicdhjbaa
