/- Small laws for the statements about matrices. -/
import Derived.Test.YtchhfpaicdhjbaaMkf
namespace Go.Proofs.Ytchhfpaicdhjbaa
open Go.RowKit Go.Kin Mat
open Fq (sum)
set_option maxRecDepth 100000
set_option linter.unusedVariables false

theorem valid_form {w : World} {a : Option Addr} {n c : Nat} {M : List (List Nat)} (h : RdM w a n c M) (hb : ∀ m ∈ M, ∀ x ∈ m, x < 256) (hv : ValidL M) : ∃ (k : Nat) (f : Mat), VM n k ∧ k = colsL M ∧ M = mlist n k f := by
  have hl := h.len
  subst hl
  obtain ⟨h1, h2⟩ := valid_vm hv hb
  exact ⟨_, _, h1, rfl, h2⟩
theorem few_vm {n k q : Nat} {f : Mat} (h : FewL (mlist n k f) q) (hv : VM n k) : n ≤ q ∧ k ≤ q := by
  have h1 := h.1
  rw [mlist_length] at h1
  refine ⟨h1, ?_⟩
  rcases Nat.eq_zero_or_pos n with e | e
  · rw [hv.hz e]; omega
  · have := h.2 (mrow k (f 0)) (List.mem_of_getElem? (mlist_get f e))
    rwa [mrow_length] at this
theorem few_valid {M : List (List Nat)} {q : Nat} (h : FewL M q) (hq : q ≤ 64) (he : EvenL M) : ValidL M := by
  refine ⟨Nat.le_trans h.1 hq, ?_, he⟩
  cases M with
  | nil => exact Nat.zero_le _
  | cons m l => exact Nat.le_trans (h.2 m (by simp)) hq
theorem mlist_b {r k : Nat} {f : Mat} : ∀ m ∈ mlist r k f, Gf.Byt m := mlist_byt
end Go.Proofs.Ytchhfpaicdhjbaa
