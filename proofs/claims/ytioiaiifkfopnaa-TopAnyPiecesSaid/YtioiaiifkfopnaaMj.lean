/- matrix: Reduce, Rank, Determinant. -/
import Derived.Test.YtioiaiifkfopnaaMi
import Derived.OwnWalk
namespace Go.Proofs.Ytioiaiifkfopnaa
open Go.RowKit Go.Kin Mat
set_option maxRecDepth 100000

/-- The list is that of a matrix. -/
structure VM (n k : Nat) : Prop where
  hn : n ≤ 64
  hk : k ≤ 64
  hz : n = 0 → k = 0
theorem VM.cols {n k : Nat} (h : VM n k) (f : Mat) : colsL (mlist n k f) = k := by
  rcases Nat.eq_zero_or_pos n with e | e
  · rw [e, colsL_zero, h.hz e]
  · exact colsL_mlist f e
theorem VM.valid {n k : Nat} (h : VM n k) (f : Mat) : ValidL (mlist n k f) := by
  refine ⟨by rw [mlist_length]; exact h.hn, by rw [h.cols]; exact h.hk, fun m hm => ?_⟩
  rw [h.cols]
  obtain ⟨i, hi⟩ := List.mem_iff_getElem?.1 hm
  rw [mlist_row hi, mrow_length]
theorem valid_vm {M : List (List Nat)} (h : ValidL M) (hb : ∀ m ∈ M, Gf.Byt m) : VM M.length (colsL M) ∧ M = mlist M.length (colsL M) (fnOf M) := by
  refine ⟨⟨h.1, h.2.1, fun e => ?_⟩, mlist_fnOf rfl h.2.2 hb⟩
  rw [List.eq_nil_of_length_eq_zero e]; rfl

theorem rank_bad (a : Option Addr) (n c : Nat) (M : List (List Nat)) (w : World) (h : RdM w a n c M) (hv : ¬ ValidL M) :
    Calls Try.prog 16 #[.slice a n c] w fun e w' => e = .returned (.int .i64 (-1)) ∧ w = w' := by
  have hd := decide_eq_false hv
  go_enter Try.func16, Try.ntmps16
  go_wp2_with (go_at_call 36; refine (valid_any _ _ _ _ _ h).mono ?_; rw [hd]; rintro e w' ⟨rfl, rfl⟩)
  go_ret
  exact ⟨rfl, rfl⟩
theorem rank_ok (a : Option Addr) (n c k : Nat) (f : Mat) (w : World) (h : RdM w a n c (mlist n k f)) (hv : VM n k) :
    Calls Try.prog 16 #[.slice a n c] w fun e w' => e = .returned (.int .i64 ((elimE n f k).piv.length : Int)) ∧ Below w.heap.size w w' := by
  have hd := decide_eq_true (hv.valid f)
  have hn := hv.hn; have hk := hv.hk
  go_enter Try.func16, Try.ntmps16
  go_wp2_with (first
    | (go_at_call 36; refine (valid_any _ _ _ _ _ h).mono ?_; rw [hd]; rintro e w' ⟨rfl, rfl⟩)
    | (go_at_call 38; refine (eliminate_nil _ _ _ _ _ _ h (by omega) (by omega)).mono ?_; rintro e w' ⟨rfl, ⟨ra, rc, pa, pc, h1, h2, h3⟩, h4⟩; have c1 := h1.c1; clear h1 h2 h3))
  go_ret
  exact ⟨rfl, h4⟩

end Go.Proofs.Ytioiaiifkfopnaa
