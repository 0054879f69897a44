/- matrix: Reduce, Rank, Determinant. -/
import Derived.Test.YtchhfpaicdhjbaaMi
import Derived.OwnWalk
namespace Go.Proofs.Ytchhfpaicdhjbaa
open Go.RowKit Go.Kin Mat
set_option maxRecDepth 100000

/-- The list is that of a matrix. -/
structure VM (n k : Nat) : Prop where
  hn : n ≤ 64
  hk : k ≤ 64
  hz : n = 0 → k = 0
theorem VM.cols {n k : Nat} (h : VM n k) (f : Mat) : colsL (mlist n k f) = k := by
  rcases Nat.eq_zero_or_pos n with e | e
  · rw [e, colsL_zero, h.hz e]
  · exact colsL_mlist f e
theorem VM.valid {n k : Nat} (h : VM n k) (f : Mat) : ValidL (mlist n k f) := by
  refine ⟨by rw [mlist_length]; exact h.hn, by rw [h.cols]; exact h.hk, fun m hm => ?_⟩
  rw [h.cols]
  obtain ⟨i, hi⟩ := List.mem_iff_getElem?.1 hm
  rw [mlist_row hi, mrow_length]
theorem valid_vm {M : List (List Nat)} (h : ValidL M) (hb : ∀ m ∈ M, Gf.Byt m) : VM M.length (colsL M) ∧ M = mlist M.length (colsL M) (fnOf M) := by
  refine ⟨⟨h.1, h.2.1, fun e => ?_⟩, mlist_fnOf rfl h.2.2 hb⟩
  rw [List.eq_nil_of_length_eq_zero e]; rfl

theorem reduce_bad (a : Option Addr) (n c : Nat) (M : List (List Nat)) (w : World) (h : RdM w a n c M) (hv : ¬ ValidL M) :
    Calls Try.prog 28 #[.slice a n c] w fun e w' => e = .returned (.tuple #[.slice none 0 0, .slice none 0 0, .int .i64 1]) ∧ w = w' := by
  have hd := decide_eq_false hv
  go_enter Try.func28, Try.ntmps28
  go_wp2_with (go_at_call 15; refine (valid_any _ _ _ _ _ h).mono ?_; rw [hd]; rintro e w' ⟨rfl, rfl⟩)
  go_ret3
  exact ⟨rfl, rfl⟩

theorem reduce_ok (a : Option Addr) (n c k : Nat) (f : Mat) (w : World) (h : RdM w a n c (mlist n k f)) (hv : VM n k) :
    Calls Try.prog 28 #[.slice a n c] w fun e w' => ∃ ra rc pa pc, e = .returned (.tuple #[.slice ra n rc, .slice pa (elimE n f k).piv.length pc, .int .i64 0]) ∧ MatR w' w.heap.size ra n rc k (elimE n f k).R ∧ Own vi w.heap.size 3 w' pa (elimE n f k).piv.length pc ((elimE n f k).piv.map Int.ofNat) ∧ Below w.heap.size w w' := by
  have hd := decide_eq_true (hv.valid f)
  have hn := hv.hn; have hk := hv.hk
  go_enter Try.func28, Try.ntmps28
  go_wp2_with (first
    | (go_at_call 15; refine (valid_any _ _ _ _ _ h).mono ?_; rw [hd]; rintro e w' ⟨rfl, rfl⟩)
    | (go_at_call 46; refine (eliminate_nil _ _ _ _ _ _ h (by omega) (by omega)).mono ?_; rintro e w' ⟨rfl, ⟨ra, rc, pa, pc, h1, h2, h3⟩, h4⟩; have c0 := h1.c0; have c1 := h1.c1; have H2 := Lib.hid h2; have H3 := Lib.hid h3; clear h2 h3))
  go_quiet (fail)
  go_wp2
  go_ret3
  exact ⟨ra, rc, pa, pc, rfl, H2.out.fw (fdrewN (below_refl _) _), H3.out.fw (fdrewN (below_refl _) _), h4.trans ((fdrewN (below_refl _) _).mono h4.size)⟩

theorem rank_bad (a : Option Addr) (n c : Nat) (M : List (List Nat)) (w : World) (h : RdM w a n c M) (hv : ¬ ValidL M) :
    Calls Try.prog 29 #[.slice a n c] w fun e w' => e = .returned (.int .i64 (-1)) ∧ w = w' := by
  have hd := decide_eq_false hv
  go_enter Try.func29, Try.ntmps29
  go_wp2_with (go_at_call 15; refine (valid_any _ _ _ _ _ h).mono ?_; rw [hd]; rintro e w' ⟨rfl, rfl⟩)
  go_ret
  exact ⟨rfl, rfl⟩
theorem rank_ok (a : Option Addr) (n c k : Nat) (f : Mat) (w : World) (h : RdM w a n c (mlist n k f)) (hv : VM n k) :
    Calls Try.prog 29 #[.slice a n c] w fun e w' => e = .returned (.int .i64 ((elimE n f k).piv.length : Int)) ∧ Below w.heap.size w w' := by
  have hd := decide_eq_true (hv.valid f)
  have hn := hv.hn; have hk := hv.hk
  go_enter Try.func29, Try.ntmps29
  go_wp2_with (first
    | (go_at_call 15; refine (valid_any _ _ _ _ _ h).mono ?_; rw [hd]; rintro e w' ⟨rfl, rfl⟩)
    | (go_at_call 46; refine (eliminate_nil _ _ _ _ _ _ h (by omega) (by omega)).mono ?_; rintro e w' ⟨rfl, ⟨ra, rc, pa, pc, h1, h2, h3⟩, h4⟩; have c1 := h1.c1; clear h1 h2 h3))
  go_ret
  exact ⟨rfl, h4⟩

theorem det_bad (a : Option Addr) (n c : Nat) (M : List (List Nat)) (w : World) (h : RdM w a n c M) (hv : ¬ (ValidL M ∧ M.length = colsL M)) :
    Calls Try.prog 32 #[.slice a n c] w fun e w' => e = .returned (.tuple #[.int .u8 0, .int .i64 1]) ∧ w = w' := by
  have hl := h.len
  by_cases hd : ValidL M
  · have hd' := decide_eq_true hd
    have e1 : ((n : Int) != ((colsL M : Nat) : Int)) = true := by
      have : M.length ≠ colsL M := fun e => hv ⟨hd, e⟩
      simp; omega
    go_enter Try.func32, Try.ntmps32
    go_wp2_with (first
      | (go_at_call 15; refine (valid_any _ _ _ _ _ h).mono ?_; rw [hd']; rintro e w' ⟨rfl, rfl⟩)
      | (go_at_call 45; refine (columns_any _ _ _ _ _ h).mono ?_; rintro e w' ⟨rfl, rfl⟩))
    go_ret2
    exact ⟨rfl, rfl⟩
  · have hd' := decide_eq_false hd
    go_enter Try.func32, Try.ntmps32
    go_wp2_with (go_at_call 15; refine (valid_any _ _ _ _ _ h).mono ?_; rw [hd']; rintro e w' ⟨rfl, rfl⟩)
    go_ret2
    exact ⟨rfl, rfl⟩

theorem det_ok (a : Option Addr) (n c : Nat) (f : Mat) (w : World) (h : RdM w a n c (mlist n n f)) (hn : n ≤ 64) :
    Calls Try.prog 32 #[.slice a n c] w fun e w' => e = .returned (.tuple #[.int .u8 ((det n f).n : Int), .int .i64 0]) ∧ Below w.heap.size w w' := by
  have hv : VM n n := ⟨hn, hn, fun e => e⟩
  have hd := decide_eq_true (hv.valid f)
  have hc := hv.cols f
  have e1 : ((n : Int) != (n : Int)) = false := by simp
  have hD := detE_eq n f
  unfold detE at hD
  have HD := Lib.hid hD
  clear hD
  go_enter Try.func32, Try.ntmps32
  by_cases hlt : (elimE n f n).piv.length < n
  · have i1 : (((elimE n f n).piv.length : Nat) : Int) < (n : Int) := by omega
    go_wp2_with (first
      | (go_at_call 15; refine (valid_any _ _ _ _ _ h).mono ?_; rw [hd]; rintro e w' ⟨rfl, rfl⟩)
      | (go_at_call 45; refine (columns_any _ _ _ _ _ h).mono ?_; rw [hc]; rintro e w' ⟨rfl, rfl⟩)
      | (go_at_call 46; refine (eliminate_nil _ _ _ _ _ _ h (by omega) (by omega)).mono ?_; rintro e w' ⟨rfl, ⟨ra, rc, pa, pc, h1, h2, h3⟩, h4⟩; have c1 := h1.c1; clear h1 h2 h3))
    go_ret2
    exact ⟨by rw [← HD.out, if_pos hlt]; rfl, h4⟩
  · have i1 : ¬ (((elimE n f n).piv.length : Nat) : Int) < (n : Int) := by omega
    go_wp2_with (first
      | (go_at_call 15; refine (valid_any _ _ _ _ _ h).mono ?_; rw [hd]; rintro e w' ⟨rfl, rfl⟩)
      | (go_at_call 45; refine (columns_any _ _ _ _ _ h).mono ?_; rw [hc]; rintro e w' ⟨rfl, rfl⟩)
      | (go_at_call 46; refine (eliminate_nil _ _ _ _ _ _ h (by omega) (by omega)).mono ?_; rintro e w' ⟨rfl, ⟨ra, rc, pa, pc, h1, h2, h3⟩, h4⟩; have c1 := h1.c1; have c2 := h1.c2; clear h1 h2 h3))
    go_ret2
    exact ⟨by rw [← HD.out, if_neg hlt]; rfl, h4⟩
end Go.Proofs.Ytchhfpaicdhjbaa
