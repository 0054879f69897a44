/- matrix.Rows, Inverse. -/
import Derived.Test.YtioiaiifkfopnaaMn
namespace Go.Proofs.Ytioiaiifkfopnaa
open Go.RowKit Go.Kin Mat
open Fq (sum)
set_option maxRecDepth 100000
set_option linter.unusedVariables false

/-- The rows that a list of indices picks. -/
def pickM (f : Mat) (p : List Int) : Mat := fun i => f (p.getD i 0).toNat
def InP (n : Nat) (p : List Int) : Prop := ∀ x ∈ p, 0 ≤ x ∧ x < (n : Int)
def RowsRet (w : World) (n k : Nat) (f : Mat) (p : List Int) (e : Ending) (w' : World) : Prop :=
  (InP n p ∧ ∃ oa oc, e = .returned (.tuple #[.slice oa p.length oc, .int .i64 0]) ∧ MatR w' w.heap.size oa p.length oc k (pickM f p) ∧ Below w.heap.size w w') ∨ (¬ InP n p ∧ e = .returned (.tuple #[.slice none 0 0, .int .i64 1]) ∧ Below w.heap.size w w')

theorem inv_bad (a : Option Addr) (n c : Nat) (M : List (List Nat)) (w : World) (h : RdM w a n c M) (hv : ¬ (ValidL M ∧ M.length = colsL M)) :
    Calls Try.prog 15 #[.slice a n c] w fun e w' => e = .returned (.tuple #[.slice none 0 0, .int .i64 1]) ∧ w = w' := by
  have hl := h.len
  by_cases hd : ValidL M
  · have hd' := decide_eq_true hd
    have e1 : ((n : Int) != ((colsL M : Nat) : Int)) = true := by
      have : M.length ≠ colsL M := fun e => hv ⟨hd, e⟩
      simp; omega
    go_enter Try.func15, Try.ntmps15
    go_wp2_with (first
      | (go_at_call 36; refine (valid_any _ _ _ _ _ h).mono ?_; rw [hd']; rintro e w' ⟨rfl, rfl⟩)
      | (go_at_call 37; refine (columns_any _ _ _ _ _ h).mono ?_; rintro e w' ⟨rfl, rfl⟩))
    go_ret2
    exact ⟨rfl, rfl⟩
  · have hd' := decide_eq_false hd
    go_enter Try.func15, Try.ntmps15
    go_wp2_with (go_at_call 36; refine (valid_any _ _ _ _ _ h).mono ?_; rw [hd']; rintro e w' ⟨rfl, rfl⟩)
    go_ret2
    exact ⟨rfl, rfl⟩

set_option maxHeartbeats 1000000 in
theorem inv_none (a : Option Addr) (n c : Nat) (f : Mat) (w : World) (h : RdM w a n c (mlist n n f)) (hn : n ≤ 64) (hs : (elimE n (aug n f idm) n).piv.length < n) :
    Calls Try.prog 15 #[.slice a n c] w fun e w' => e = .returned (.tuple #[.slice none 0 0, .int .i64 4]) ∧ Below w.heap.size w w' := by
  have hv : VM n n := ⟨hn, hn, fun e => e⟩
  have hd := decide_eq_true (hv.valid f)
  have hc := hv.cols f
  have e1 : ((n : Int) != (n : Int)) = false := by simp
  have i1 : (((elimE n (aug n f idm) n).piv.length : Nat) : Int) < (n : Int) := by omega
  have H := Lib.hid h
  clear h hv
  go_enter Try.func15, Try.ntmps15
  go_wp2_with (first
    | (go_at_call 36; refine (valid_any _ _ _ _ _ H.out).mono ?_; rw [hd]; rintro e w' ⟨rfl, rfl⟩)
    | (go_at_call 37; refine (columns_any _ _ _ _ _ H.out).mono ?_; rw [hc]; rintro e w' ⟨rfl, rfl⟩)
    | (go_at_call 28; refine (ident_any n _ hn).mono ?_; rintro e w1 ⟨o1, rfl, hM1, hb1⟩; have HM1 := Lib.hid (hM1.rdm (by omega)); have HB1 := Lib.hid hb1; clear hM1 hb1)
    | (go_at_call 38; refine (eliminate_two _ _ _ _ _ n n f idm _ (H.out.fw HB1.out) HM1.out (by omega) (by omega)).mono ?_; rintro e w2 ⟨rfl, ⟨ra, rc, pa, pc, h1, h2, h3⟩, h4⟩; have c1 := h1.c1; clear h1 h2 h3))
  go_ret2
  exact ⟨rfl, bt HB1.out h4⟩
end Go.Proofs.Ytioiaiifkfopnaa
