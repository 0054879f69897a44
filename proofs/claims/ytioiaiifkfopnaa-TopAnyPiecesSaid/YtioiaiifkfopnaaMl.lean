/- matrix.Identity, Cauchy, Vandermonde, Transpose, Apply. -/
import Derived.Test.YtioiaiifkfopnaaMt
import Derived.Test.YtioiaiifkfopnaaMk
namespace Go.Proofs.Ytioiaiifkfopnaa
open Go.RowKit Go.Kin Mat
open Fq (sum)
set_option maxRecDepth 100000
set_option linter.unusedVariables false

theorem inr_ok (n : Int) (w : World) (h0 : 0 ≤ n) (h1 : n ≤ 64) :
    Calls Try.prog 53 #[.int .i64 n] w fun e w' => e = .returned (.bool true) ∧ w = w' := by
  go_enter Try.func53, Try.ntmps53
  go_wp2
  go_ret
  exact ⟨rfl, rfl⟩
theorem inr_bad (n : Int) (w : World) (h : ¬ (0 ≤ n ∧ n ≤ 64)) :
    Calls Try.prog 53 #[.int .i64 n] w fun e w' => e = .returned (.bool false) ∧ w = w' := by
  by_cases h0 : 0 ≤ n
  · have h1 : ¬ n ≤ 64 := fun h1 => h ⟨h0, h1⟩
    have e1 : decide (n ≤ 64) = false := by simp; omega
    clear h
    go_enter Try.func53, Try.ntmps53
    go_wp2
    go_ret
    exact ⟨rfl, rfl⟩
  · have e1 : decide (0 ≤ n) = false := by simp; omega
    clear h
    go_enter Try.func53, Try.ntmps53
    go_wp2
    go_ret
    exact ⟨rfl, rfl⟩

def inR (n : Int) : Bool := decide (0 ≤ n ∧ n ≤ 64)
theorem inr_any (n : Int) (w : World) :
    Calls Try.prog 53 #[.int .i64 n] w fun e w' => e = .returned (.bool (inR n)) ∧ w = w' := by
  by_cases h : 0 ≤ n ∧ n ≤ 64
  · refine (inr_ok n w h.1 h.2).mono fun _ _ ⟨he, hw⟩ => ⟨?_, hw⟩
    rw [he]; unfold inR; rw [decide_eq_true h]
  · refine (inr_bad n w h).mono fun _ _ ⟨he, hw⟩ => ⟨?_, hw⟩
    rw [he]; unfold inR; rw [decide_eq_false h]
theorem ident_bad (n : Int) (w : World) (h : ¬ (0 ≤ n ∧ n ≤ 64)) :
    Calls Try.prog 28 #[.int .i64 n] w fun e w' => e = .returned (.slice none 0 0) ∧ w = w' := by
  have H := Lib.hid h
  clear h
  go_enter Try.func28, Try.ntmps28
  go_wp2_with (go_at_call 53; refine (inr_bad _ _ H.out).mono ?_; rintro e w' ⟨rfl, rfl⟩)
  go_ret
  exact ⟨rfl, rfl⟩
theorem ident_any (n : Nat) (w : World) (hn : n ≤ 64) :
    Calls Try.prog 28 #[.int .i64 (n : Int)] w fun e w' => ∃ o, e = .returned (.slice (some ⟨o, 0, none⟩) n n) ∧ MatB w' w.heap.size (some ⟨o, 0, none⟩) n n n idm ∧ Below w.heap.size w w' := by
  go_enter Try.func28, Try.ntmps28
  go_wp2_with (first
    | (go_at_call 53; refine (inr_ok _ _ (by omega) (by omega)).mono ?_; rintro e w' ⟨rfl, rfl⟩)
    | (go_at_call 54; refine (zeros_any n n _ (by omega) (by omega)).mono ?_; rintro e w1 ⟨o, rfl, hM1, hb1⟩; have HM1 := Lib.hid hM1; have HB1 := Lib.hid hb1; clear hM1 hb1))
  go_loopw [4, 13] (fun _ i wr => ∃ j : Nat, j ≤ n ∧ i = .int .i64 (j : Int) ∧ Hid (MatB wr w.heap.size (some ⟨o, 0, none⟩) n n n (fun a b => if a < j ∧ a = b then 1 else 0)) ∧ Hid (Below w.heap.size w wr)) (fun _ i _ => n - (intOf i).toNat)
  case atStart => exact ⟨0, by omega, rfl, HM1.out.congr fun a b _ _ => by rw [if_neg (by omega)], HB1.out⟩
  case round =>
    obtain ⟨j, hj, rfl, hM, hbe⟩ := hrel
    by_cases hlt : j < n
    · have i2 : (j : Int) < (n : Int) := by omega
      obtain ⟨o', g, ho', hBo, hBg, c1, hK, hset⟩ := hM.out.at hlt
      cases ho'
      obtain ⟨z, c2⟩ : ∃ z, wr.cell? ⟨g, j, none⟩ = some z := ⟨_, hK.cell (mrow_get _ hlt)⟩
      have f2 := hK.frozen j
      have HS := Lib.hid (hset j 1 (by omega))
      clear hK hset
      go_wp2_with fail
      go_roundw
      case rel =>
        refine ⟨j + 1, by omega, by go_num, HS.out.congr fun a b _ _ => ?_, hbe.out.setCell (p := ⟨g, j, none⟩) hBg _⟩
        unfold setEl
        by_cases h : a = j ∧ b = j
        · rw [if_pos h, if_pos (by omega)]; rfl
        · rw [if_neg h]
          show (if a < j ∧ a = b then (1 : Fq) else 0) = _
          by_cases h2 : a < j ∧ a = b
          · rw [if_pos h2, if_pos (by omega)]
          · rw [if_neg h2, if_neg (by omega)]
      case measure => simp [intOf]; omega
    · have hjr : j = n := by omega
      subst hjr
      go_wp2_with fail
      go_ret
      refine ⟨o, rfl, hM.out.congr fun a b ha _ => ?_, hbe.out⟩
      unfold idm
      by_cases h : a = b
      · rw [if_pos ⟨ha, h⟩, if_pos h]
      · rw [if_neg (fun h2 => h h2.2), if_neg h]

end Go.Proofs.Ytioiaiifkfopnaa
