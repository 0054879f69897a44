/- QuotaTotals: the walk. -/
import Derived.Test.YtpecepfnmkpmmaaQs
import Derived.Test.YtpecepfnmkpmmaaQp
namespace Go.Proofs.Ytpecepfnmkpmmaa
open Go.RowKit Go.Kin Quo
set_option maxRecDepth 100000
set_option linter.unusedVariables false
theorem walk_QuotaTotals (a : Option Addr) (n c : Nat) (T : Tab) (w : World) (h : RdT w a n c T) (hy : ∀ m ∈ T, ∀ z ∈ m, -9223372036854775808 ≤ z ∧ z ≤ 9223372036854775807) :
    Calls Try.prog 8 #[.slice a n c] w fun e w' => e = .returned (.bool true) ∧ Below w.heap.size w w' := by
  have hlim := h.lim
  have H := Lib.hid h
  have hlen := Lib.hid h.len
  clear h
  by_cases hT : VT T
  · have hd := decide_eq_true hT
    have HV := Lib.hid hT
    have hn : n ≤ 12 := by have := hT.1; rw [hlen.out] at this; exact this
    clear hT
    go_enter Try.func8, Try.ntmps8
    go_wp2_with (first
      | (go_at_call 14; refine (awake_any _).mono ?_; rintro e w1 ⟨rfl, b1⟩; have H1 := Lib.hid (H.out.fw b1); have B1 := Lib.hid b1; clear b1)
      | (go_at_call 19; refine (rvalid_any _ _ _ T _ H1.out).mono ?_; rw [hd]; rintro e w' ⟨rfl, rfl⟩)
      | (go_at_call 30; refine (Held_any _ _ _ T _ H1.out HV.out).mono ?_; rintro e w2 ⟨g2, rfl, hg2, r2, b2⟩; have H2 := Lib.hid (H1.out.fw b2); have B2 := Lib.hid (bt B1.out b2); have R2 := Lib.hid r2; clear hg2 r2 b2)
      | (go_at_call 17; refine (Balance_any _ _ _ T _ H2.out HV.out).mono ?_; rintro e w3 ⟨g3, rfl, hg3, r3, b3⟩; have H3 := Lib.hid (H2.out.fw b3); have B3 := Lib.hid (bt B2.out b3); have R3 := Lib.hid r3; have R23 := Lib.hid (R2.out.fw b3); clear hg3 r3 b3)
      | (go_at_call 15; refine (valid_any _ _ _ T _ H3.out).mono ?_; rw [hd]; rintro e w' ⟨rfl, rfl⟩)
      | (go_at_call 21; refine (rheld_any _ _ _ T _ H3.out HV.out).mono ?_; rintro e w4 ⟨g4, rfl, hg4, r4, b4⟩; have H4 := Lib.hid (H3.out.fw b4); have B4 := Lib.hid (bt B3.out b4); have R4 := Lib.hid r4; have R24 := Lib.hid (R23.out.fw b4); have R34 := Lib.hid (R3.out.fw b4); clear hg4 r4 b4)
      | (go_at_call_of 26 g2; refine (sints_same _ _ _ _ _ _ (heldF T) _ (R24.out.rdn (by rw [held_length, hlen.out]) (Nat.le_refl _) (by omega)) (R4.out.rdn (by rw [held_length, hlen.out]) (Nat.le_refl _) (by omega))).mono ?_; rintro e w5 ⟨rfl, hd5⟩; have H5 := Lib.hid (H4.out.fw hd5.fw); have B5 := Lib.hid (bt B4.out hd5.fw); have R35 := Lib.hid (R34.out.fw hd5.fw); clear hd5)
      | (go_at_call 22; refine (rbal_any _ _ _ T _ H5.out HV.out).mono ?_; rintro e w6 ⟨g6, rfl, hg6, r6, b6⟩; have B6 := Lib.hid (bt B5.out b6); have R6 := Lib.hid r6; have R36 := Lib.hid (R35.out.fw b6); clear hg6 r6 b6)
      | (go_at_call_of 26 g3; refine (sints_same _ _ _ _ _ _ (balF T) _ (R36.out.rdn (by rw [bal_length, hlen.out]) (Nat.le_refl _) (by omega)) (R6.out.rdn (by rw [bal_length, hlen.out]) (Nat.le_refl _) (by omega))).mono ?_;  rintro e w7 ⟨rfl, hd7⟩; have B7 := Lib.hid (bt B6.out hd7.fw); clear hd7)
      | fail)
    go_ret
    exact ⟨rfl, B7.out⟩
  · have hd := decide_eq_false hT
    have HV := Lib.hid hT
    clear hT
    by_cases h14 : 14 < n
    · go_enter Try.func8, Try.ntmps8
      go_wp2_with (first
        | (go_at_call 14; refine (awake_any _).mono ?_; rintro e w1 ⟨rfl, b1⟩; have B1 := Lib.hid b1; clear b1)
        | fail)
      go_ret
      exact ⟨rfl, B1.out⟩
    · go_enter Try.func8, Try.ntmps8
      go_wp2_with (first
        | (go_at_call 14; refine (awake_any _).mono ?_; rintro e w1 ⟨rfl, b1⟩; have H1 := Lib.hid (H.out.fw b1); have B1 := Lib.hid b1; clear b1)
        | (go_at_call 19; refine (rvalid_any _ _ _ T _ H1.out).mono ?_; rw [hd]; rintro e w' ⟨rfl, rfl⟩)
        | (go_at_call 30; refine (Held_no _ _ _ T _ H1.out HV.out).mono ?_; rintro e w2 ⟨rfl, rfl⟩)
        | (go_at_call 17; refine (Balance_no _ _ _ T _ H1.out HV.out).mono ?_; rintro e w3 ⟨rfl, rfl⟩)
        | (go_at_call 15; refine (valid_any _ _ _ T _ H1.out).mono ?_; rw [hd]; rintro e w' ⟨rfl, rfl⟩)
        | fail)
      go_ret
      exact ⟨rfl, B1.out⟩
end Go.Proofs.Ytpecepfnmkpmmaa
