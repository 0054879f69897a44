/- QuotaCancels: the walk. -/
import Derived.Test.YtpecepfnmkpmmaaQw
import Derived.Test.YtpecepfnmkpmmaaQp
namespace Go.Proofs.Ytpecepfnmkpmmaa
open Go.RowKit Go.Kin Quo
set_option maxRecDepth 100000
set_option linter.unusedVariables false
theorem cancel_no (a : Option Addr) (n c : Nat) (T : Tab) (w : World) (h : RdT w a n c T) (hT : ¬ VT T) :
    Calls Try.prog 23 #[.slice a n c] w fun e w' => e = .returned (.tuple #[.slice none 0 0, .int .i64 1]) ∧ w = w' := by
  have H := Lib.hid h
  have hd := decide_eq_false hT
  clear h hT
  go_enter Try.func23, Try.ntmps23
  go_wp2_with (go_at_call 15; refine (valid_any _ _ _ T _ H.out).mono ?_; rw [hd]; rintro e w' ⟨rfl, rfl⟩)
  go_ret2
  exact ⟨rfl, rfl⟩
theorem walk_QuotaCancels (a : Option Addr) (n c : Nat) (T : Tab) (w : World) (h : RdT w a n c T) (hy : ∀ m ∈ T, ∀ z ∈ m, -9223372036854775808 ≤ z ∧ z ≤ 9223372036854775807) :
    Calls Try.prog 5 #[.slice a n c] w fun e w' => e = .returned (.bool true) ∧ Below w.heap.size w w' := by
  have hlim := h.lim
  have H := Lib.hid h
  have hlen := Lib.hid h.len
  clear h hy
  by_cases hT : VT T
  · have hd := decide_eq_true hT
    have HV := Lib.hid hT
    have hn : n ≤ 12 := by have := hT.1; rw [hlen.out] at this; exact this
    clear hT
    by_cases h6 : 6 < n
    · go_enter Try.func5, Try.ntmps5
      go_wp2_with (first
        | (go_at_call 14; refine (awake_any _).mono ?_; rintro e w1 ⟨rfl, b1⟩; have H1 := Lib.hid (H.out.fw b1); have B1 := Lib.hid b1; clear b1)
        | (go_at_call 19; refine (rvalid_any _ _ _ T _ H1.out).mono ?_; rw [hd]; rintro e w' ⟨rfl, rfl⟩)
        | fail)
      go_ret
      exact ⟨rfl, B1.out⟩
    · go_enter Try.func5, Try.ntmps5
      go_wp2_with (first
        | (go_at_call 14; refine (awake_any _).mono ?_; rintro e w1 ⟨rfl, b1⟩; have H1 := Lib.hid (H.out.fw b1); have B1 := Lib.hid b1; clear b1)
        | (go_at_call 23; refine (cancel_ok _ _ _ T _ H1.out HV.out).mono ?_; rintro e w2 ⟨g2, T2, rfl, hc2, _, o2, b2⟩; have H2 := Lib.hid (H1.out.fw b2); have B2 := Lib.hid (bt B1.out b2); have R2 := Lib.hid o2.rdt; have C2 := Lib.hid hc2; clear hc2 o2 b2)
        | (go_at_call 19; (first | refine (rvalid_any _ _ _ T _ H2.out).mono ?_ | refine (rvalid_any _ _ _ T _ H1.out).mono ?_); rw [hd]; rintro e w' ⟨rfl, rfl⟩)
        | (go_at_call 25; refine (rcancel_any _ _ _ T _ H2.out HV.out).mono ?_; rintro e w3 ⟨g3, z3, T3, rfl, hc3, _, o3, b3⟩; obtain rfl := C2.out.unique hc3; have B3 := Lib.hid (bt B2.out b3); have R3 := Lib.hid o3.rdt; have R23 := Lib.hid (R2.out.fw b3); clear hc3 o3 b3)
        | (go_at_call 24; refine (tsame_same _ _ _ _ _ _ T2 _ R23.out R3.out).mono ?_; rintro e w5 ⟨rfl, hd5⟩; have B5 := Lib.hid (bt B3.out hd5.fw); clear hd5)
        | fail)
      go_ret
      exact ⟨rfl, B5.out⟩
  · have hd := decide_eq_false hT
    have HV := Lib.hid hT
    clear hT
    by_cases h14 : 14 < n
    · go_enter Try.func5, Try.ntmps5
      go_wp2_with (first
        | (go_at_call 14; refine (awake_any _).mono ?_; rintro e w1 ⟨rfl, b1⟩; have H1 := Lib.hid (H.out.fw b1); have B1 := Lib.hid b1; clear b1)
        | (go_at_call 19; refine (rvalid_any _ _ _ T _ H1.out).mono ?_; rw [hd]; rintro e w' ⟨rfl, rfl⟩)
        | fail)
      go_ret
      exact ⟨rfl, B1.out⟩
    · go_enter Try.func5, Try.ntmps5
      go_wp2_with (first
        | (go_at_call 14; refine (awake_any _).mono ?_; rintro e w1 ⟨rfl, b1⟩; have H1 := Lib.hid (H.out.fw b1); have B1 := Lib.hid b1; clear b1)
        | (go_at_call 19; refine (rvalid_any _ _ _ T _ H1.out).mono ?_; rw [hd]; rintro e w' ⟨rfl, rfl⟩)
        | (go_at_call 23; refine (cancel_no _ _ _ T _ H1.out HV.out).mono ?_; rintro e w2 ⟨rfl, rfl⟩)
        | fail)
      go_ret
      exact ⟨rfl, B1.out⟩
end Go.Proofs.Ytpecepfnmkpmmaa
