/- QuotaAllowed: the walk. -/
import Derived.Test.YtpecepfnmkpmmaaQs
import Derived.Test.YtpecepfnmkpmmaaQp
import Derived.Test.YtpecepfnmkpmmaaQl
namespace Go.Proofs.Ytpecepfnmkpmmaa
open Go.RowKit Go.Kin Quo
set_option maxRecDepth 100000
set_option linter.unusedVariables false
theorem allF_eq {T : Tab} {q : List Int} {al : Int} {ho ow : Nat} : max 0 (min (q.getD ho 0 - (heldF T).getD ho 0) (al - (balF T).getD ow 0)) = allowF T q al ho ow := rfl
set_option maxHeartbeats 4000000 in
theorem qall_ok (ta : Option Addr) (n tc : Nat) (T : Tab) (qa : Option Addr) (qc : Nat) (q : List Int) (al : Int) (ho ow : Nat) (w : World) (h : RdT w ta n tc T) (h2 : Rd vi w qa n qc q)
    (hf : Fit T q) (ha : 0 ≤ al) (ha2 : al ≤ 1099511627776) (hh : ho < n) (hw : ow < n) (hne : ho ≠ ow) :
    Calls Try.prog 4 #[.slice ta n tc, .slice qa n qc, .int .i64 al, .int .i64 (ho : Int), .int .i64 (ow : Int)] w fun e w' => e = .returned (.bool true) ∧ Below w.heap.size w w' := by
  have hd := decide_eq_true hf.1
  have hdq : decide (q.length = n ∧ Cnt q) = true := decide_eq_true ⟨h2.len, hf.2.2⟩
  have hlen := h.len
  have hn12 : n ≤ 12 := by rw [← hlen]; exact hf.1.1
  have i1 : (ho : Int) < (n : Int) := by omega
  have i2 : (ow : Int) < (n : Int) := by omega
  have i3 : ((ho : Int) == (ow : Int)) = false := by simp; omega
  have j1 : decide ((ho : Int) < 0) = false := by simp
  have j2 : decide ((ow : Int) < 0) = false := by simp
  have j5 : decide (n ≤ ho) = false := by simp; omega
  have j6 : decide (n ≤ ow) = false := by simp; omega
  have j7 : decide ((n : Int) ≤ (ho : Int)) = false := by simp; omega
  have j8 : decide ((n : Int) ≤ (ow : Int)) = false := by simp; omega
  have j3 : decide (al < 0) = false := by simp; omega
  have j4 : decide (1099511627776 < al) = false := by simp; omega
  have x0 : q[ho]? = some (q.getD ho 0) := get_some (by rw [h2.len]; exact hh) 0
  have y0 : (heldF T)[ho]? = some ((heldF T).getD ho 0) := get_some (by rw [held_length, hlen]; exact hh) 0
  have z0 : (balF T)[ow]? = some ((balF T).getD ow 0) := get_some (by rw [bal_length, hlen]; exact hw) 0
  have xb := hf.2.2 _ (List.mem_of_getElem? x0)
  have yb := held_bound hf.1 (i := ho) (by rw [hlen]; exact hh)
  have zb := bal_bound hf.1 (i := ow) (by rw [hlen]; exact hw)
  obtain ⟨x, hx⟩ : ∃ x, x = q.getD ho 0 := ⟨_, rfl⟩
  obtain ⟨y, hy⟩ : ∃ y, y = (heldF T).getD ho 0 := ⟨_, rfl⟩
  obtain ⟨z, hz⟩ : ∃ z, z = (balF T).getD ow 0 := ⟨_, rfl⟩
  have hA : allowF T q al ho ow = max 0 (min (x - y) (al - z)) := by unfold allowF; rw [hx, hy, hz]
  obtain ⟨A, hAA⟩ : ∃ A, A = allowF T q al ho ow := ⟨_, rfl⟩
  rw [← hAA] at hA
  have HAA := Lib.hid hAA
  have HA := Lib.hid hA
  rw [← hx] at x0 xb; rw [← hy] at y0 yb; rw [← hz] at z0 zb
  unfold maxC at xb yb zb
  have q1 : IntKind.i64.wrap (x - y) = x - y := by rw [IntKind.wrap_i64]; omega
  have q2 : wrap64 (x - y) = x - y := by unfold wrap64; omega
  have q3 : IntKind.i64.wrap (al - z) = al - z := by rw [IntKind.wrap_i64]; omega
  have q4 : wrap64 (al - z) = al - z := by unfold wrap64; omega
  obtain ⟨b1, o1, rfl, x1⟩ := h2.cell ho _ x0
  unfold vi at x1
  have H := Lib.hid h; have H2 := Lib.hid h2; have HV := Lib.hid hf.1; have HY := Lib.hid y0; have HZ := Lib.hid z0; have HF := Lib.hid hf
  have X1 := Lib.hid x1
  have P1 : Hid (ho < n ∧ ow < n ∧ ho ≠ ow ∧ 0 ≤ al ∧ al ≤ 1099511627776) := ⟨hh, hw, hne, ha, ha2⟩
  clear h h2 hf hx hy hz x0 y0 z0 xb yb zb hlen hA hAA x1
  go_enter Try.func4, Try.ntmps4
  go_wp2_with (first
    | (go_at_call 14; refine (awake_any _).mono ?_; rintro e w1 ⟨rfl, b1⟩; have H1 := Lib.hid (H.out.fw b1); have H21 := Lib.hid (H2.out.fw b1); have B1 := Lib.hid b1; have X11 := Lib.hid ((cellBelow b1 (lt_of_cell X1.out)).trans X1.out); clear b1)
    | (go_at_call 18; refine (allowed_ok _ _ _ T _ _ q al ho ow _ H1.out H21.out HF.out P1.out.2.2.2.1 P1.out.2.2.2.2 P1.out.1 P1.out.2.1 P1.out.2.2.1).mono ?_; rintro e w2 ⟨rfl, b2⟩; rw [← HAA.out]; have H3 := Lib.hid (H1.out.fw b2); have H22 := Lib.hid (H21.out.fw b2); have B2 := Lib.hid (bt B1.out b2); have x1 := ((cellBelow b2 (lt_of_cell X11.out)).trans X11.out); clear b2)
    | (go_at_call 19; refine (rvalid_any _ _ _ T _ H3.out).mono ?_; rw [hd]; rintro e w' ⟨rfl, rfl⟩)
    | (go_at_call 20; refine (rquotas_any _ _ _ _ _ _ q _ H22.out (by omega)).mono ?_; rw [hdq]; rintro e w' ⟨rfl, rfl⟩)
    | fail)
  go_region_law (first
    | (go_simp; go_at_call 21; refine (rheld_any _ _ _ T _ (H3.out.fw (fdrewN (below_refl w2) 1)) HV.out).mono ?_; rintro e w3 ⟨g3, rfl, hg3, hB3, hb3⟩; have y1 := hB3.cell HY.out; have x2 := (cellBelow hb3 (lt_of_cell x1)).trans x1; unfold vi at y1; have HB3 := Lib.hid (bt B2.out (bt (fdrewN (below_refl w2) 1) hb3)); have H5 := Lib.hid (H3.out.fw (bt (fdrewN (below_refl w2) 1) hb3)); have YB3 := Lib.hid hB3; clear hB3 hb3 hg3)
    | (go_simp; go_at_call 22; refine (rbal_any _ _ _ T _ H5.out HV.out).mono ?_; rintro e w4 ⟨g4, rfl, hg4, hB4, hb4⟩; have z1 := hB4.cell HZ.out; have x3 := (cellBelow hb4 (lt_of_cell x2)).trans x2; have y2 := (cellBelow hb4 (lt_of_cell y1)).trans y1; unfold vi at z1; have HB4 := Lib.hid (bt HB3.out hb4); clear hB4 hb4 hg4)
    | (refine wpList_min2 rfl (.tmp 91) (.tmp 98) 3 rfl (x - y) (al - z) rfl rfl ?_)
    | fail)
  all_goals go_wp2_with fail
  all_goals first
    | (exfalso; have := HA.out; omega)
    | (go_ret; exact ⟨ret_bool (by first | rfl | simp), HB4.out⟩)
set_option maxHeartbeats 4000000 in
theorem qall_no (ta : Option Addr) (n tc : Nat) (T : Tab) (qa : Option Addr) (m qc : Nat) (q : List Int) (al ho ow : Int) (w : World) (h : RdT w ta n tc T) (h2 : Rd vi w qa m qc q)
    (hno : ¬ (Fit T q ∧ 0 ≤ al ∧ al ≤ maxC ∧ 0 ≤ ho ∧ ho < n ∧ 0 ≤ ow ∧ ow < n ∧ ho ≠ ow)) (h14 : n ≤ 14) (h20 : m ≤ 20) :
    Calls Try.prog 4 #[.slice ta n tc, .slice qa m qc, .int .i64 al, .int .i64 ho, .int .i64 ow] w fun e w' => e = .returned (.bool true) ∧ Below w.heap.size w w' := by
  have H := Lib.hid h; have H2 := Lib.hid h2; have HNO := Lib.hid hno
  have hl := Lib.hid h.len; have hl2 := Lib.hid h2.len
  unfold maxC at hno
  clear h h2
  by_cases hv : VT T
  · have hd := decide_eq_true hv
    by_cases hq : q.length = n ∧ Cnt q
    · have hdq := decide_eq_true hq
      have hsel : al < 0 ∨ (0 ≤ al ∧ 1099511627776 < al) ∨ (0 ≤ al ∧ al ≤ 1099511627776 ∧ ho < 0) ∨ (0 ≤ al ∧ al ≤ 1099511627776 ∧ 0 ≤ ho ∧ (n : Int) ≤ ho) ∨ (0 ≤ al ∧ al ≤ 1099511627776 ∧ 0 ≤ ho ∧ ho < n ∧ ow < 0) ∨ (0 ≤ al ∧ al ≤ 1099511627776 ∧ 0 ≤ ho ∧ ho < n ∧ 0 ≤ ow ∧ (n : Int) ≤ ow) ∨ (0 ≤ al ∧ al ≤ 1099511627776 ∧ 0 ≤ ho ∧ ho < n ∧ 0 ≤ ow ∧ ow < n ∧ ho = ow) := by
        have : ¬ (0 ≤ al ∧ al ≤ 1099511627776 ∧ 0 ≤ ho ∧ ho < n ∧ 0 ≤ ow ∧ ow < n ∧ ho ≠ ow) := fun k => hno ⟨⟨hv, by rw [hl.out]; exact hq.1, hq.2⟩, k⟩
        omega
      clear hno hv hq
      rcases hsel with k1 | ⟨k1, k2⟩ | ⟨k1, k2, k3⟩ | ⟨k1, k2, k3, k4⟩ | ⟨k1, k2, k3, k4, k5⟩ | ⟨k1, k2, k3, k4, k5, k6⟩ | ⟨k1, k2, k3, k4, k5, k6, rfl⟩
      all_goals
        go_enter Try.func4, Try.ntmps4
        go_wp2_with (first
          | (go_at_call 14; refine (awake_any _).mono ?_; rintro e w1 ⟨rfl, b1⟩; have H1 := Lib.hid (H.out.fw b1); have H21 := Lib.hid (H2.out.fw b1); have B1 := Lib.hid b1; clear b1)
          | (go_at_call 18; refine (allowed_no _ _ _ T _ _ _ q _ _ _ _ H1.out H21.out HNO.out).mono ?_; rintro e w2 ⟨rfl, rfl⟩)
          | (go_at_call 19; refine (rvalid_any _ _ _ T _ H1.out).mono ?_; rw [hd]; rintro e w' ⟨rfl, rfl⟩)
          | (go_at_call 20; refine (rquotas_any _ _ _ _ _ _ q _ H21.out (by omega)).mono ?_; rw [hdq]; rintro e w' ⟨rfl, rfl⟩)
          | fail)
        go_ret
        exact ⟨rfl, B1.out⟩
    · have hdq := decide_eq_false hq
      clear hno hv hq
      go_enter Try.func4, Try.ntmps4
      go_wp2_with (first
        | (go_at_call 14; refine (awake_any _).mono ?_; rintro e w1 ⟨rfl, b1⟩; have H1 := Lib.hid (H.out.fw b1); have H21 := Lib.hid (H2.out.fw b1); have B1 := Lib.hid b1; clear b1)
        | (go_at_call 18; refine (allowed_no _ _ _ T _ _ _ q _ _ _ _ H1.out H21.out HNO.out).mono ?_; rintro e w2 ⟨rfl, rfl⟩)
        | (go_at_call 19; refine (rvalid_any _ _ _ T _ H1.out).mono ?_; rw [hd]; rintro e w' ⟨rfl, rfl⟩)
        | (go_at_call 20; refine (rquotas_any _ _ _ _ _ _ q _ H21.out (by omega)).mono ?_; rw [hdq]; rintro e w' ⟨rfl, rfl⟩)
        | fail)
      go_ret
      exact ⟨rfl, B1.out⟩
  · have hd := decide_eq_false hv
    clear hno hv
    go_enter Try.func4, Try.ntmps4
    go_wp2_with (first
      | (go_at_call 14; refine (awake_any _).mono ?_; rintro e w1 ⟨rfl, b1⟩; have H1 := Lib.hid (H.out.fw b1); have H21 := Lib.hid (H2.out.fw b1); have B1 := Lib.hid b1; clear b1)
      | (go_at_call 18; refine (allowed_no _ _ _ T _ _ _ q _ _ _ _ H1.out H21.out HNO.out).mono ?_; rintro e w2 ⟨rfl, rfl⟩)
      | (go_at_call 19; refine (rvalid_any _ _ _ T _ H1.out).mono ?_; rw [hd]; rintro e w' ⟨rfl, rfl⟩)
      | fail)
    go_ret
    exact ⟨rfl, B1.out⟩
theorem walk_QuotaAllowed (ta : Option Addr) (n tc : Nat) (T : Tab) (qa : Option Addr) (m qc : Nat) (q : List Int) (al ho ow : Int) (w : World) (h : RdT w ta n tc T) (hy : ∀ m ∈ T, ∀ z ∈ m, -9223372036854775808 ≤ z ∧ z ≤ 9223372036854775807) (h2 : Rd vi w qa m qc q) (hy2 : ∀ z ∈ q, -9223372036854775808 ≤ z ∧ z ≤ 9223372036854775807) (b3 : -9223372036854775808 ≤ al ∧ al ≤ 9223372036854775807) (b4 : -9223372036854775808 ≤ ho ∧ ho ≤ 9223372036854775807) (b5 : -9223372036854775808 ≤ ow ∧ ow ≤ 9223372036854775807) :
    Calls Try.prog 4 #[.slice ta n tc, .slice qa m qc, .int .i64 al, .int .i64 ho, .int .i64 ow] w fun e w' => e = .returned (.bool true) ∧ Below w.heap.size w w' := by
  have hlim := h.lim
  have hlim2 : m ≤ 9223372036854775807 := by have := h2.cap; have := h2.max; unfold maxLen at *; omega
  by_cases h14 : 14 < n
  · clear h h2 hy hy2
    go_enter Try.func4, Try.ntmps4
    go_wp2_with (first
      | (go_at_call 14; refine (awake_any _).mono ?_; rintro e w1 ⟨rfl, b1⟩; have B1 := Lib.hid b1; clear b1)
      | fail)
    go_ret
    exact ⟨rfl, B1.out⟩
  · by_cases h20 : 20 < m
    · clear h h2 hy hy2
      go_enter Try.func4, Try.ntmps4
      go_wp2_with (first
        | (go_at_call 14; refine (awake_any _).mono ?_; rintro e w1 ⟨rfl, b1⟩; have B1 := Lib.hid b1; clear b1)
        | fail)
      go_ret
      exact ⟨rfl, B1.out⟩
    · by_cases hok : Fit T q ∧ 0 ≤ al ∧ al ≤ maxC ∧ 0 ≤ ho ∧ ho < n ∧ 0 ≤ ow ∧ ow < n ∧ ho ≠ ow
      · obtain ⟨hf, k1, k2, k3, k4, k5, k6, k7⟩ := hok
        obtain ⟨ho, rfl⟩ := Int.eq_ofNat_of_zero_le k3
        obtain ⟨ow, rfl⟩ := Int.eq_ofNat_of_zero_le k5
        obtain rfl : m = n := by rw [← h2.len, hf.2.1, h.len]
        exact qall_ok ta m tc T qa qc q al ho ow w h h2 hf k1 k2 (by omega) (by omega) (fun e => k7 (by rw [e]))
      · exact qall_no ta n tc T qa m qc q al ho ow w h h2 hok (by omega) (by omega)
end Go.Proofs.Ytpecepfnmkpmmaa
