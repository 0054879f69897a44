/- QuotaShares: the walk. -/
import Derived.Test.YtpecepfnmkpmmaaRz
import Derived.Test.YtpecepfnmkpmmaaQp
namespace Go.Proofs.Ytpecepfnmkpmmaa
open Go.RowKit Go.Kin Quo
set_option maxRecDepth 100000
set_option linter.unusedVariables false
set_option maxHeartbeats 4000000 in
theorem qsha_ok (ta : Option Addr) (n tc : Nat) (T : Tab) (qa : Option Addr) (qc : Nat) (q : List Int) (w : World) (h : RdT w ta n tc T) (h2 : Rd vi w qa n qc q) (hf : Fit T q) :
    Calls Try.prog 10 #[.slice ta n tc, .slice qa n qc] w fun e w' => e = .returned (.bool true) ∧ Below w.heap.size w w' := by
  have hd := decide_eq_true hf.1
  have hdq : decide (q.length = n ∧ Cnt q) = true := decide_eq_true ⟨h2.len, hf.2.2⟩
  have hn : n ≤ 12 := by have := hf.1.1; rw [h.len] at this; exact this
  have H := Lib.hid h; have H2 := Lib.hid h2
  have HF := Lib.hid hf
  clear h h2 hf
  go_enter Try.func10, Try.ntmps10
  by_cases hb : ∃ d, d < n ∧ badD T q d
  · have HB := Lib.hid hb
    clear hb
    go_wp2_with (first
      | (go_at_call 14; refine (awake_any _).mono ?_; rintro e w1 ⟨rfl, b1⟩; have H1 := Lib.hid (H.out.fw b1); have H21 := Lib.hid (H2.out.fw b1); have B1 := Lib.hid b1; clear b1)
      | (go_at_call 32; refine (share_any _ _ _ T _ _ q _ H1.out H21.out HF.out).mono ?_; rintro e w2 ⟨b2, (⟨_, rfl⟩ | ⟨hno, _⟩)⟩; rotate_left; (· exact absurd HB.out (fun ⟨d, h1, h2⟩ => hno d h1 h2)); have H3 := Lib.hid (H1.out.fw b2); have H22 := Lib.hid (H21.out.fw b2); have B2 := Lib.hid (bt B1.out b2); clear b2)
      | (go_at_call 19; refine (rvalid_any _ _ _ T _ H3.out).mono ?_; rw [hd]; rintro e w' ⟨rfl, rfl⟩)
      | (go_at_call 20; refine (rquotas_any _ _ _ _ _ _ q _ H22.out (by omega)).mono ?_; rw [hdq]; rintro e w' ⟨rfl, rfl⟩)
      | (go_at_call 33; refine (rshare_any _ _ _ T _ _ q _ H3.out H22.out HF.out).mono ?_; rintro e w4 ⟨b4, (⟨_, rfl⟩ | ⟨hno, _⟩)⟩; rotate_left; (· exact absurd HB.out (fun ⟨d, h1, h2⟩ => hno d h1 h2)); have B4 := Lib.hid (bt B2.out b4); clear b4)
      | fail)
    go_ret
    exact ⟨rfl, B4.out⟩
  · have HB := Lib.hid hb
    have e1 : ((n : Int) != (n : Int)) = false := by simp
    clear hb
    go_wp2_with (first
      | (go_at_call 14; refine (awake_any _).mono ?_; rintro e w1 ⟨rfl, b1⟩; have H1 := Lib.hid (H.out.fw b1); have H21 := Lib.hid (H2.out.fw b1); have B1 := Lib.hid b1; clear b1)
      | (go_at_call 32; refine (share_any _ _ _ T _ _ q _ H1.out H21.out HF.out).mono ?_; rintro e w2 ⟨b2, (⟨hyes, _⟩ | ⟨_, g2, rfl, o2⟩)⟩; (· exact absurd hyes HB.out); have H3 := Lib.hid (H1.out.fw b2); have H22 := Lib.hid (H21.out.fw b2); have B2 := Lib.hid (bt B1.out b2); have O2 := Lib.hid o2; clear b2 o2)
      | (go_at_call 19; refine (rvalid_any _ _ _ T _ H3.out).mono ?_; rw [hd]; rintro e w' ⟨rfl, rfl⟩)
      | (go_at_call 20; refine (rquotas_any _ _ _ _ _ _ q _ H22.out (by omega)).mono ?_; rw [hdq]; rintro e w' ⟨rfl, rfl⟩)
      | (go_at_call 33; refine (rshare_any _ _ _ T _ _ q _ H3.out H22.out HF.out).mono ?_; rintro e w4 ⟨b4, (⟨hyes, _⟩ | ⟨_, sa, sc, rfl, o4⟩)⟩; (· exact absurd hyes HB.out); have B4 := Lib.hid (bt B2.out b4); have O4 := Lib.hid o4; have O24 := Lib.hid (O2.out.fw b4); clear b4 o4)
      | fail)
    go_loopw [9] (fun i wr => ∃ j : Nat, j ≤ n ∧ i = .int .i64 (j : Int) ∧ Hid (Drw w4 wr)) (fun i _ => n - (intOf i).toNat)
    case atStart => exact ⟨0, by omega, rfl, Drw.refl w4⟩
    case round =>
      obtain ⟨j, hj, rfl, hd4⟩ := hrel
      rename World => wo
      by_cases hlt : j < n
      · have i2 : (j : Int) < (n : Int) := by omega
        obtain ⟨x, hx⟩ : ∃ x, (shareL T q n)[j]? = some x := ⟨_, List.getElem?_eq_getElem (by rw [shareL_length]; exact hlt)⟩
        obtain ⟨g1, e2, k1⟩ := OwnA.cells (O24.out.fw hd4.out.fw) vfr_len hx
        cases e2
        obtain ⟨g2', rfl, k2⟩ := OwnA.cells (O4.out.fw hd4.out.fw) vfr_len hx
        have c1 : wo.cell? ⟨g2, j * 2, none⟩ = some (.int .i64 x.1) := k1 0 _ rfl
        have c2 : wo.cell? ⟨g2, j * 2 + 1, none⟩ = some (.int .i64 x.2) := k1 1 _ rfl
        have c3 : wo.cell? ⟨g2', j * 2, none⟩ = some (.int .i64 x.1) := k2 0 _ rfl
        have c4 : wo.cell? ⟨g2', j * 2 + 1, none⟩ = some (.int .i64 x.2) := k2 1 _ rfl
        clear k1 k2 hx
        go_wp2_with fail
        go_quiet (fail)
        go_wp2_with fail
        go_roundw
        case rel => exact ⟨j + 1, by omega, by go_num, hd4.out.step nq⟩
        case measure => simp [intOf]; omega
      · go_wp2_with fail
        go_ret
        exact ⟨rfl, bt B4.out hd4.out.fw⟩
theorem walk_QuotaShares (ta : Option Addr) (n tc : Nat) (T : Tab) (qa : Option Addr) (m qc : Nat) (q : List Int) (w : World) (h : RdT w ta n tc T) (hy : ∀ m ∈ T, ∀ z ∈ m, -9223372036854775808 ≤ z ∧ z ≤ 9223372036854775807) (h2 : Rd vi w qa m qc q) (hy2 : ∀ z ∈ q, -9223372036854775808 ≤ z ∧ z ≤ 9223372036854775807) :
    Calls Try.prog 10 #[.slice ta n tc, .slice qa m qc] w fun e w' => e = .returned (.bool true) ∧ Below w.heap.size w w' := by
  have hlim := h.lim
  have hlim2 : m ≤ 9223372036854775807 := by have := h2.cap; have := h2.max; unfold maxLen at *; omega
  clear hy hy2
  by_cases h14 : 14 < n
  · clear h h2
    go_enter Try.func10, Try.ntmps10
    go_wp2_with (first
      | (go_at_call 14; refine (awake_any _).mono ?_; rintro e w1 ⟨rfl, b1⟩; have B1 := Lib.hid b1; clear b1)
      | fail)
    go_ret
    exact ⟨rfl, B1.out⟩
  · by_cases h20 : 20 < m
    · clear h h2
      go_enter Try.func10, Try.ntmps10
      go_wp2_with (first
        | (go_at_call 14; refine (awake_any _).mono ?_; rintro e w1 ⟨rfl, b1⟩; have B1 := Lib.hid b1; clear b1)
        | fail)
      go_ret
      exact ⟨rfl, B1.out⟩
    · by_cases hok : Fit T q
      · obtain rfl : m = n := by rw [← h2.len, hok.2.1, h.len]
        exact qsha_ok ta m tc T qa qc q w h h2 hok
      · have HNO := Lib.hid hok
        have H := Lib.hid h; have H2 := Lib.hid h2
        have hl := Lib.hid h.len
        clear h h2
        by_cases hv : VT T
        · have hd := decide_eq_true hv
          have hdq : decide (q.length = n ∧ Cnt q) = false := decide_eq_false fun hq => hok ⟨hv, by rw [hl.out]; exact hq.1, hq.2⟩
          clear hv hok
          go_enter Try.func10, Try.ntmps10
          go_wp2_with (first
            | (go_at_call 14; refine (awake_any _).mono ?_; rintro e w1 ⟨rfl, b1⟩; have H1 := Lib.hid (H.out.fw b1); have H21 := Lib.hid (H2.out.fw b1); have B1 := Lib.hid b1; clear b1)
            | (go_at_call 32; refine (share_no _ _ _ T _ _ _ q _ H1.out H21.out HNO.out).mono ?_; rintro e w2 ⟨rfl, rfl⟩)
            | (go_at_call 19; refine (rvalid_any _ _ _ T _ H1.out).mono ?_; rw [hd]; rintro e w' ⟨rfl, rfl⟩)
            | (go_at_call 20; refine (rquotas_any _ _ _ _ _ _ q _ H21.out (by omega)).mono ?_; rw [hdq]; rintro e w' ⟨rfl, rfl⟩)
            | fail)
          go_ret
          exact ⟨rfl, B1.out⟩
        · have hd := decide_eq_false hv
          clear hv hok
          go_enter Try.func10, Try.ntmps10
          go_wp2_with (first
            | (go_at_call 14; refine (awake_any _).mono ?_; rintro e w1 ⟨rfl, b1⟩; have H1 := Lib.hid (H.out.fw b1); have H21 := Lib.hid (H2.out.fw b1); have B1 := Lib.hid b1; clear b1)
            | (go_at_call 32; refine (share_no _ _ _ T _ _ _ q _ H1.out H21.out HNO.out).mono ?_; rintro e w2 ⟨rfl, rfl⟩)
            | (go_at_call 19; refine (rvalid_any _ _ _ T _ H1.out).mono ?_; rw [hd]; rintro e w' ⟨rfl, rfl⟩)
            | fail)
          go_ret
          exact ⟨rfl, B1.out⟩
end Go.Proofs.Ytpecepfnmkpmmaa
