/- QuotaSettles: the walk. -/
import Derived.Test.YtpecepfnmkpmmaaTz
import Derived.Test.YtpecepfnmkpmmaaQp
import Derived.Test.YtpecepfnmkpmmaaQu
namespace Go.Proofs.Ytpecepfnmkpmmaa
open Go.RowKit Go.Kin Quo
set_option maxRecDepth 100000
set_option linter.unusedVariables false
theorem qset_bad (ta : Option Addr) (n tc : Nat) (T : Tab) (qa : Option Addr) (m qc : Nat) (q : List Int) (w : World) (h : RdT w ta n tc T) (h2 : Rd vi w qa m qc q) (hf : ¬ Fit T q) (hT : ¬ VT T) (hm : m ≤ 9223372036854775807) :
    Calls Try.prog 7 #[.slice ta n tc, .slice qa m qc] w fun e w' => e = .returned (.bool true) ∧ Below w.heap.size w w' := by
  have hn := h.lim
  have H := Lib.hid h; have H2 := Lib.hid h2; have HNO := Lib.hid hf
  have hd := decide_eq_false hT
  clear h h2 hf hT
  by_cases h14 : 14 < n
  · go_enter Try.func7, Try.ntmps7
    go_wp2_with (first
    | (go_at_call 14; refine (awake_any _).mono ?_; rintro e w1 ⟨rfl, b1⟩; have H1 := Lib.hid (H.out.fw b1); have H21 := Lib.hid (H2.out.fw b1); have B1 := Lib.hid b1; clear b1)
    | (go_at_call 19; refine (rvalid_any _ _ _ T _ H1.out).mono ?_; rw [hd]; rintro e w' ⟨rfl, rfl⟩)
    | (go_at_call 20; refine (rquotas_any _ _ _ _ _ _ q _ H21.out (by omega)).mono ?_; rw [hdq]; rintro e w' ⟨rfl, rfl⟩)
    | fail)
    go_ret
    exact ⟨rfl, B1.out⟩
  by_cases h20 : 20 < m
  · go_enter Try.func7, Try.ntmps7
    go_wp2_with (first
    | (go_at_call 14; refine (awake_any _).mono ?_; rintro e w1 ⟨rfl, b1⟩; have H1 := Lib.hid (H.out.fw b1); have H21 := Lib.hid (H2.out.fw b1); have B1 := Lib.hid b1; clear b1)
    | (go_at_call 19; refine (rvalid_any _ _ _ T _ H1.out).mono ?_; rw [hd]; rintro e w' ⟨rfl, rfl⟩)
    | (go_at_call 20; refine (rquotas_any _ _ _ _ _ _ q _ H21.out (by omega)).mono ?_; rw [hdq]; rintro e w' ⟨rfl, rfl⟩)
    | fail)
    go_ret
    exact ⟨rfl, B1.out⟩
  go_enter Try.func7, Try.ntmps7
  go_wp2_with (first
    | (go_at_call 14; refine (awake_any _).mono ?_; rintro e w1 ⟨rfl, b1⟩; have H1 := Lib.hid (H.out.fw b1); have H21 := Lib.hid (H2.out.fw b1); have B1 := Lib.hid b1; clear b1)
    | (go_at_call 19; refine (rvalid_any _ _ _ T _ H1.out).mono ?_; rw [hd]; rintro e w' ⟨rfl, rfl⟩)
    | (go_at_call 20; refine (rquotas_any _ _ _ _ _ _ q _ H21.out (by omega)).mono ?_; rw [hdq]; rintro e w' ⟨rfl, rfl⟩)
    | (go_at_call 28; refine (settle_no _ _ _ T _ _ _ q _ H1.out H21.out HNO.out).mono ?_; rintro e w2 ⟨rfl, rfl⟩)
    | fail)
  go_ret
  exact ⟨rfl, B1.out⟩
theorem qset_quo (ta : Option Addr) (n tc : Nat) (T : Tab) (qa : Option Addr) (m qc : Nat) (q : List Int) (w : World) (h : RdT w ta n tc T) (h2 : Rd vi w qa m qc q) (hf : ¬ Fit T q) (hT : VT T) (hm : m ≤ 9223372036854775807) :
    Calls Try.prog 7 #[.slice ta n tc, .slice qa m qc] w fun e w' => e = .returned (.bool true) ∧ Below w.heap.size w w' := by
  have hn : n ≤ 12 := by have := hT.1; rw [h.len] at this; exact this
  have hl := h.len
  have H := Lib.hid h; have H2 := Lib.hid h2; have HNO := Lib.hid hf
  have hd := decide_eq_true hT
  have hdq : decide (q.length = n ∧ Cnt q) = false := decide_eq_false fun hq => hf ⟨hT, by rw [hl]; exact hq.1, hq.2⟩
  clear h h2 hf hT hl
  by_cases h20 : 20 < m
  · go_enter Try.func7, Try.ntmps7
    go_wp2_with (first
    | (go_at_call 14; refine (awake_any _).mono ?_; rintro e w1 ⟨rfl, b1⟩; have H1 := Lib.hid (H.out.fw b1); have H21 := Lib.hid (H2.out.fw b1); have B1 := Lib.hid b1; clear b1)
    | (go_at_call 19; refine (rvalid_any _ _ _ T _ H1.out).mono ?_; rw [hd]; rintro e w' ⟨rfl, rfl⟩)
    | (go_at_call 20; refine (rquotas_any _ _ _ _ _ _ q _ H21.out (by omega)).mono ?_; rw [hdq]; rintro e w' ⟨rfl, rfl⟩)
    | fail)
    go_ret
    exact ⟨rfl, B1.out⟩
  go_enter Try.func7, Try.ntmps7
  go_wp2_with (first
    | (go_at_call 14; refine (awake_any _).mono ?_; rintro e w1 ⟨rfl, b1⟩; have H1 := Lib.hid (H.out.fw b1); have H21 := Lib.hid (H2.out.fw b1); have B1 := Lib.hid b1; clear b1)
    | (go_at_call 19; refine (rvalid_any _ _ _ T _ H1.out).mono ?_; rw [hd]; rintro e w' ⟨rfl, rfl⟩)
    | (go_at_call 20; refine (rquotas_any _ _ _ _ _ _ q _ H21.out (by omega)).mono ?_; rw [hdq]; rintro e w' ⟨rfl, rfl⟩)
    | (go_at_call 28; refine (settle_no _ _ _ T _ _ _ q _ H1.out H21.out HNO.out).mono ?_; rintro e w2 ⟨rfl, rfl⟩)
    | fail)
  go_ret
  exact ⟨rfl, B1.out⟩
theorem qset_low (ta : Option Addr) (n tc : Nat) (T : Tab) (qa : Option Addr) (qc : Nat) (q : List Int) (w : World) (h : RdT w ta n tc T) (h2 : Rd vi w qa n qc q) (hf : Fit T q) (hl : ¬ Low T 6 30) :
    Calls Try.prog 7 #[.slice ta n tc, .slice qa n qc] w fun e w' => e = .returned (.bool true) ∧ Below w.heap.size w w' := by
  have hn : n ≤ 12 := by have := hf.1.1; rw [h.len] at this; exact this
  have H := Lib.hid h; have H2 := Lib.hid h2
  have hd := decide_eq_true hf.1
  have hdq : decide (q.length = n ∧ Cnt q) = true := decide_eq_true ⟨h2.len, hf.2.2⟩
  have hdl := decide_eq_false hl
  clear h h2 hf hl
  go_enter Try.func7, Try.ntmps7
  go_wp2_with (first
    | (go_at_call 14; refine (awake_any _).mono ?_; rintro e w1 ⟨rfl, b1⟩; have H1 := Lib.hid (H.out.fw b1); have H21 := Lib.hid (H2.out.fw b1); have B1 := Lib.hid b1; clear b1)
    | (go_at_call 19; refine (rvalid_any _ _ _ T _ H1.out).mono ?_; rw [hd]; rintro e w' ⟨rfl, rfl⟩)
    | (go_at_call 20; refine (rquotas_any _ _ _ _ _ _ q _ H21.out (by omega)).mono ?_; rw [hdq]; rintro e w' ⟨rfl, rfl⟩)
    | (go_at_call 16; refine (low_any _ _ _ T _ _ _ H1.out).mono ?_; rw [hdl]; rintro e w' ⟨rfl, rfl⟩)
    | fail)
  go_ret
  exact ⟨rfl, B1.out⟩
set_option maxHeartbeats 4000000 in
theorem qset_full (ta : Option Addr) (n tc : Nat) (T : Tab) (qa : Option Addr) (qc : Nat) (q : List Int) (w : World) (h : RdT w ta n tc T) (h2 : Rd vi w qa n qc q) (hf : Fit T q) (hl : Low T 6 30) (hF : Full T q) :
    Calls Try.prog 7 #[.slice ta n tc, .slice qa n qc] w fun e w' => e = .returned (.bool true) ∧ Below w.heap.size w w' := by
  have hn : n ≤ 12 := by have := hf.1.1; rw [h.len] at this; exact this
  have H := Lib.hid h; have H2 := Lib.hid h2; have HF := Lib.hid hf; have HFU := Lib.hid hF
  have hno : ∀ y, ¬ Relx T.length (gvT T q) (at2 T) (tkT T q) y := fun y hy => by
    obtain ⟨ψ, f1, f2, _⟩ := relx_flow hf.1 hy
    exact f2 (hF ψ f1)
  have HNX := Lib.hid hno
  have hd := decide_eq_true hf.1
  have hdq : decide (q.length = n ∧ Cnt q) = true := decide_eq_true ⟨h2.len, hf.2.2⟩
  have hdl := decide_eq_true hl
  clear h h2 hf hl hno hF
  go_enter Try.func7, Try.ntmps7
  go_wp2_with (first
    | (go_at_call 14; refine (awake_any _).mono ?_; rintro e w1 ⟨rfl, b1⟩; have H1 := Lib.hid (H.out.fw b1); have H21 := Lib.hid (H2.out.fw b1); have B1 := Lib.hid b1; clear b1)
    | (go_at_call 19; refine (rvalid_any _ _ _ T _ H1.out).mono ?_; rw [hd]; rintro e w' ⟨rfl, rfl⟩)
    | (go_at_call 20; refine (rquotas_any _ _ _ _ _ _ q _ H21.out (by omega)).mono ?_; rw [hdq]; rintro e w' ⟨rfl, rfl⟩)
    | (go_at_call 16; refine (low_any _ _ _ T _ _ _ H1.out).mono ?_; rw [hdl]; rintro e w' ⟨rfl, rfl⟩)
    | (go_at_call 28; refine (settle_any _ _ _ T _ _ q _ H1.out H21.out HF.out).mono ?_; rintro e w2 ⟨b2, (⟨_, rfl⟩ | ⟨φ, _, _, hB, _⟩)⟩; rotate_left; (· exact absurd (HFU.out φ hB.flow) hB.all); have H3 := Lib.hid (H1.out.fw b2); have H22 := Lib.hid (H21.out.fw b2); have B2 := Lib.hid (bt B1.out b2); clear b2)
    | (go_at_call 29; refine (rsettle_any (fun _ _ _ => 0) _ _ _ T _ _ q _ H3.out H22.out HF.out (.inl HNX.out)).mono ?_; rintro e w3 ⟨(⟨_, rfl⟩ | ⟨hB, _⟩), b3⟩; rotate_left; (· exact absurd hB.relx (HNX.out _)); have B3 := Lib.hid (bt B2.out b3); clear b3)
    | fail)
  go_ret
  exact ⟨rfl, B3.out⟩
set_option maxHeartbeats 4000000 in
theorem qset_some (ta : Option Addr) (n tc : Nat) (T : Tab) (qa : Option Addr) (qc : Nat) (q : List Int) (w : World) (h : RdT w ta n tc T) (h2 : Rd vi w qa n qc q) (hf : Fit T q) (hl : Low T 6 30) (hF : ¬ Full T q) :
    Calls Try.prog 7 #[.slice ta n tc, .slice qa n qc] w fun e w' => e = .returned (.bool true) ∧ Below w.heap.size w w' := by
  have hn : n ≤ 12 := by have := hf.1.1; rw [h.len] at this; exact this
  have hlen := Lib.hid h.len
  have H := Lib.hid h; have H2 := Lib.hid h2; have HF := Lib.hid hf; have HFU := Lib.hid hF
  have hd := decide_eq_true hf.1
  have hdq : decide (q.length = n ∧ Cnt q) = true := decide_eq_true ⟨h2.len, hf.2.2⟩
  have hdl := decide_eq_true hl
  clear h h2 hf hl hF
  go_enter Try.func7, Try.ntmps7
  go_wp2_with (first
    | (go_at_call 14; refine (awake_any _).mono ?_; rintro e w1 ⟨rfl, b1⟩; have H1 := Lib.hid (H.out.fw b1); have H21 := Lib.hid (H2.out.fw b1); have B1 := Lib.hid b1; clear b1)
    | (go_at_call 19; refine (rvalid_any _ _ _ T _ H1.out).mono ?_; rw [hd]; rintro e w' ⟨rfl, rfl⟩)
    | (go_at_call 20; refine (rquotas_any _ _ _ _ _ _ q _ H21.out (by omega)).mono ?_; rw [hdq]; rintro e w' ⟨rfl, rfl⟩)
    | (go_at_call 16; refine (low_any _ _ _ T _ _ _ H1.out).mono ?_; rw [hdl]; rintro e w' ⟨rfl, rfl⟩)
    | fail)
  go_at_call 28
  refine (settle_any _ _ _ T _ _ q _ H1.out H21.out HF.out).mono ?_
  rintro e w2 ⟨b2, (⟨hFu, _⟩ | ⟨φ, ma, mc, hB, rfl, hm⟩)⟩
  · exact absurd hFu HFU.out
  have HX := Lib.hid (hB.x HF.out.1)
  have H3 := Lib.hid (H1.out.fw b2); have H22 := Lib.hid (H21.out.fw b2); have B2 := Lib.hid (bt B1.out b2)
  have hro := rel_out T q φ
  rw [hlen.out] at hro
  rw [hro] at hm ⊢
  have HM := Lib.hid hm
  clear b2 hB hm hro
  go_wp2_with (first
    | (go_at_call 29; refine (rsettle_any (mvs T q φ) _ _ _ T _ _ q _ H3.out H22.out HF.out (.inr HX.out)).mono ?_; rintro e w3 ⟨(⟨hno, _⟩ | ⟨_, oa, oc, rfl, ho⟩), b3⟩; (· exact absurd HX.out.relx (hno _)); have HO := Lib.hid (OwnA.rda ho vmz_len); have HM3 := Lib.hid (HM.out.fw b3); have B3 := Lib.hid (bt B2.out b3); clear b3 ho)
    | fail)
  obtain ⟨l, hl⟩ : ∃ l, l = (movA' (mvs T q φ) n n).map mzOf := ⟨_, rfl⟩
  obtain ⟨k, hk⟩ : ∃ k, k = (movA' (mvs T q φ) n n).length := ⟨_, rfl⟩
  have hlk : l.length = k := by rw [hl, hk, List.length_map]
  have hkb : k ≤ 12 * (12 * 12) := by rw [hk]; exact Nat.le_trans (movA_len (mvs T q φ) n n) (Nat.mul_le_mul hn (Nat.mul_le_mul hn hn))
  rw [← hl, ← hk] at HO HM3
  rw [← hk]
  have HLK := Lib.hid hlk
  have e1 : ((k : Int) != (k : Int)) = false := by simp
  clear hl hk hlk HM
  go_wp2_with fail
  go_loopw [10] (fun i wr => ∃ j : Nat, j ≤ k ∧ i = .int .i64 (j : Int) ∧ Hid (Drw w3 wr)) (fun i _ => k - (intOf i).toNat)
  case atStart => exact ⟨0, by omega, rfl, Drw.refl w3⟩
  obtain ⟨j, hj, rfl, hd4⟩ := hrel
  rename World => wo
  by_cases hlt : j < k
  · have i2 : (j : Int) < (k : Int) := by omega
    obtain ⟨x, hx⟩ : ∃ x, l[j]? = some x := ⟨_, List.getElem?_eq_getElem (by rw [HLK.out]; exact hlt)⟩
    obtain ⟨b1, o1, rfl, c1, c2, c3, c4⟩ := RdA.mov (HM3.out.fw hd4.out.fw) hx
    obtain ⟨b2, o2, rfl, d1, d2, d3, d4⟩ := RdA.mov (HO.out.fw hd4.out.fw) hx
    clear hx
    go_wp2_with fail
    go_quiet (fail)
    go_wp2_with fail
    go_roundw
    case rel => exact ⟨j + 1, by omega, by go_num, hd4.out.step nq⟩
    case measure => simp [intOf] <;> omega
  · go_wp2_with fail
    go_ret
    exact ⟨rfl, bt B3.out hd4.out.fw⟩
theorem walk_QuotaSettles (ta : Option Addr) (n tc : Nat) (T : Tab) (qa : Option Addr) (m qc : Nat) (q : List Int) (w : World) (h : RdT w ta n tc T) (hy : ∀ m ∈ T, ∀ z ∈ m, -9223372036854775808 ≤ z ∧ z ≤ 9223372036854775807) (h2 : Rd vi w qa m qc q) (hy2 : ∀ z ∈ q, -9223372036854775808 ≤ z ∧ z ≤ 9223372036854775807) :
    Calls Try.prog 7 #[.slice ta n tc, .slice qa m qc] w fun e w' => e = .returned (.bool true) ∧ Below w.heap.size w w' := by
  have hlim2 : m ≤ 9223372036854775807 := by have := h2.cap; have := h2.max; unfold maxLen at *; omega
  by_cases hf : Fit T q
  · obtain rfl : m = n := by rw [← h2.len, hf.2.1, h.len]
    by_cases hl : Low T 6 30
    · by_cases hF : Full T q
      · exact qset_full ta m tc T qa qc q w h h2 hf hl hF
      · exact qset_some ta m tc T qa qc q w h h2 hf hl hF
    · exact qset_low ta m tc T qa qc q w h h2 hf hl
  · by_cases hv : VT T
    · exact qset_quo ta n tc T qa m qc q w h h2 hf hv hlim2
    · exact qset_bad ta n tc T qa m qc q w h h2 hf hv hlim2
end Go.Proofs.Ytpecepfnmkpmmaa
