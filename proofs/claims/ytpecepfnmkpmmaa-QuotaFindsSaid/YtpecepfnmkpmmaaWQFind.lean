/- QuotaFinds: the walk. -/
import Derived.Test.YtpecepfnmkpmmaaWQFa
namespace Go.Proofs.Ytpecepfnmkpmmaa
open Go.RowKit Go.Kin Quo
set_option maxRecDepth 100000
set_option linter.unusedVariables false
/-- No device to move to. -/
def BadT (n a o : Nat) (ty : Int) : Prop := ty < 0 ∨ (n : Int) ≤ ty ∨ ty = (a : Int) ∨ ty = (o : Int) ∨ o = a
instance (n a o : Nat) (ty : Int) : Decidable (BadT n a o ty) := by unfold BadT; infer_instance
set_option maxHeartbeats 8000000 in
theorem finds_ok (ta : Option Addr) (n tc : Nat) (T : Tab) (qa : Option Addr) (qc : Nat) (q : List Int) (oa : Option Addr) (k oc : Nat) (O : List Int) (w : World) (h : RdT w ta n tc T) (h2 : Rd vi w qa n qc q) (h3 : Rd vi w oa k oc O) (hf : Fit T q) (hl : Low T 12 1000) (hk : k ≤ 12) :
    Calls Try.prog 9 #[.slice ta n tc, .slice qa n qc, .slice oa k oc] w fun e w' => e = .returned (.bool true) ∧ Below w.heap.size w w' := by
  have hn : n ≤ 12 := by have := hf.1.1; rw [h.len] at this; exact this
  have H := Lib.hid h; have H2 := Lib.hid h2; have HO := Lib.hid h3; have HF := Lib.hid hf; have HV := Lib.hid hf.1
  have hlen := Lib.hid h.len
  have hd := decide_eq_true hl
  have hd2 := decide_eq_true hf.1
  have hne : ((n : Int) != (n : Int)) = false := by simp
  have hk2 : decide ((12 : Int) < (k : Int)) = false := decide_eq_false (by omega)
  clear h h2 h3 hl hf
  go_enter Try.func9, Try.ntmps9
  go_wp2_with (first
    | (go_at_call 14; refine (awake_any _).mono ?_; rintro e w1 ⟨rfl, b1⟩; have H1 := Lib.hid (H.out.fw b1); have H21 := Lib.hid (H2.out.fw b1); have HO1 := Lib.hid (HO.out.fw b1); have B1 := Lib.hid b1; clear b1)
    | (go_at_call 16; refine (low_any _ _ _ T _ _ _ H1.out).mono ?_; rw [hd]; rintro e w' ⟨rfl, rfl⟩)
    | (go_at_call 15; refine (valid_any _ _ _ T _ H1.out).mono ?_; rw [hd2]; rintro e w' ⟨rfl, rfl⟩)
    | fail)
  go_at_call 28
  refine (settle_ev _ _ _ T _ _ q _ H1.out H21.out HF.out).mono ?_
  rintro e w2 ⟨b2, la, lm, lc, ev, rfl, hev, hne1⟩
  have HEV := Lib.hid hev
  have e1 : (ev == 1) = false := by simpa using hne1
  clear hev hne1
  have B2 := Lib.hid (bt B1.out b2)
  have H3 := Lib.hid (H1.out.fw b2)
  have H23 := Lib.hid (H21.out.fw b2)
  have HO3 := Lib.hid (HO1.out.fw b2)
  clear b2
  go_wp2_with (first
    | (go_at_call 30; refine (Held_any _ _ _ T _ H3.out HV.out).mono ?_; rintro e w5 ⟨g5, rfl, hg5, r5, b5⟩; have B5 := Lib.hid (bt B2.out b5); have H5 := Lib.hid (H3.out.fw b5); have H25 := Lib.hid (H23.out.fw b5); have HO5 := Lib.hid (HO3.out.fw b5); have A5 := Lib.hid r5; have C5 := Lib.hid b5; have HG5 := Lib.hid hg5; clear hg5 r5 b5)
    | (go_at_call 31; refine (clone_any _ _ _ T _ H5.out HV.out).mono ?_; rintro e w6 ⟨gz, zc, rfl, r6, b6⟩; have B6 := Lib.hid (bt B5.out b6); have H26 := Lib.hid (H25.out.fw b6); have HO6 := Lib.hid (HO5.out.fw b6); have A6 := Lib.hid (A5.out.fw b6); have D6 := Lib.hid r6; have C6 := Lib.hid (bt C5.out b6); clear r6 b6)
    | fail)
  have hinv : GInv w6 w5.heap.size gz zc g5 n T q := by
    refine ⟨_, T, heldF T, Greedy.start HV.out, D6.out, HV.out.sq, A6.out, by rw [held_length]; exact hlen.out⟩
  have hg5lt : g5 < w5.heap.size := A5.out.lt
  have HI := Lib.hid hinv
  clear hinv
  go_loopw [12, 13, 14, 15, 16, 17] (fun i _ _ _ _ _ wr => ∃ d : Nat, d ≤ k ∧ i = .int .i64 (d : Int) ∧ Hid (GInv wr w5.heap.size gz zc g5 n T q) ∧ Hid (Below w2.heap.size w2 wr)) (fun i _ _ _ _ _ _ => k - (intOf i).toNat)
  case atStart => exact ⟨0, by omega, rfl, HI.out, C6.out⟩
  obtain ⟨d, hdk, rfl, hinv, hbe⟩ := hrel
  rename World => wo
  by_cases hlt : d < k
  rotate_left
  · have HB := Lib.hid (bt B2.out hbe.out)
    have H2B := Lib.hid (H23.out.fw hbe.out)
    obtain ⟨M, N, l, hG, hN, hsq, hA, hll⟩ := hinv.out
    have HGr := Lib.hid hG; have HA := Lib.hid hA; have HLL := Lib.hid hll
    clear hG hN hsq hA hll hinv
    go_wp2_with fail
    go_loopw [18] (fun i wr => ∃ j : Nat, j ≤ n ∧ i = .int .i64 (j : Int) ∧ Hid (∀ t, t < j → l.getD t 0 ≤ q.getD t 0) ∧ Hid (Drw wo wr)) (fun i _ => n - (intOf i).toNat)
    case atStart => exact ⟨0, by omega, rfl, fun t ht => absurd ht (Nat.not_lt_zero t), Drw.refl wo⟩
    case round =>
      obtain ⟨j, hj, rfl, hle, hdr⟩ := hrel
      by_cases hlt2 : j < n
      · have i4 : (j : Int) < (n : Int) := by omega
        have x0 : l[j]? = some (l.getD j 0) := get_some (by rw [HLL.out]; exact hlt2) 0
        have q0 : q[j]? = some (q.getD j 0) := get_some (by rw [H2B.out.len]; exact hlt2) 0
        have hstep : Hid (l.getD j 0 ≤ q.getD j 0 → ∀ t, t < j + 1 → l.getD t 0 ≤ q.getD t 0) := fun hh t ht => by
          by_cases e : t = j
          · rw [e]; exact hh
          · exact hle.out t (by omega)
        generalize l.getD j 0 = x at *
        generalize q.getD j 0 = p at *
        have c1 := (HA.out.fw hdr.out.fw).cell x0
        obtain ⟨qb, qo, rfl, c3⟩ := (H2B.out.fw hdr.out.fw).cell j _ q0
        unfold vi at c1 c3
        clear x0 q0
        by_cases hv : p < x
        · have e2 := decide_eq_true hv
          have HBE := Lib.hid (bt HB.out hdr.out.fw)
          clear hv
          go_wp2_with fail
          go_quiet (fail)
          go_wp2_with fail
          go_ret
          exact ⟨rfl, (bt HB.out (hdr.out.step nq).fw)⟩
        · have e2 := decide_eq_false hv
          have hxp := hstep.out (by omega)
          have HXP := Lib.hid hxp
          clear hv hxp
          go_wp2_with fail
          go_quiet (fail)
          go_wp2_with fail
          go_roundw
          case rel => exact ⟨j + 1, by omega, by go_num, HXP, hdr.out.step nq⟩
          case measure => simp [intOf] <;> omega
      · have hjn : j = n := by omega
        have hev0 : ev = 0 := Classical.byContradiction fun hne => HGr.out.ends (HEV.out hne) fun t ht => hle.out t (by rw [hjn, ← hlen.out]; exact ht)
        have HBE := Lib.hid (bt HB.out hdr.out.fw)
        subst hev0
        go_wp2_with fail
        go_ret
        exact ⟨rfl, HBE.out⟩
  have i3 : (d : Int) < (k : Int) := by omega
  have o0 : O[d]? = some (O.getD d 0) := get_some (by rw [HO3.out.len]; exact hlt) 0
  obtain ⟨ho, hho⟩ : ∃ x, x = O.getD d 0 := ⟨_, rfl⟩
  rw [← hho] at o0
  obtain ⟨ob, oo, rfl, c3⟩ := (HO3.out.fw hbe.out).cell d _ o0
  unfold vi at c3
  clear o0 hho
  by_cases hneg : ho < 0
  · have f1 := decide_eq_true hneg
    go_wp2_with fail
    go_ret
    exact ⟨rfl, bt B2.out hbe.out⟩
  by_cases hbig : (n : Int) ≤ ho
  · have f1 := decide_eq_false hneg
    have f2 := decide_eq_true hbig
    go_wp2_with fail
    go_ret
    exact ⟨rfl, bt B2.out hbe.out⟩
  have f1 := decide_eq_false hneg
  have f2 := decide_eq_false hbig
  obtain ⟨a, rfl⟩ : ∃ a : Nat, ho = (a : Int) := ⟨ho.toNat, by omega⟩
  have han : a < n := by omega
  have f3 : decide (n ≤ a) = false := decide_eq_false (by omega)
  clear hneg hbig
  go_wp2_with fail
  go_loopw [14, 15, 16, 17] (fun i _ _ _ wr => ∃ o : Nat, o ≤ n ∧ i = .int .i64 (o : Int) ∧ Hid (GInv wr w5.heap.size gz zc g5 n T q) ∧ Hid (Below w2.heap.size w2 wr)) (fun i _ _ _ _ => n - (intOf i).toNat)
  case atStart => exact ⟨0, by omega, rfl, hinv, hbe⟩
  obtain ⟨o, hon, rfl, hI2, hb2⟩ := hrel
  by_cases hlo : o < n
  rotate_left
  · go_wp2_with fail
    go_roundw
    case rel => exact ⟨d + 1, by omega, by go_num, hI2, hb2⟩
    case measure => simp [intOf] <;> omega
  have i5 : (o : Int) < (n : Int) := by omega
  have k1 := iwq (a := (k : Int) - 1) (by omega)
  have k2 := w64q (a := (k : Int) - 1) (by omega)
  go_wp2_with fail
  go_loopw [15, 16, 17] (fun i _ _ wr => ∃ (j : Nat) (z : Int), j ≤ k ∧ z = (j : Int) - 1 ∧ i = .int .i64 z ∧ Hid (GInv wr w5.heap.size gz zc g5 n T q) ∧ Hid (Below w2.heap.size w2 wr)) (fun i _ _ _ => (intOf i + 1).toNat)
  case atStart => exact ⟨k, (k : Int) - 1, Nat.le_refl _, rfl, rfl, hI2, hb2⟩
  obtain ⟨j0, z, hj0, hz, rfl, hI3, hb3⟩ := hrel
  clear k1 k2
  by_cases hj : 0 < j0
  rotate_left
  · have z1 : decide ((0 : Int) ≤ z) = false := decide_eq_false (by omega)
    clear hz
    go_wp2_with fail
    go_roundw
    case rel => exact ⟨o + 1, by omega, by go_num, hI3, hb3⟩
    case measure => simp [intOf] <;> omega
  obtain ⟨j, rfl⟩ : ∃ j, j0 = j + 1 := ⟨j0 - 1, by omega⟩
  obtain rfl : z = (j : Int) := by omega
  clear hz hj
  have i6 : (j : Int) < (k : Int) := by omega
  have i7 : (0 : Int) ≤ (j : Int) := by omega
  have k1 := iwq (a := (j : Int) - 1) (by omega)
  have k2 := w64q (a := (j : Int) - 1) (by omega)
  have t0 : O[j]? = some (O.getD j 0) := get_some (by rw [HO3.out.len]; omega) 0
  obtain ⟨ty, hty⟩ : ∃ x, x = O.getD j 0 := ⟨_, rfl⟩
  rw [← hty] at t0
  obtain ⟨tb, to', he, c4⟩ := (HO3.out.fw hb3.out).cell j _ t0
  cases he
  unfold vi at c4
  clear t0 hty
  go_upto_region 25 with fail
  go_cut [122] from 92 to 183 (fun v wq => v = .bool (decide (BadT n a o ty)) ∧ Hid (wq = wr))
  case first =>
    clear C5 C6 HG5 HEV HI H HO HF HV hlen hd hd2 hne hk2 H1 H21 HO1 B1 e1 B2 H3 H23 HO3 H5 H25 HO5 A5 B5 B6 H26 HO6 A6 D6 hI2 hb2 hI3 hb3 hinv hbe c3 c4 k1 k2
    by_cases hB : BadT n a o ty
    · have HD := Lib.hid (decide_eq_true hB)
      by_cases hc1 : ty < 0
      · have g1 := decide_eq_true hc1
        clear hc1 hB
        go_wp2_with fail
        go_meet
        exact ⟨by rw [HD.out], rfl⟩
      have g1 := decide_eq_false hc1
      by_cases hc2 : (n : Int) ≤ ty
      · have g2 := decide_eq_true hc2
        clear hc1 hc2 hB
        go_wp2_with fail
        go_meet
        exact ⟨by rw [HD.out], rfl⟩
      have g2 := decide_eq_false hc2
      by_cases hc3 : ty = (a : Int)
      · have g3 : (ty == (a : Int)) = true := beq_iff_eq.2 hc3
        clear hc1 hc2 hc3 hB
        go_wp2_with fail
        go_meet
        exact ⟨by rw [HD.out], rfl⟩
      have g3 : (ty == (a : Int)) = false := beq_eq_false_iff_ne.2 hc3
      by_cases hc4 : ty = (o : Int)
      · have g4 : (ty == (o : Int)) = true := beq_iff_eq.2 hc4
        clear hc1 hc2 hc3 hc4 hB
        go_wp2_with fail
        go_meet
        exact ⟨by rw [HD.out], rfl⟩
      have g4 : (ty == (o : Int)) = false := beq_eq_false_iff_ne.2 hc4
      have g5 : ((o : Int) == (a : Int)) = true := beq_iff_eq.2 (by unfold BadT at hB; omega)
      clear hc1 hc2 hc3 hc4 hB
      go_wp2_with fail
      go_meet
      exact ⟨by rw [HD.out], rfl⟩
    · have HD := Lib.hid (decide_eq_false hB)
      unfold BadT at hB
      have g1 := decide_eq_false (show ¬ ty < 0 by omega)
      have g2 := decide_eq_false (show ¬ (n : Int) ≤ ty by omega)
      have g3 : (ty == (a : Int)) = false := beq_eq_false_iff_ne.2 (by omega)
      have g4 : (ty == (o : Int)) = false := beq_eq_false_iff_ne.2 (by omega)
      have g5 : ((o : Int) == (a : Int)) = false := beq_eq_false_iff_ne.2 (by omega)
      clear hB
      go_wp2_with fail
      go_meet
      exact ⟨by rw [HD.out], rfl⟩
  obtain ⟨rfl, hw⟩ := hcut
  obtain rfl : wc = wr := hw.out
  clear hw
  by_cases hB : BadT n a o ty
  · rw [decide_eq_true hB]
    clear hB c3 c4
    go_wp2_with fail
    go_roundw
    case rel => exact ⟨j, (j : Int) - 1, by omega, rfl, rfl, hI3, hb3⟩
    case measure => simp [intOf] <;> omega
  rw [decide_eq_false hB]
  unfold BadT at hB
  obtain ⟨t, rfl⟩ : ∃ t : Nat, ty = (t : Int) := ⟨ty.toNat, by omega⟩
  have htn : t < n := by omega
  have hta : t ≠ a := by omega
  have hto : t ≠ o := by omega
  clear hB
  have hTl := Lib.hid hlen.out
  obtain ⟨M, N, l, hG, hN, hsq, hA, hll⟩ := hI3.out
  have HN := Lib.hid hN; have HAA := Lib.hid hA; have HG := Lib.hid hG; have HSQ := Lib.hid hsq; have HLL := Lib.hid hll
  have hNl := Lib.hid hN.len
  have s1 := get_some (show a < N.length by rw [hNl.out]; exact han) ([] : List Int)
  have s2 := hsq a (by rw [hNl.out]; exact han)
  rw [hNl.out] at s2
  have s3 := get_some (show o < (N.getD a []).length by rw [s2]; exact hlo) (0 : Int)
  obtain ⟨ow, ga, ra, k1, _, kb2, k5, k6, k7, _, _⟩ := hN.at s1 s3
  cases k1
  rw [s2] at k5
  obtain ⟨Ba, hBa⟩ : ∃ x, x = l.getD a 0 := ⟨_, rfl⟩
  obtain ⟨Bt, hBt⟩ : ∃ x, x = l.getD t 0 := ⟨_, rfl⟩
  obtain ⟨pa, hpa⟩ : ∃ x, x = q.getD a 0 := ⟨_, rfl⟩
  obtain ⟨pt, hpt⟩ : ∃ x, x = q.getD t 0 := ⟨_, rfl⟩
  obtain ⟨xo, hxo⟩ : ∃ x, x = (N.getD a []).getD o 0 := ⟨_, rfl⟩
  have v1 := greedy_bd hG HF.out.1 HF.out.2.2 (d := a) (by rw [hTl.out]; exact han)
  have v2 := greedy_bd hG HF.out.1 HF.out.2.2 (d := t) (by rw [hTl.out]; exact htn)
  have v3 := quota_bound HF.out.2.2 a
  have v4 := quota_bound HF.out.2.2 t
  have v5 : 0 ≤ (N.getD a []).getD o 0 ∧ (N.getD a []).getD o 0 ≤ 1099511627776 := greedy_bdA hG HF.out.1 (i := a) (o := o) (by rw [hTl.out]; exact han) (by rw [hTl.out]; exact hlo)
  try dsimp only at v1 v2
  rw [← hBa] at v1; rw [← hBt] at v2; rw [← hpa] at v3; rw [← hpt] at v4; rw [← hxo] at v5
  have c5 := hA.cell (get_some (show a < l.length by rw [hll]; exact han) 0)
  have c6 := hA.cell (get_some (show t < l.length by rw [hll]; exact htn) 0)
  rw [← hBa] at c5; rw [← hBt] at c6
  have hq26 := H23.out.fw hb3.out
  obtain ⟨qb, qo, rfl, c7⟩ := hq26.cell a _ (get_some (show a < q.length by rw [hq26.len]; exact han) 0)
  obtain ⟨qb', qo', e2, c8⟩ := hq26.cell t _ (get_some (show t < q.length by rw [hq26.len]; exact htn) 0)
  cases e2
  rw [← hpa] at c7; rw [← hpt] at c8; rw [← hxo] at k6
  unfold vi at c5 c6 c7 c8
  obtain ⟨X, hX⟩ : ∃ X, min (Ba - pa) (min xo (pt - Bt)) = X := ⟨_, rfl⟩
  have HX := Lib.hid hX
  have hX1 : X ≤ Ba - pa := by rw [← hX]; omega
  have hX2 : X ≤ xo := by rw [← hX]; omega
  have hX3 : X ≤ pt - Bt := by rw [← hX]; omega
  have HBA := Lib.hid hBa; have HBT := Lib.hid hBt; have HPA := Lib.hid hpa; have HPT := Lib.hid hpt; have HXO := Lib.hid hxo
  have y0 : (a : Int) < (n : Int) := by omega
  have y1 : (o : Int) < (n : Int) := by omega
  have y2 : (t : Int) < (n : Int) := by omega
  have z1 := iwq (a := Ba - pa) (by omega)
  have z2 := w64q (a := Ba - pa) (by omega)
  have z3 := iwq (a := pt - Bt) (by omega)
  have z4 := w64q (a := pt - Bt) (by omega)
  clear hX hBa hBt hpa hpt hxo hG hN hsq hA hll s1 s2 s3 hq26
  go_wp2_with fail
  go_still_tail 25, (by kernel_rfl)
  change wpList _ _ _ _ _ wc.drew
  refine wpList_min3 rfl (.tmp 131) (.tmp 138) (.tmp 147) 3 rfl (Ba - pa) xo (pt - Bt) rfl rfl rfl ?_
  rw [HX.out]
  by_cases hpos : 0 < X
  rotate_left
  · have e2 := decide_eq_false hpos
    clear hpos z1 z2 z3 z4 v1 v2 v3 v4 v5 hX1 hX2 hX3
    go_wp2_with fail
    go_roundw
    case rel => exact ⟨j, (j : Int) - 1, by omega, rfl, rfl, hI3.out.fw (fdrewN (below_refl wc) 1), fdrewN hb3.out 1⟩
    case measure => simp [intOf] <;> omega
  have e2 := decide_eq_true hpos
  clear z1 z2 z3 z4
  have z1 := iwq (a := xo - X) (by omega)
  have z2 := w64q (a := xo - X) (by omega)
  go_wp2_with fail
  have hbd := fdrewN (below_refl wc) 1
  obtain ⟨wz, hwz⟩ : ∃ wz, wz = wc.drew := ⟨_, rfl⟩
  replace hbd : Below wc.heap.size wc wz := by rw [hwz]; exact hbd
  change Code.wp _ _ _ _ wc.drew
  rw [← hwz]
  have HB4 := Lib.hid (bt hb3.out hbd)
  have hN1 := HN.out.fw hbd
  have HA1 := Lib.hid (HAA.out.fw hbd)
  clear k5 k6 k7 c5 c6 c7 c8 kb2
  have s1 := get_some (show a < N.length by rw [hNl.out]; exact han) ([] : List Int)
  have s2 := HSQ.out a (by rw [hNl.out]; exact han)
  rw [hNl.out] at s2
  have s3 := get_some (show o < (N.getD a []).length by rw [s2]; exact hlo) (0 : Int)
  rw [← HXO.out] at s3
  obtain ⟨ow, ga, ra, k1, _, kb2, k5, k6, k7, kset, _⟩ := hN1.at s1 s3
  cases k1
  rw [s2] at k5
  have HSET := Lib.hid (kset (xo - X))
  have HGA : Hid (w2.heap.size ≤ ga) := Nat.le_trans C5.out.size kb2
  have HNE : Hid (g5 ≠ ga) := by
    show _ ≠ _
    have := A5.out.lt
    omega
  have hBW : Hid (Below w2.heap.size w2 (wz.setCell ⟨ga, o, none⟩ (.int .i64 (xo - X))).drew) := Below.drew (HB4.out.setCell (p := ⟨ga, o, none⟩) HGA.out _)
  have hOD : Hid (OwnT (wz.setCell ⟨ga, o, none⟩ (.int .i64 (xo - X))).drew w5.heap.size (some ⟨gz, 0, none⟩) n zc (N.set a ((N.getD a []).set o (xo - X)))) := HSET.out.fw (below_refl _).drew
  have hAD : Hid (Blk vi 3 (wz.setCell ⟨ga, o, none⟩ (.int .i64 (xo - X))).drew g5 l) := (HA1.out.other ⟨ga, o, none⟩ (.int .i64 (xo - X)) HNE.out).drew 1
  clear s1 s2 s3 kset kb2 hN1 hbd hwz
  go_still_tail 15, (by kernel_rfl)
  change wpList _ _ _ _ _ wz.drew
  go_upto_region 29 with fail
  clear k5 k6 k7 z1 z2
  generalize (wz.setCell ⟨ga, o, none⟩ (.int .i64 (xo - X))).drew = wy at hBW hOD hAD ⊢
  have c5 := hAD.out.cell (get_some (show a < l.length by rw [HLL.out]; exact han) 0)
  rw [← HBA.out] at c5
  unfold vi at c5
  have f5 := hAD.out.frozen a
  have z1 := iwq (a := Ba - X) (by omega)
  have z2 := w64q (a := Ba - X) (by omega)
  have hOD2 : Hid (OwnT (wy.setCell ⟨g5, a, none⟩ (.int .i64 (Ba - X))) w5.heap.size (some ⟨gz, 0, none⟩) n zc (N.set a ((N.getD a []).set o (xo - X)))) := hOD.out.low (p := ⟨g5, a, none⟩) A5.out.lt _
  have hAD2 : Hid (Blk vi 3 (wy.setCell ⟨g5, a, none⟩ (.int .i64 (Ba - X))) g5 (l.set a (Ba - X))) := hAD.out.set a (Ba - X)
  have hBW2 : Hid (Below w2.heap.size w2 (wy.setCell ⟨g5, a, none⟩ (.int .i64 (Ba - X)))) := hBW.out.setCell (p := ⟨g5, a, none⟩) HG5.out _
  go_upto_region 30 with fail
  clear c5 f5 z1 z2
  generalize wy.setCell ⟨g5, a, none⟩ (.int .i64 (Ba - X)) = wx at hBW2 hOD2 hAD2 ⊢
  have c6 := hAD2.out.cell (get_some (show t < (l.set a (Ba - X)).length by rw [List.length_set, HLL.out]; exact htn) 0)
  rw [set_getD (by rw [HLL.out]; exact han), if_neg hta, ← HBT.out] at c6
  unfold vi at c6
  have f6 := hAD2.out.frozen t
  have z1 := iwq (a := Bt + X) (by omega)
  have z2 := w64q (a := Bt + X) (by omega)
  go_wp2_with fail
  clear z1 z2
  go_roundw
  case rel =>
    refine ⟨j, (j : Int) - 1, by omega, rfl, rfl, ?_, hBW2.out.setCell (p := ⟨g5, t, none⟩) HG5.out _⟩
    have exo : at2 N a o = xo := HXO.out.symm
    refine ginv_step (x := X) HG.out HSQ.out hTl.out hNl.out HLL.out han hlo htn hto hta hpos ?_ ?_ ?_ ?_ ?_
    · rw [← HBA.out, ← HPA.out]; exact hX1
    · rw [exo]; exact hX2
    · rw [← HBT.out, ← HPT.out]; exact hX3
    · rw [exo]; exact hOD2.out.low (p := ⟨g5, t, none⟩) A5.out.lt _
    · rw [← HBA.out, ← HBT.out]; exact hAD2.out.set t (Bt + X)
  case measure => simp [intOf] <;> omega
theorem walk_QuotaFinds (ta : Option Addr) (n tc : Nat) (T : Tab) (qa : Option Addr) (m qc : Nat) (q : List Int) (oa : Option Addr) (k oc : Nat) (O : List Int) (w : World) (h : RdT w ta n tc T) (hy : ∀ m ∈ T, ∀ z ∈ m, -9223372036854775808 ≤ z ∧ z ≤ 9223372036854775807) (h2 : Rd vi w qa m qc q) (hy2 : ∀ z ∈ q, -9223372036854775808 ≤ z ∧ z ≤ 9223372036854775807) (h3 : Rd vi w oa k oc O) (hy3 : ∀ z ∈ O, -9223372036854775808 ≤ z ∧ z ≤ 9223372036854775807) :
    Calls Try.prog 9 #[.slice ta n tc, .slice qa m qc, .slice oa k oc] w fun e w' => e = .returned (.bool true) ∧ Below w.heap.size w w' := by
  by_cases hl : Low T 12 1000
  · by_cases hT : VT T
    · by_cases hm : m = n
      · subst hm
        by_cases hk : k ≤ 12
        · by_cases hf : Fit T q
          · exact finds_ok ta m tc T qa qc q oa k oc O w h h2 h3 hf hl hk
          · exact finds_no ta m tc T qa qc q oa k oc w h h2 hf hl hT hk
        · exact finds_long ta m tc T qa qc oa k oc w h hl hT (by omega) (by have := h3.cap; have := h3.max; unfold maxLen at *; omega)
      · exact finds_len ta n tc T qa m qc oa k oc w h hl hT hm
    · exact finds_bad ta n tc T qa m qc oa k oc w h hl hT
  · exact finds_low ta n tc T qa m qc oa k oc w h hl
end Go.Proofs.Ytpecepfnmkpmmaa
