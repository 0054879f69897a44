/- polynomial.DivMod. -/
import Derived.Test.YtkbcingibgnnpaaPolyD
import Derived.Deep.RegionWith
/-! ### Long division -/
namespace Poly
theorem div_step {p D q R : Poly} (h : p = D * q + R) (m : Poly) : p = (D + m) * q + (R + m * q) := by
  have e : D * q + m * q + (R + m * q) = D * q + R + (m * q + m * q) := by ac_rfl
  rw [h, add_mul, e, add_self, add_zero]

theorem div_top {q R : Poly} {j t : Nat} {u lead : Fq} (hj : 0 < j) (ht : t = q.sz) (h0 : 0 < t) (hl : q.cf (t - 1) = lead) (hl0 : lead ≠ 0) (hu : R.cf (j - 1 + (t - 1)) = u) (hR : ∀ k, j + (t - 1) ≤ k → R.cf k = 0) (k : Nat) (hk : j - 1 + (t - 1) ≤ k) :
    (R + mon (u * Fq.inv lead) (j - 1) * q).cf k = 0 := by
  rw [cf_add, cf_mon_mul, if_pos (by omega)]
  rcases Nat.lt_or_ge k (j + (t - 1)) with h | h
  · have : k = j - 1 + (t - 1) := by omega
    rw [this, hu, show j - 1 + (t - 1) - (j - 1) = t - 1 from by omega, hl, Fq.mul_assoc, Fq.inv_mul hl0, Fq.mul_one, Fq.add_self]
  · rw [hR k h, cf_of_ge (p := q) (by omega), Fq.mul_zero, Fq.add_zero]

theorem div_sz {p d q r : Poly} (h : p = d * q + r) (hr : r.sz < q.sz) : d.sz = p.sz - (q.sz - 1) := by
  rcases Nat.eq_zero_or_pos d.sz with h0 | h0
  · have hd := sz_eq_zero.1 h0
    rw [hd, zero_mul, zero_add] at h
    rw [h0, h]; omega
  · have hm := sz_mul h0 (q := q) (by omega)
    have := sz_add_lt (p := d * q) (q := r) (by omega)
    rw [← h] at this
    omega
end Poly

namespace Go.Proofs.Ytkbcingibgnnpaa
open Go.RowKit Go.Kin
set_option maxRecDepth 100000

/-- What DivMod returns: quotient and remainder in two new blocks. -/
def RetDiv (w : World) (P Q : Poly) (e : Ending) (w' : World) : Prop :=
  ∃ (d r : Poly) (g1 g2 : Nat), P = d * Q + r ∧ r.sz < Q.sz ∧ e = .returned (.tuple #[.slice (some ⟨g1, 0, none⟩) d.sz d.sz, .slice (some ⟨g2, 0, none⟩) r.sz r.sz, .int .i64 0]) ∧
    w.heap.size ≤ g1 ∧ w.heap.size ≤ g2 ∧ Blk vb 5 w' g1 (Poly.out d) ∧ Blk vb 5 w' g2 (Poly.out r) ∧ Below w.heap.size w w'

theorem divmod_zero (a b : Option Addr) (n m c d : Nat) (p q : List Nat) (w : World) (h1 : Rd vb w a n c p) (h2 : Rd vb w b m d q) (hp : Gf.Byt p) (hq : Gf.Byt q) (hn : n ≤ 140737488355328) (hm : m ≤ 140737488355328) (h0 : Poly.of q = 0) :
    Calls Try.prog 30 #[.slice a n c, .slice b m d] w fun e w' => e = .returned (.tuple #[.slice none 0 0, .slice none 0 0, .int .i64 1]) ∧ Below w.heap.size w w' := by
  have H1 := Lib.hid h1; have H2 := Lib.hid h2; clear h1 h2
  have hQ := Poly.out_length (Poly.of q)
  rw [Poly.sz_eq_zero.2 h0] at hQ
  obtain ⟨P, HP⟩ : ∃ P, Hid (Poly.out (Poly.of p) = P) := ⟨_, rfl⟩
  obtain ⟨Q, HQ⟩ : ∃ Q, Hid (Poly.out (Poly.of q) = Q) := ⟨_, rfl⟩
  rw [HQ.out] at hQ
  have HQL := Lib.hid hQ
  clear hQ h0
  go_enter Try.func30, Try.ntmps30
  go_wp2_with fail
  refine (trim_any _ _ _ p _ H1.out hp hn).mono ?_
  rintro e w1 ⟨g1, rfl, hg1, hB1, hb1⟩
  rw [HP.out]
  have B1 := Lib.hid (H2.out.fw hb1)
  go_wp2_with fail
  refine (trim_any _ _ _ q _ B1.out hq hm).mono ?_
  rintro e w2 ⟨g2, rfl, hg2, hB2, hb2⟩
  rw [HQ.out, HQL.out]
  clear hB1 hB2
  go_wp2_with fail
  go_ret3
  exact ⟨rfl, bt hb1 hb2⟩


set_option maxHeartbeats 1000000 in
theorem divmod_any (a b : Option Addr) (n m c d : Nat) (p q : List Nat) (w : World) (h1 : Rd vb w a n c p) (h2 : Rd vb w b m d q) (hp : Gf.Byt p) (hq : Gf.Byt q) (hn : n ≤ 140737488355328) (hm : m ≤ 140737488355328) (h0 : 0 < (Poly.of q).sz) :
    Calls Try.prog 30 #[.slice a n c, .slice b m d] w (RetDiv w (Poly.of p) (Poly.of q)) := by
  obtain ⟨i0, hi, hz0, hz1, hz2⟩ := info_parts info5
  have u1 := Try.underlying22
  have H1 := Lib.hid h1; have H2 := Lib.hid h2
  have hPn := Poly.sz_of_le p
  have hQn := Poly.sz_of_le q
  rw [h1.len] at hPn
  rw [h2.len] at hQn
  clear h1 h2
  have BP := Lib.hid (Poly.out_byt (Poly.of p))
  have BQ := Lib.hid (Poly.out_byt (Poly.of q))
  have oP := Lib.hid (Poly.of_out (Poly.of p))
  have oQ := Lib.hid (Poly.of_out (Poly.of q))
  have hP := Poly.out_length (Poly.of p)
  have hQ := Poly.out_length (Poly.of q)
  obtain ⟨P, HP⟩ : ∃ P, Hid (Poly.out (Poly.of p) = P) := ⟨_, rfl⟩
  obtain ⟨Q, HQ⟩ : ∃ Q, Hid (Poly.out (Poly.of q) = Q) := ⟨_, rfl⟩
  obtain ⟨s, HS⟩ : ∃ s, Hid ((Poly.of p).sz = s) := ⟨_, rfl⟩
  obtain ⟨t, HT⟩ : ∃ t, Hid ((Poly.of q).sz = t) := ⟨_, rfl⟩
  rw [HP.out] at oP BP hP
  rw [HQ.out] at oQ BQ hQ
  rw [HS.out] at hP hPn
  rw [HT.out] at hQ hQn h0
  have HPL := Lib.hid hP; have HQL := Lib.hid hQ; clear hP hQ
  have e0 : (((t : Nat) : Int) == 0) = false := by simp; omega
  obtain ⟨lead, hlead⟩ : ∃ x, Q[t - 1]? = some x := ⟨_, List.getElem?_eq_getElem (by rw [HQL.out]; omega)⟩
  have blead := BQ.out.at hlead
  have hlead0 : lead ≠ 0 := by
    intro e
    have h := Poly.cf_last (p := Poly.of q) (by rw [HT.out]; exact h0)
    rw [HT.out, ← oQ.out, Poly.cf_of_some hlead, e] at h
    exact h rfl
  have hlp : 0 < lead := by omega
  have binv := Gf.inv_lt lead blead
  have HLEAD := Lib.hid hlead; clear hlead hlead0
  obtain ⟨M, hM⟩ : ∃ M, M = s - (t - 1) := ⟨_, rfl⟩
  have hM1 : M ≤ s := by omega
  have HM := Lib.hid hM; clear hM
  have j1 : ((t : Int) - 1) < (t : Int) := by omega
  have j2 : 0 ≤ ((t : Int) - 1) := by omega
  go_enter Try.func30, Try.ntmps30
  go_wp2_with fail
  refine (trim_any _ _ _ p _ H1.out hp hn).mono ?_
  rintro e w1 ⟨g1, rfl, hg1, hB1, hb1⟩
  rw [HP.out, HPL.out]
  rw [HP.out] at hB1
  have P1 := Lib.hid hB1; clear hB1
  have B1 := Lib.hid (H2.out.fw hb1)
  go_wp2_with fail
  refine (trim_any _ _ _ q _ B1.out hq hm).mono ?_
  rintro e w2 ⟨g2, rfl, hg2, hB2, hb2⟩
  rw [HQ.out, HQL.out]
  rw [HQ.out] at hB2
  have Q2 := Lib.hid hB2; have P2 := Lib.hid (P1.out.fw hb2); clear hB2
  have c1 := Q2.out.cell HLEAD.out
  unfold vb at c1
  go_wp2_with fail
  refine (inv_any _ _ (by omega) (by omega)).mono ?_
  rintro e w' ⟨rfl, rfl⟩
  rcases Nat.lt_or_ge s (t - 1) with hc0 | hc0
  all_goals
    go_wp2_with (at_make; refine wpList_make_blk rfl (.tmp 36) (.tmp 36) 22 rfl vb 0 5 i0 u1 hi hz0 hz1 rfl _ _ _ _ M rfl rfl (by have := HM.out; omega) (by have := HM.out; omega) (by rw [hz2]; omega) (by omega) ?_; intro w3 hk3 hb3 hs3; have HK3 := Lib.hid hk3; have P3 := Lib.hid (P2.out.fw hb3); have Q3 := Lib.hid (Q2.out.fw hb3); clear hk3 hs3)
    have hg3 : w.heap.size ≤ w2.heap.size := Nat.le_trans hb1.size hb2.size
    have l1 := P2.out.lt
    have l2 := Q2.out.lt
    have g12 : g2 ≠ g1 := by have := P1.out.lt; omega
    have g21 : g1 ≠ g2 := fun e => g12 e.symm
    go_loopw [13] (fun i wr => ∃ (j : Nat) (D R : List Nat), j ≤ M ∧ i = .int .i64 ((j : Int) - 1) ∧ Hid (D.length = M) ∧ Hid (R.length = s) ∧ Hid (Gf.Byt D) ∧ Hid (Gf.Byt R) ∧ Hid (∀ i, i < j → D[i]? = some 0) ∧ Hid (Poly.of p = Poly.of D * Poly.of q + Poly.of R) ∧
        Hid (∀ k, j + (t - 1) ≤ k → (Poly.of R).cf k = 0) ∧ Hid (Blk vb 5 wr w2.heap.size D) ∧ Hid (Blk vb 5 wr g1 R) ∧ Hid (Blk vb 5 wr g2 Q) ∧ Below w.heap.size w wr ∧ w2.heap.size < wr.heap.size) (fun i _ => (intOf i + 1).toNat)
    case atStart =>
      refine ⟨M, List.replicate M 0, P, Nat.le_refl _, rfl, List.length_replicate, HPL.out, Poly.zeros_byt _, BP.out, ?_, ?_, ?_, HK3.out, P3.out, Q3.out, bt hb1 (bt hb2 hb3), HK3.out.lt⟩
      · intro i hi
        rw [List.getElem?_replicate, if_pos hi]
      · show _ = _
        rw [Poly.of_zeros, Poly.zero_mul, Poly.zero_add, oP.out]
      · intro k hk
        exact Poly.cf_of_none (by rw [HPL.out]; have := HM.out; omega)
    case round =>
      obtain ⟨j, D, R, hj, rfl, hDl, hRl, hDb, hRb, hD0, hval, htop, hBD, hBR, hBQ, hbe, hsz⟩ := hrel
      by_cases hj0 : j = 0
      · subst hj0
        have hr : (Poly.of R).sz < t := by
          have := Poly.sz_le (p := Poly.of R) (n := t - 1) (fun k hk => htop.out k (by omega))
          omega
        have hd := Poly.div_sz hval.out (by rw [HT.out]; exact hr)
        rw [HS.out, HT.out, ← HM.out] at hd
        have hDe : D = Poly.out (Poly.of D) := Poly.eq_out hDb.out rfl (by rw [hd, hDl.out])
        have HR := Lib.hid hr; have HDE := Lib.hid hDe; have HDS := Lib.hid hd
        clear hr hDe hd
        go_wp2_with fail
        refine (trim_any _ _ _ R _ (hBR.out.rdn hRl.out (Nat.le_refl _) (by omega)) hRb.out (by omega)).mono ?_
        rintro e w6 ⟨g6, rfl, hg6, hB6, hb6⟩
        have hB7 := hBD.out.fw hb6
        rw [HDE.out] at hB7
        have HB7 := Lib.hid hB7; clear hB7
        rw [Poly.out_length]
        go_wp2_with fail
        go_ret3
        refine ⟨Poly.of D, Poly.of R, w2.heap.size, g6, hval.out, by rw [HT.out]; exact HR.out, ?_, hg3, Nat.le_trans hbe.size hg6, HB7.out, hB6, bt hbe hb6⟩
        rw [HDS.out]; rfl
      · have hjp : 0 < j := by omega
        try (exfalso; have := HM.out; omega)
        all_goals
          have hMs : M + (t - 1) ≤ s := by have := HM.out; omega
          obtain ⟨u, hu⟩ : ∃ u, R[j - 1 + (t - 1)]? = some u := ⟨_, List.getElem?_eq_getElem (by rw [hRl.out]; omega)⟩
          have bu := hRb.out.at hu
          have d1 := hBR.out.cell hu
          have d2 := hBD.out.cell (hD0.out (j - 1) (by omega))
          have f2 := hBD.out.frozen (j - 1)
          have lz := Gf.mul_lt u (Gf.inv lead) bu
          have d3 := (hBD.out.set (j - 1) (Gf.mul u (Gf.inv lead))).cell (i := j - 1) (x := Gf.mul u (Gf.inv lead)) (by rw [List.getElem?_set, if_pos rfl, if_pos (by rw [hDl.out]; omega)])
          have HU := Lib.hid hu; clear hu hj0
          unfold vb at d1 d2 d3
          have i1 : ((j : Int) - 1) < (M : Int) := by omega
          have i0 : 0 ≤ ((j : Int) - 1) := by omega
          have i2 : ((j : Int) - 1) + ((t : Int) - 1) < (s : Int) := by omega
          have i3 : ((j : Int) - 1) < (s : Int) := by omega
          have i4 : ¬ s = j - 1 := by omega
          have i5 : ¬ j - 1 = s := by omega
          have lc : g1 ≠ w2.heap.size := by omega
          have lc2 : g2 ≠ w2.heap.size := by omega
          have KR := fun (v : Value) => (hBR.out.other ⟨w2.heap.size, j - 1, none⟩ v lc).drew 1
          have KQ := fun (v : Value) => (hBQ.out.other ⟨w2.heap.size, j - 1, none⟩ v lc2).drew 1
          have KD := (hBD.out.set (j - 1) (Gf.mul u (Gf.inv lead))).drew 1
          have BZ := fun (v : Value) => fdrewN (hbe.setCell (p := ⟨w2.heap.size, j - 1, none⟩) hg3 v) 1
          have lt1 : t ≤ s - (j - 1) := by omega
          have htop2 : Hid (∀ k, j - 1 + (t - 1) ≤ k → (Poly.of R + Poly.mon (Fq.of (Gf.mul u (Gf.inv lead))) (j - 1) * Poly.of q).cf k = 0) := by
            intro k hk
            rw [Fq.of_mul bu binv, Fq.of_inv blead]
            refine Poly.div_top hjp HT.out.symm h0 ?_ ?_ (Poly.cf_of_some HU.out) htop.out k hk
            · rw [← oQ.out]; exact Poly.cf_of_some HLEAD.out
            · intro e; rw [Fq.of_eq_zero blead] at e; omega
          go_wp2_with (go_at_call 33; refine (mul_any _ _ _ (by omega) (by omega) (by omega) (by omega)).mono ?_; rintro e w' ⟨rfl, rfl⟩)
          go_region_with (go_at_call 47; refine (addto_any g1 (j - 1) _ _ R _ _ _ Q _ _ (KR _) hRb.out ((KQ _).rdn HQL.out (Nat.le_refl _) (by omega)) BQ.out (Int.natCast_nonneg _) (by omega) (by rw [hRl.out]; omega) lt1 (by omega)).mono ?_; rintro e w5 ⟨rfl, R', hRl', hRb', hRv, hBR', hgr⟩)
          all_goals
            have KQ6 := Lib.hid ((KQ (.int .u8 ((Gf.mul u (Gf.inv lead) : Nat) : Int))).grown hgr g12)
            have KD6 := Lib.hid (KD.grown hgr (Ne.symm lc))
            have KR6 := Lib.hid hBR'
            have BW := below_grown (BZ _) hgr hg1
            have SZ := hgr.size
            have HRV := Lib.hid hRv; have HRL := Lib.hid hRl'
            clear hBR' hRv hRl'
            try go_wp2
            go_roundw
            case rel =>
              refine ⟨j - 1, D.set (j - 1) (Gf.mul u (Gf.inv lead)), R', by omega, ?_, ?_, ?_, ?_, hRb', ?_, ?_, ?_, KD6.out, KR6.out, KQ6.out, BW, ?_⟩
              · go_num
              · show (D.set _ _).length = _
                rw [List.length_set]; exact hDl.out
              · show _ = _
                rw [HRL.out]; exact hRl.out
              · exact Poly.set_byt hDb.out lz _
              · intro i hi
                rw [List.getElem?_set, if_neg (by omega)]; exact hD0.out i (by omega)
              · show _ = _
                rw [Poly.of_set_val (hD0.out (j - 1) (by omega)), HRV.out, oQ.out, Int.toNat_natCast, Fq.of_zero, Fq.zero_add]
                exact Poly.div_step hval.out _
              · intro k hk
                rw [HRV.out, oQ.out, Int.toNat_natCast]
                exact htop2.out k hk
              · have := SZ
                simp [World.setCell] at this
                omega
            case measure => simp [intOf]; omega
end Go.Proofs.Ytkbcingibgnnpaa
