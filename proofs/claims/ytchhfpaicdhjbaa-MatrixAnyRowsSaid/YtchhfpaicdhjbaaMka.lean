/- matrix.Kernel. -/
import Derived.Test.YtchhfpaicdhjbaaMq
namespace Mat
/-- The free columns ahead of col. -/
def freeC (piv : List Nat) (col : Nat) : List Nat := (List.range col).filter fun c => decide (c ∉ piv)
theorem freeC_pivot {piv : List Nat} {col : Nat} (h : col ∈ piv) : freeC piv (col + 1) = freeC piv col := by
  unfold freeC; rw [List.range_succ, List.filter_append]; simp [h]
theorem freeC_free {piv : List Nat} {col : Nat} (h : col ∉ piv) : freeC piv (col + 1) = freeC piv col ++ [col] := by
  unfold freeC; rw [List.range_succ, List.filter_append]; simp [h]
theorem freeC_le (piv : List Nat) (col : Nat) : (freeC piv col).length ≤ col := by
  have := List.length_filter_le (fun c => decide (c ∉ piv)) (List.range col)
  rw [List.length_range] at this; exact this
theorem piv_inj {n k : Nat} {s : EState} (h : Ech n k s) {i j x : Nat} (hi : s.piv[i]? = some x) (hj : s.piv[j]? = some x) : i = j := by
  have h1 := (List.getElem?_eq_some_iff.1 hi).1
  have h2 := (List.getElem?_eq_some_iff.1 hj).1
  have e1 := (List.getElem?_eq_some_iff.1 hi).2
  have e2 := (List.getElem?_eq_some_iff.1 hj).2
  rcases Nat.lt_trichotomy i j with h3 | h3 | h3
  · have := List.pairwise_iff_getElem.1 h.sorted i j h1 h2 h3; omega
  · exact h3
  · have := List.pairwise_iff_getElem.1 h.sorted j i h2 h1 h3; omega
theorem piv_le {n k : Nat} {s : EState} (h : Ech n k s) {i j x y : Nat} (hi : s.piv[i]? = some x) (hj : s.piv[j]? = some y) (hij : i ≤ j) : x ≤ y := by
  rcases Nat.lt_or_ge i j with h3 | h3
  · have h1 := (List.getElem?_eq_some_iff.1 hi).1
    have h2 := (List.getElem?_eq_some_iff.1 hj).1
    have e1 := (List.getElem?_eq_some_iff.1 hi).2
    have e2 := (List.getElem?_eq_some_iff.1 hj).2
    have := List.pairwise_iff_getElem.1 h.sorted i j h1 h2 h3; omega
  · have : i = j := by omega
    subst this
    rw [hi] at hj; cases hj; exact Nat.le_refl _
/-- passed: how many pivots lie ahead of col. -/
def Passed (s : EState) (ps col : Nat) : Prop := ps ≤ s.piv.length ∧ ∀ i x, s.piv[i]? = some x → (i < ps ↔ x < col)
theorem passed_zero (s : EState) : Passed s 0 0 := ⟨by omega, fun i x _ => by omega⟩
theorem passed_pivot {n k : Nat} {s : EState} (h : Ech n k s) {ps col : Nat} (hp : Passed s ps col) (he : s.piv[ps]? = some col) : Passed s (ps + 1) (col + 1) := by
  refine ⟨(List.getElem?_eq_some_iff.1 he).1, fun i x hx => ?_⟩
  have h1 := hp.2 i x hx
  by_cases e : i = ps
  · subst e; rw [he] at hx; cases hx; omega
  · have : x ≠ col := fun e2 => by subst e2; exact e (piv_inj h hx he)
    omega
theorem passed_free {n k : Nat} {s : EState} (h : Ech n k s) {ps col : Nat} (hp : Passed s ps col) (he : s.piv[ps]? ≠ some col) : col ∉ s.piv ∧ Passed s ps (col + 1) := by
  have hnot : col ∉ s.piv := by
    intro hm
    obtain ⟨i, hi⟩ := List.mem_iff_getElem?.1 hm
    have h1 := hp.2 i col hi
    have hlt := (List.getElem?_eq_some_iff.1 hi).1
    have hq := List.getElem?_eq_getElem (show ps < s.piv.length by omega)
    have h2 := hp.2 ps _ hq
    have h3 := piv_le h hq hi (by omega)
    exact he (by rw [hq]; congr 1; omega)
  refine ⟨hnot, hp.1, fun i x hx => ?_⟩
  have h1 := hp.2 i x hx
  have : x ≠ col := fun e2 => by subst e2; exact hnot (List.mem_of_getElem? hx)
  omega
end Mat
namespace Go.Proofs.Ytchhfpaicdhjbaa
open Go.RowKit Go.Kin Mat
open Fq (sum)
set_option maxRecDepth 100000
set_option linter.unusedVariables false

theorem kernel_bad (a : Option Addr) (n c : Nat) (M : List (List Nat)) (w : World) (h : RdM w a n c M) (hv : ¬ ValidL M) :
    Calls Try.prog 17 #[.slice a n c] w fun e w' => e = .returned (.tuple #[.slice none 0 0, .int .i64 1]) ∧ w = w' := by
  have hd := decide_eq_false hv
  go_enter Try.func17, Try.ntmps17
  go_wp2_with (go_at_call 15; refine (valid_any _ _ _ _ _ h).mono ?_; rw [hd]; rintro e w' ⟨rfl, rfl⟩)
  go_ret2
  exact ⟨rfl, rfl⟩

/-- The basis out of the free columns F. -/
def kerM (s : EState) (F : List Nat) : Mat := fun r => kerV s (F.getD r 0) s.piv.length

theorem kerv_start {w : World} {g k col : Nat} {s : EState} (h : Blk vb 5 w g (mrow k fun _ => 0)) : Blk vb 5 (w.setCell ⟨g, col, none⟩ (.int .u8 1)) g (mrow k (kerV s col 0)) := by
  have := h.set col 1
  rw [mrow_set _ _ (by omega)] at this
  exact this
theorem kerv_step {w : World} {g k col q p y : Nat} {s : EState} (h : Blk vb 5 w g (mrow k (kerV s col q))) (hp : s.piv[q]? = some p) (hy : y < 256) (hyq : Fq.of y = s.R q col) : Blk vb 5 (w.setCell ⟨g, p, none⟩ (.int .u8 (y : Int))) g (mrow k (kerV s col (q + 1))) := by
  have := h.set p y
  rw [mrow_set _ _ hy] at this
  rw [mrow_congr (g := fun c => if c = p then Fq.of y else kerV s col q c) fun c _ => ?_]
  · exact this
  · show (if s.piv[q]? = some c then s.R q col else kerV s col q c) = _
    rw [hp, hyq]
    by_cases e : c = p
    · rw [if_pos e, e, if_pos rfl]
    · rw [if_neg e, if_neg (fun h => e (by cases h; rfl))]

set_option maxHeartbeats 4000000 in
theorem kernel_any (a : Option Addr) (n c k : Nat) (f : Mat) (w : World) (h : RdM w a n c (mlist n k f)) (hv : VM n k) :
    Calls Try.prog 17 #[.slice a n c] w fun e w' => ∃ oa oc, e = .returned (.tuple #[.slice oa (freeC (elimE n f k).piv k).length oc, .int .i64 0]) ∧ MatR w' w.heap.size oa (freeC (elimE n f k).piv k).length oc k (kerM (elimE n f k) (freeC (elimE n f k).piv k)) ∧ Below w.heap.size w w' := by
  have hd := decide_eq_true (hv.valid f)
  have hc := hv.cols f
  have hn := hv.hn; have hk := hv.hk
  obtain ⟨s, hss⟩ : ∃ s, s = elimE n f k := ⟨_, rfl⟩
  have hech : Ech n k s := by rw [hss]; exact ech_elim n _ k
  have hpl := hech.len
  obtain ⟨t, ht⟩ : ∃ t, t = s.piv.length := ⟨_, rfl⟩
  rw [← ht] at hpl
  rw [← hss]
  have HSS := Lib.hid hss; have HT := Lib.hid ht; have HECH := Lib.hid hech
  obtain ⟨i0, hi, hz0, hz1, hz2⟩ := info_parts info5
  obtain ⟨i1, hi1, hy0, hy1, hy2⟩ := info_parts infoB
  have u0 := Try.underlying34
  have u1 := Try.underlying22
  have H := Lib.hid h
  clear h hv hss ht hech
  go_enter Try.func17, Try.ntmps17
  go_wp2_with (first
    | (go_at_call 15; refine (valid_any _ _ _ _ _ H.out).mono ?_; rw [hd]; rintro e w' ⟨rfl, rfl⟩)
    | (go_at_call 46; refine (eliminate_nil _ _ _ _ _ _ H.out (by omega) (by omega)).mono ?_; rw [← HSS.out]; rintro e w2 ⟨rfl, ⟨ra, rc, pa, pc, h1, h2, h3⟩, h4⟩; rw [← HT.out] at h1 h3; have HE := Lib.hid h1; have HM2 := Lib.hid h2; have HO2 := Lib.hid h3; have HB2 := Lib.hid h4; clear h1 h2 h3 h4)
    | (go_at_call 45; refine (columns_any _ _ _ _ _ (H.out.fw HB2.out)).mono ?_; rw [hc]; rintro e w' ⟨rfl, rfl⟩))
  go_loopw [5, 6, 7, 8, 9, 10, 18] (fun ba p _ _ _ _ i wr => ∃ (col ps m : Nat) (oa : Option Addr) (oc : Nat), col ≤ k ∧ m ≤ col ∧ i = .int .i64 (col : Int) ∧ p = .int .i64 (ps : Int) ∧ ba = .slice oa m oc ∧ Hid ((freeC s.piv col).length = m) ∧ Hid (Passed s ps col) ∧ Hid (MatR wr w2.heap.size oa m oc k (kerM s (freeC s.piv col))) ∧ Hid (Below w2.heap.size w2 wr)) (fun _ _ _ _ _ _ i _ => k - (intOf i).toNat)
  case atStart => exact ⟨0, 0, 0, none, 0, by omega, by omega, rfl, rfl, rfl, rfl, passed_zero s, MatR.nil _ _ _ _, below_refl w2⟩
  case round =>
    obtain ⟨col, ps, m, oa, oc, hcol, hmc, rfl, rfl, rfl, hF, hP, hM, hbe⟩ := hrel
    have d1 := (HE.out.fw hbe.out).c1
    by_cases hlt : col < k
    · have i2 : (col : Int) < (k : Int) := by omega
      have hcol1 : Hid (Below w2.heap.size w2 wr) := hbe
      by_cases hpv : s.piv[ps]? = some col
      · have hps : ps < t := by rw [HT.out]; exact (List.getElem?_eq_some_iff.1 hpv).1
        obtain ⟨gp, rfl, _, z1, _, curp, hcurp⟩ := HO2.out.cell (i := ps) (x := (col : Int)) (by rw [List.getElem?_map, hpv]; rfl)
        have z2 := (cellBelow hbe.out (lt_of_cell z1)).trans z1
        unfold vi at z2
        have i3 : (ps : Int) < (t : Int) := by omega
        have e2 : (((col : Nat) : Int) == ((col : Nat) : Int)) = true := by simp
        have hP2 := Lib.hid (passed_pivot HECH.out hP.out hpv)
        have hF2 := Lib.hid (freeC_pivot (List.mem_of_getElem? hpv))
        clear hpv z1 hcurp
        go_wp2_with fail
        go_roundw
        case rel => exact ⟨col + 1, ps + 1, m, oa, oc, by omega, by omega, by go_num, by go_num, rfl, by rw [hF2.out]; exact hF.out, hP2.out, by rw [hF2.out]; exact hM.out, hbe.out⟩
        case measure => simp [intOf]; omega
      · obtain ⟨hnot, hP2'⟩ := passed_free HECH.out hP.out hpv
        have hP2 := Lib.hid hP2'
        have hF2 := Lib.hid (freeC_free hnot)
        have HNOT := Lib.hid hnot
        clear hP2' hnot
        have hgd : Hid (∀ x, s.piv[ps]? = some x → x ≠ col) := fun x hx e => hpv (by rw [hx, e])
        clear hpv
        rename World => wo
        have q9 := hbe.out.size
        have HPRE : Hid (∀ w3, Blk vb 5 w3 wo.heap.size (mrow k fun _ => 0) → Below wo.heap.size wo w3 → (∃ xv, w3.cell? ⟨wo.heap.size, col, none⟩ = some xv) ∧ w3.frozen? ⟨wo.heap.size, col, none⟩ = false ∧ w3.cell? ⟨w.heap.size, 1, none⟩ = some (.slice pa t pc) ∧ (w3.setCell ⟨wo.heap.size, col, none⟩ (.int .u8 1)).cell? ⟨w.heap.size, 1, none⟩ = some (.slice pa t pc) ∧ Hid (Blk vb 5 (w3.setCell ⟨wo.heap.size, col, none⟩ (.int .u8 1)) wo.heap.size (mrow k (kerV s col 0))) ∧ Hid (Below wo.heap.size wo (w3.setCell ⟨wo.heap.size, col, none⟩ (.int .u8 1)))) := by
          intro w3 hk3 hb3
          have ne1 : wo.heap.size ≠ w.heap.size := by have := HE.out.lt; omega
          exact ⟨⟨_, hk3.cell (mrow_get _ hlt)⟩, hk3.frozen col, ((HE.out.fw hbe.out).fw hb3).c1, (((HE.out.fw hbe.out).fw hb3).other ⟨wo.heap.size, col, none⟩ (.int .u8 1) ne1).c1, kerv_start (s := s) hk3, hb3.setCell (p := ⟨wo.heap.size, col, none⟩) (Nat.le_refl _) _⟩
        rcases Nat.lt_or_ge ps t with hps | hps
        · obtain ⟨pp, hpp⟩ : ∃ pp, s.piv[ps]? = some pp := ⟨_, List.getElem?_eq_getElem (by rw [← HT.out]; omega)⟩
          obtain ⟨gp, rfl, _, z1, _, curp, hcurp⟩ := HO2.out.cell (i := ps) (x := (pp : Int)) (by rw [List.getElem?_map, hpp]; rfl)
          have z2 := (cellBelow hbe.out (lt_of_cell z1)).trans z1
          unfold vi at z2
          have i3 : (ps : Int) < (t : Int) := by omega
          have e2 : (((pp : Nat) : Int) == ((col : Nat) : Int)) = false := by have := hgd.out pp hpp; simp; omega
          clear hpp z1 hcurp
          go_wp2_with (first | (go_at_call 45; refine (columns_any _ _ _ _ _ (H.out.fw (bt HB2.out hbe.out))).mono ?_; rw [hc]; rintro e w' ⟨rfl, rfl⟩) | (at_make; refine wpList_make_blk rfl (.tmp 42) (.tmp 42) 34 rfl vb 0 5 i0 u0 hi hz0 hz1 rfl _ _ _ _ k rfl rfl rfl rfl (by rw [hz2]; omega) (by omega) ?_; intro w3 hk3 hb3 hs3; rw [mrow_zero] at hk3; have HD := Lib.hid (HPRE.out w3 hk3 hb3); obtain ⟨⟨xv, x1⟩, x2, d3, d4, HX3, HB3⟩ := HD.out; clear hk3 hs3 hb3 HD))
          clear d1 d3
          go_loopw [9, 10, 52] (fun _ _ i wr => ∃ q : Nat, q ≤ t ∧ i = .int .i64 (q : Int) ∧ Hid (Blk vb 5 wr wo.heap.size (mrow k (kerV s col q))) ∧ Hid (Below wo.heap.size wo wr)) (fun _ _ i _ => t - (intOf i).toNat)
          case atStart => exact ⟨0, by omega, rfl, HX3.out, HB3.out⟩
          case round =>
            clear d4 x1 x2
            obtain ⟨q, hq, rfl, hX, hb5⟩ := hrel
            have hbw := Lib.hid (bt hbe.out hb5.out)
            by_cases hlq : q < t
            · have j2 : (q : Int) < (t : Int) := by omega
              have j3 : (q : Int) < (n : Int) := by omega
              obtain ⟨p, hp⟩ : ∃ p, s.piv[q]? = some p := ⟨_, List.getElem?_eq_getElem (by rw [← HT.out]; omega)⟩
              have hpk := HECH.out.lt p (List.mem_of_getElem? hp)
              obtain ⟨gq, hgq, _, z3, _, curq, hcurq⟩ := HO2.out.cell (i := q) (x := (p : Int)) (by rw [List.getElem?_map, hp]; rfl)
              cases hgq
              have z4 := (cellBelow hbw.out (lt_of_cell z3)).trans z3
              unfold vi at z4
              have j5 : (p : Int) < (k : Int) := by omega
              obtain ⟨o, rra, rrc, rfl, hBo, q1, _, how, _⟩ := HM2.out.at (show q < n by omega)
              have q2 := (cellBelow hbw.out (lt_of_cell q1)).trans q1
              obtain ⟨g, rfl, _, y1, _, curg, hcurg⟩ := how.cell (mrow_get _ hlt)
              have y2 := (cellBelow hbw.out (lt_of_cell y1)).trans y1
              obtain ⟨y, hy⟩ : ∃ y, y = (s.R q col).n := ⟨_, rfl⟩
              have by' : y < 256 := by rw [hy]; exact (s.R q col).h
              have HY : Hid (Fq.of y = s.R q col) := by show _ = _; rw [hy, Fq.of_val]
              rw [← hy] at y2
              unfold vb at y2
              have d0 := (HE.out.fw hbw.out).c0
              obtain ⟨xv2, x3⟩ : ∃ xv, wr.cell? ⟨wo.heap.size, p, none⟩ = some xv := ⟨_, hX.out.cell (mrow_get _ hpk)⟩
              have x4 := hX.out.frozen p
              have HX2 := Lib.hid (kerv_step hX.out hp by' HY.out)
              clear hp z3 hcurq hX how hcurg q1 y1 hy
              go_wp2_with fail
              go_roundw
              case rel => exact ⟨q + 1, by omega, by go_num, HX2.out, hb5.out.setCell (p := ⟨wo.heap.size, p, none⟩) (Nat.le_refl _) _⟩
              case measure => simp [intOf]; omega
            · have hqt : q = t := by omega
              subst hqt
              have b6 := below_alloc (.cells (row vh [hdr k wo.heap.size]) 34 (0, 0)) (below_refl wr)
              have B6 := Lib.hid b6
              obtain ⟨L, h3, h4⟩ := hM.out
              have H3 := Lib.hid ((h3.fw hb5.out).fw b6); have H4 := Lib.hid h4
              have K6 := Lib.hid (hX.out.fw b6)
              have N6 := Lib.hid (rd_new vh 34 wr [hdr k wo.heap.size] (n := 1) rfl (by omega))
              have sz6 : w2.heap.size ≤ (wr.alloc (.cells (row vh [hdr k wo.heap.size]) 34 (0, 0))).heap.size := Nat.le_trans hbw.out.size b6.size
              clear hM h3 h4 hX b6
              go_wp2_with (at_builtin; refine wpList_append_rd rfl (.tmp 71) (.tmp 73) 22 rfl vh vh_one w2.heap.size 34 i1 (.slice none 0 0) 24 u1 hi1 hy0 hy1 hy2 rfl oa m oc L rfl H3.out (some ⟨wr.heap.size, 0, none⟩) 1 1 [hdr k wo.heap.size] rfl N6.out (by unfold maxLen; omega) (by omega) sz6 ?_; intro sa c2 w7 hown7 hgr7)
              go_roundw
              case rel =>
                have hown6 := K6.out.own (B := 0) (Nat.zero_le _) (by rw [mrow_length]; unfold maxLen; omega)
                rw [mrow_length] at hown6
                have hM7 := matR_push (f := kerM s (freeC s.piv col)) H3.out (fun i g hg => ((H4.out i g hg).fw hb5.out).fw B6.out) hown6 hown7 hgr7
                refine ⟨col + 1, ps, m + 1, sa, c2, by omega, by omega, by go_num, rfl, rfl, ?_, hP2.out, ?_, ?_⟩
                · show (freeC s.piv (col + 1)).length = m + 1
                  rw [hF2.out, List.length_append, hF.out]; rfl
                · rw [hF2.out]
                  refine hM7.congr fun i c hi _ => ?_
                  unfold kerM
                  rw [List.getD_eq_getElem?_getD, List.getD_eq_getElem?_getD]
                  by_cases hij : i < m
                  · rw [if_pos hij, List.getElem?_append_left (by rw [hF.out]; exact hij)]
                  · rw [if_neg hij, List.getElem?_append_right (by rw [hF.out]; omega), hF.out, show i - m = 0 by omega, ← HT.out]; rfl
                · exact (bt hbw.out B6.out).grown hgr7 (bt hbw.out B6.out).size (fun x hx => own_ge H3.out hx)
              case measure => simp [intOf]; omega
        · have i3 : decide ((ps : Int) < (t : Int)) = false := by simp; omega
          go_wp2_with (first | (go_at_call 45; refine (columns_any _ _ _ _ _ (H.out.fw (bt HB2.out hbe.out))).mono ?_; rw [hc]; rintro e w' ⟨rfl, rfl⟩) | (at_make; refine wpList_make_blk rfl (.tmp 42) (.tmp 42) 34 rfl vb 0 5 i0 u0 hi hz0 hz1 rfl _ _ _ _ k rfl rfl rfl rfl (by rw [hz2]; omega) (by omega) ?_; intro w3 hk3 hb3 hs3; rw [mrow_zero] at hk3; have HD := Lib.hid (HPRE.out w3 hk3 hb3); obtain ⟨⟨xv, x1⟩, x2, d3, d4, HX3, HB3⟩ := HD.out; clear hk3 hs3 hb3 HD))
          clear d1 d3
          go_loopw [9, 10, 52] (fun _ _ i wr => ∃ q : Nat, q ≤ t ∧ i = .int .i64 (q : Int) ∧ Hid (Blk vb 5 wr wo.heap.size (mrow k (kerV s col q))) ∧ Hid (Below wo.heap.size wo wr)) (fun _ _ i _ => t - (intOf i).toNat)
          case atStart => exact ⟨0, by omega, rfl, HX3.out, HB3.out⟩
          case round =>
            clear d4 x1 x2
            obtain ⟨q, hq, rfl, hX, hb5⟩ := hrel
            have hbw := Lib.hid (bt hbe.out hb5.out)
            by_cases hlq : q < t
            · have j2 : (q : Int) < (t : Int) := by omega
              have j3 : (q : Int) < (n : Int) := by omega
              obtain ⟨p, hp⟩ : ∃ p, s.piv[q]? = some p := ⟨_, List.getElem?_eq_getElem (by rw [← HT.out]; omega)⟩
              have hpk := HECH.out.lt p (List.mem_of_getElem? hp)
              obtain ⟨gq, hgq, _, z3, _, curq, hcurq⟩ := HO2.out.cell (i := q) (x := (p : Int)) (by rw [List.getElem?_map, hp]; rfl)
              subst hgq
              have z4 := (cellBelow hbw.out (lt_of_cell z3)).trans z3
              unfold vi at z4
              have j5 : (p : Int) < (k : Int) := by omega
              obtain ⟨o, rra, rrc, rfl, hBo, q1, _, how, _⟩ := HM2.out.at (show q < n by omega)
              have q2 := (cellBelow hbw.out (lt_of_cell q1)).trans q1
              obtain ⟨g, rfl, _, y1, _, curg, hcurg⟩ := how.cell (mrow_get _ hlt)
              have y2 := (cellBelow hbw.out (lt_of_cell y1)).trans y1
              obtain ⟨y, hy⟩ : ∃ y, y = (s.R q col).n := ⟨_, rfl⟩
              have by' : y < 256 := by rw [hy]; exact (s.R q col).h
              have HY : Hid (Fq.of y = s.R q col) := by show _ = _; rw [hy, Fq.of_val]
              rw [← hy] at y2
              unfold vb at y2
              have d0 := (HE.out.fw hbw.out).c0
              obtain ⟨xv2, x3⟩ : ∃ xv, wr.cell? ⟨wo.heap.size, p, none⟩ = some xv := ⟨_, hX.out.cell (mrow_get _ hpk)⟩
              have x4 := hX.out.frozen p
              have HX2 := Lib.hid (kerv_step hX.out hp by' HY.out)
              clear hp z3 hcurq hX how hcurg q1 y1 hy
              go_wp2_with fail
              go_roundw
              case rel => exact ⟨q + 1, by omega, by go_num, HX2.out, hb5.out.setCell (p := ⟨wo.heap.size, p, none⟩) (Nat.le_refl _) _⟩
              case measure => simp [intOf]; omega
            · have hqt : q = t := by omega
              subst hqt
              have b6 := below_alloc (.cells (row vh [hdr k wo.heap.size]) 34 (0, 0)) (below_refl wr)
              have B6 := Lib.hid b6
              obtain ⟨L, h3, h4⟩ := hM.out
              have H3 := Lib.hid ((h3.fw hb5.out).fw b6); have H4 := Lib.hid h4
              have K6 := Lib.hid (hX.out.fw b6)
              have N6 := Lib.hid (rd_new vh 34 wr [hdr k wo.heap.size] (n := 1) rfl (by omega))
              have sz6 : w2.heap.size ≤ (wr.alloc (.cells (row vh [hdr k wo.heap.size]) 34 (0, 0))).heap.size := Nat.le_trans hbw.out.size b6.size
              clear hM h3 h4 hX b6
              go_wp2_with (at_builtin; refine wpList_append_rd rfl (.tmp 71) (.tmp 73) 22 rfl vh vh_one w2.heap.size 34 i1 (.slice none 0 0) 24 u1 hi1 hy0 hy1 hy2 rfl oa m oc L rfl H3.out (some ⟨wr.heap.size, 0, none⟩) 1 1 [hdr k wo.heap.size] rfl N6.out (by unfold maxLen; omega) (by omega) sz6 ?_; intro sa c2 w7 hown7 hgr7)
              go_roundw
              case rel =>
                have hown6 := K6.out.own (B := 0) (Nat.zero_le _) (by rw [mrow_length]; unfold maxLen; omega)
                rw [mrow_length] at hown6
                have hM7 := matR_push (f := kerM s (freeC s.piv col)) H3.out (fun i g hg => ((H4.out i g hg).fw hb5.out).fw B6.out) hown6 hown7 hgr7
                refine ⟨col + 1, ps, m + 1, sa, c2, by omega, by omega, by go_num, rfl, rfl, ?_, hP2.out, ?_, ?_⟩
                · show (freeC s.piv (col + 1)).length = m + 1
                  rw [hF2.out, List.length_append, hF.out]; rfl
                · rw [hF2.out]
                  refine hM7.congr fun i c hi _ => ?_
                  unfold kerM
                  rw [List.getD_eq_getElem?_getD, List.getD_eq_getElem?_getD]
                  by_cases hij : i < m
                  · rw [if_pos hij, List.getElem?_append_left (by rw [hF.out]; exact hij)]
                  · rw [if_neg hij, List.getElem?_append_right (by rw [hF.out]; omega), hF.out, show i - m = 0 by omega, ← HT.out]; rfl
                · exact (bt hbw.out B6.out).grown hgr7 (bt hbw.out B6.out).size (fun x hx => own_ge H3.out hx)
              case measure => simp [intOf]; omega
    · have hck : col = k := by omega
      subst hck
      clear i0 hi hz0 hz1 hz2 i1 hi1 hy0 hy1 hy2 u0 u1
      go_wp2_with fail
      go_ret2
      refine ⟨oa, oc, by rw [hF.out]; rfl, by rw [hF.out]; exact hM.out.mono HB2.out.size, bt HB2.out hbe.out⟩
end Go.Proofs.Ytchhfpaicdhjbaa
