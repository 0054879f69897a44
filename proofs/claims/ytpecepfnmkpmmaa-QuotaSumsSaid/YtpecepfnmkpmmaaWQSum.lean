/- QuotaSums: the walk. -/
import Derived.Test.YtpecepfnmkpmmaaQu
import Derived.Test.YtpecepfnmkpmmaaQp
import Derived.Test.YtpecepfnmkpmmaaQl
import Derived.Test.YtpecepfnmkpmmaaTail
namespace Go.Proofs.Ytpecepfnmkpmmaa
open Go.RowKit Go.Kin Quo
set_option maxRecDepth 100000
set_option linter.unusedVariables false
def rowZ (X Y : Tab) (j u : Nat) : List Int := (List.range u).map fun o => at2 X j o + at2 Y j o
theorem rowZ_snoc (X Y : Tab) (j u : Nat) : rowZ X Y j (u + 1) = rowZ X Y j u ++ [at2 X j u + at2 Y j u] := by
  unfold rowZ
  rw [List.range_succ, List.map_append]; rfl
theorem sumZ_snoc {X Y : Tab} {n j : Nat} (hj : j < n) : (sumZ X Y n).take (j + 1) = (sumZ X Y n).take j ++ [rowZ X Y j n] := by
  rw [List.take_add_one, sumZ_row hj]; rfl
theorem balp_bound {T : Tab} (hT : VT T) {u : Nat} (hu : u ≤ T.length) : -200000000000000 ≤ ((balF T).take u).sum ∧ ((balF T).take u).sum ≤ 200000000000000 := by
  have key : ∀ u : Nat, u ≤ T.length → -((u : Int) * 13194139533312) ≤ ((balF T).take u).sum ∧ ((balF T).take u).sum ≤ (u : Int) * 13194139533312 := by
    intro u
    induction u with
    | zero => intro _; simp
    | succ u ih =>
      intro hu
      have h1 := ih (by omega)
      have h2 := bal_bound hT (i := u) (by omega)
      unfold maxC at h2
      rw [sum_snoc (get_some (show u < (balF T).length by rw [bal_length]; omega) 0), Int.natCast_add, Int.add_mul]
      omega
  have h1 := key u hu
  have h2 := hT.1
  have h3 : (u : Int) * 13194139533312 ≤ 12 * 13194139533312 := Int.mul_le_mul_of_nonneg_right (by omega) (by omega)
  omega
set_option maxHeartbeats 4000000 in
theorem qsum_ok (xa ya : Option Addr) (n xc yc : Nat) (X Y : Tab) (w : World) (h : RdT w xa n xc X) (h2 : RdT w ya n yc Y) (hX : VT X) (hY : VT Y) (lx : Low X 12 549755813888) (ly : Low Y 12 549755813888) :
    Calls Try.prog 3 #[.slice xa n xc, .slice ya n yc] w fun e w' => e = .returned (.bool true) ∧ Below w.heap.size w w' := by
  obtain ⟨i0, hi, hz0, hz1, hz2⟩ := info_parts infoI
  obtain ⟨i1, hi1, hy0, hy1, hy2⟩ := info_parts infoS
  have u0 := Try.underlying26
  have u1 := Try.underlying22
  have hn : n ≤ 12 := by have := hX.1; rw [h.len] at this; exact this
  have d1 := decide_eq_true hX
  have d2 := decide_eq_true hY
  have d3 := decide_eq_true lx
  have d4 := decide_eq_true ly
  have e1 : ((n : Int) != (n : Int)) = false := by simp
  have H := Lib.hid h; have H2 := Lib.hid h2
  have hlx := Lib.hid h.len; have hly := Lib.hid h2.len
  have HX := Lib.hid hX; have HY := Lib.hid hY
  have HZ := Lib.hid (sumZ_vt hX hY hlx.out hly.out lx ly)
  clear h h2 hX hY lx ly
  go_enter Try.func3, Try.ntmps3
  go_wp2_with (first
    | (go_at_call 14; refine (awake_any _).mono ?_; rintro e w1 ⟨rfl, b1⟩; have HX1 := Lib.hid (H.out.fw b1); have HY1 := Lib.hid (H2.out.fw b1); have B1 := Lib.hid b1; clear b1)
    | (go_at_call_of 15 xa; refine (valid_any _ _ _ X _ HX1.out).mono ?_; rw [d1]; rintro e w' ⟨rfl, rfl⟩)
    | (go_at_call_of 15 ya; refine (valid_any _ _ _ Y _ HY1.out).mono ?_; rw [d2]; rintro e w' ⟨rfl, rfl⟩)
    | (go_at_call_of 16 xa; refine (low_any _ _ _ X _ _ _ HX1.out).mono ?_; rw [d3]; rintro e w' ⟨rfl, rfl⟩)
    | (go_at_call_of 16 ya; refine (low_any _ _ _ Y _ _ _ HY1.out).mono ?_; rw [d4]; rintro e w' ⟨rfl, rfl⟩)
    | fail)
  have b0 := below_alloc (.cells #[] 26 (0, 0)) (below_refl w1)
  have O0 := Lib.hid ((blk_new vh 26 w1 []).own (Nat.le_refl _) (by simp [maxLen]))
  go_loopw [5, 6, 7, 8] (fun s i _ _ wr => ∃ (j : Nat) (za : Option Addr) (zc : Nat) (L : List (Option Addr × Nat × Nat)), j ≤ n ∧ i = .int .i64 (j : Int) ∧ s = .slice za j zc ∧ Hid (OwnTL wr w1.heap.size wr.heap.size za j zc L ((sumZ X Y n).take j)) ∧ Hid (Below w1.heap.size w1 wr)) (fun _ i _ _ _ => n - (intOf i).toNat)
  case atStart => exact ⟨0, _, 0, [], by omega, rfl, rfl, OwnTL.empty O0.out _, b0⟩
  case round =>
    obtain ⟨j, za, zc, L, hj, rfl, rfl, hO, hbe⟩ := hrel
    rename World => wo
    by_cases hlt : j < n
    · have i2 : (j : Int) < (n : Int) := by omega
      have b1 := below_alloc (.cells #[] 3 (0, 0)) (below_refl wo)
      have N1 := Lib.hid ((blk_new vi 3 wo []).own (Nat.le_refl _) (by simp [maxLen]))
      go_wp2_with fail
      go_loopw [7, 8] (fun s i wr => ∃ (u : Nat) (ra : Option Addr) (rc : Nat), u ≤ n ∧ i = .int .i64 (u : Int) ∧ s = .slice ra u rc ∧ Hid (Own vi wo.heap.size 3 wr ra u rc (rowZ X Y j u)) ∧ Hid (Below wo.heap.size wo wr)) (fun _ i _ => n - (intOf i).toNat)
      case atStart => exact ⟨0, _, 0, by omega, rfl, rfl, N1.out, b1⟩
      case round =>
        obtain ⟨u, ra, rc, hu, rfl, rfl, hR, hbe2⟩ := hrel
        by_cases hlt2 : u < n
        · have i3 : (u : Int) < (n : Int) := by omega
          obtain ⟨rx, hx1, hx2, hx3, hx4, hx5⟩ := HX.out.cell (i := j) (j := u) (by rw [hlx.out]; exact hlt) (by rw [hlx.out]; exact hlt2)
          obtain ⟨ry, hy1', hy2', hy3, hy4, hy5⟩ := HY.out.cell (i := j) (j := u) (by rw [hly.out]; exact hlt) (by rw [hly.out]; exact hlt2)
          obtain ⟨ax, cx, bx, ox, rfl, c1, hrx⟩ := (HX1.out.fw (bt hbe.out hbe2.out)).at hx1
          obtain ⟨ay, cy, b2, oy, rfl, c2, hry⟩ := (HY1.out.fw (bt hbe.out hbe2.out)).at hy1'
          rw [hx2, hlx.out] at c1 hrx
          rw [hy2', hly.out] at c2 hry
          obtain ⟨g1, p1, rfl, c3⟩ := hrx.cell u _ hx3
          obtain ⟨g2, p2, rfl, c4⟩ := hry.cell u _ hy3
          unfold vi at c3 c4
          obtain ⟨x, hx⟩ : ∃ x, x = at2 X j u := ⟨_, rfl⟩
          obtain ⟨y, hy⟩ : ∃ y, y = at2 Y j u := ⟨_, rfl⟩
          rw [← hx] at c3 hx4 hx5; rw [← hy] at c4 hy4 hy5
          unfold maxC at hx5 hy5
          have k1 := iwq (a := x + y) (by omega)
          have k2 := w64q (a := x + y) (by omega)
          have HS := Lib.hid (rowZ_snoc X Y j u)
          rw [← hx, ← hy] at HS
          have hb3 := below_alloc (.cells (row vi [x + y]) 3 (0, 0)) (fdrewN (below_refl wr) 1)
          have R3 : Hid (Own vi wo.heap.size 3 (wr.drew.alloc (.cells (row vi [x + y]) 3 (0, 0))) ra u rc (rowZ X Y j u)) := hR.out.fw hb3
          have N3 : Hid (Rd vi (wr.drew.alloc (.cells (row vi [x + y]) 3 (0, 0))) (some ⟨wr.heap.size, 0, none⟩) 1 1 [x + y]) := rd_new vi 3 wr.drew [x + y] (n := 1) rfl (by omega)
          have HB3 : Hid (Below wr.heap.size wr (wr.drew.alloc (.cells (row vi [x + y]) 3 (0, 0)))) := hb3
          clear hx1 hx2 hx3 hx4 hx5 hy1' hy2' hy3 hy4 hy5 hrx hry hx hy hb3
          go_wp2_with fail
          refine wp_region_still_tail_move 16 0 [(16, 7), (16, 14), (16, 6), (16, 4), (16, 5), (16, 3), (16, 1), (16, 2), (16, 13), (16, 11), (16, 12), (16, 10), (16, 8), (16, 9), (16, 0), (17, 1), (17, 2), (17, 3), (17, 4), (17, 5), (17, 6), (17, 7), (17, 8), (17, 9), (17, 10), (17, 11), (17, 12), (17, 13), (17, 14), (17, 15)] _ _ (by kernel_rfl) rfl rfl (by kernel_rfl) (by kernel_rfl) (by kernel_rfl) (by kernel_rfl) (by kernel_rfl) (by kernel_rfl) (by kernel_rfl) (by kernel_rfl) (fun _ _ _ _ h => h) ?_
          simp only [List.take_succ_cons, List.take_zero, List.drop_succ_cons, List.drop_zero]
          repeat still_step
          refine wpStill_nil ?_
          change wpList _ _ _ _ _ wr.drew
          clear k1 k2
          go_wp2_with (first
            | (at_builtin; refine wpList_append_rd rfl (.tmp 58) (.tmp 74) 26 rfl vi vi_one wo.heap.size 3 i0 (.int .i64 0) 8 u0 hi hz0 hz1 hz2 rfl ra u rc (rowZ X Y j u) rfl R3.out (some ⟨wr.heap.size, 0, none⟩) 1 1 [x + y] rfl N3.out (by unfold maxLen; omega) (by omega) (Nat.le_trans hbe2.out.size HB3.out.size) ?_; intro sa c2 w7 hown7 hgr7; have R7 := Lib.hid hown7; have B7 : Hid (Below wo.heap.size wo w7) := (bt hbe2.out HB3.out).grown hgr7 (Nat.le_trans hbe2.out.size HB3.out.size) (fun x hx => (R3.out.ownsRow.lt x hx).1); clear hown7 hgr7)
            | fail)
          go_roundw
          case rel =>
            refine ⟨u + 1, sa, c2, by omega, by go_num, rfl, ?_, B7.out⟩
            rw [HS.out]
            exact R7.out
          case measure => simp [intOf]; omega
        · have hun : u = n := by omega
          subst hun
          have hb3 := below_alloc (.cells (row vh [(ra, u, rc)]) 26 (0, 0)) (below_refl wr)
          have O3 := Lib.hid ((hO.out.fw hbe2.out).fw hb3)
          have R3 := Lib.hid (hR.out.fw hb3)
          have N3 := Lib.hid (rd_new vh 26 wr [(ra, u, rc)] (n := 1) rfl (by omega))
          have HB3 := Lib.hid (bt (bt hbe.out hbe2.out) hb3)
          have hsz := Lib.hid hbe.out.size
          clear hb3
          go_wp2_with (first
            | (at_builtin; refine wpList_append_rd rfl (.tmp 76) (.tmp 78) 22 rfl vh vh_one w1.heap.size 26 i1 (.slice none 0 0) 24 u1 hi1 hy0 hy1 hy2 rfl za j zc L rfl O3.out.1 (some ⟨wr.heap.size, 0, none⟩) 1 1 [(ra, u, rc)] rfl N3.out (by unfold maxLen; omega) (by omega) HB3.out.size ?_; intro sa c2 w7 hown7 hgr7; have O7 := Lib.hid (O3.out.snoc R3.out hsz.out hown7 hgr7); have B7 : Hid (Below w1.heap.size w1 w7) := HB3.out.grown hgr7 HB3.out.size (fun x hx => (O3.out.1.ownsRow.lt x hx).1); clear hown7 hgr7)
            | fail)
          go_roundw
          case rel =>
            refine ⟨j + 1, sa, c2, L ++ [(ra, u, rc)], by omega, by go_num, rfl, ?_, B7.out⟩
            rw [sumZ_snoc hlt]
            exact O7.out
          case measure => simp [intOf]; omega
    · have hjn : j = n := by omega
      subst hjn
      rw [List.take_of_length_le (by rw [sumZ_length]; exact Nat.le_refl _)] at hO
      have HZ1 := Lib.hid hO.out.ownT.rdt
      have HX2 := Lib.hid (HX1.out.fw hbe.out)
      have HY2 := Lib.hid (HY1.out.fw hbe.out)
      have BB := Lib.hid (bt B1.out hbe.out)
      clear hO
      go_wp2_with (first
        | (go_at_call_of 17 xa; refine (Balance_any _ _ _ X _ HX2.out HX.out).mono ?_; rintro e w3 ⟨g3, rfl, hg3, r3, b3⟩; have HY3 := Lib.hid (HY2.out.fw b3); have HZ3 := Lib.hid (HZ1.out.fw b3); have B3 := Lib.hid (bt BB.out b3); have R3 := Lib.hid r3; clear hg3 r3 b3)
        | (go_at_call_of 17 ya; refine (Balance_any _ _ _ Y _ HY3.out HY.out).mono ?_; rintro e w4 ⟨g4, rfl, hg4, r4, b4⟩; have HZ4 := Lib.hid (HZ3.out.fw b4); have B4 := Lib.hid (bt B3.out b4); have R4 := Lib.hid r4; have R34 := Lib.hid (R3.out.fw b4); clear hg4 r4 b4)
        | (go_at_call_of 17 za; refine (Balance_any _ _ _ (sumZ X Y j) _ HZ4.out HZ.out).mono ?_; rintro e w5 ⟨g5, rfl, hg5, r5, b5⟩; have B5 := Lib.hid (bt B4.out b5); have R5 := Lib.hid r5; have R35 := Lib.hid (R34.out.fw b5); have R45 := Lib.hid (R4.out.fw b5); clear hg5 r5 b5)
        | fail)
      have hZl := Lib.hid (sumZ_length X Y j)
      have HSUM := Lib.hid (bal_sum HZ.out)
      go_loopw [15, 16] (fun s i wr => ∃ u : Nat, u ≤ j ∧ i = .int .i64 (u : Int) ∧ s = .int .i64 (((balF (sumZ X Y j)).take u).sum) ∧ Hid (Drw w5 wr)) (fun _ i _ => j - (intOf i).toNat)
      case atStart => exact ⟨0, by omega, rfl, rfl, Drw.refl w5⟩
      case round =>
        obtain ⟨u, hu, rfl, rfl, hd5⟩ := hrel
        rename World => wo2
        by_cases hlt : u < j
        · have i3 : (u : Int) < (j : Int) := by omega
          have x0 : (balF X)[u]? = some ((balF X).getD u 0) := get_some (by rw [bal_length, hlx.out]; exact hlt) 0
          have y0 : (balF Y)[u]? = some ((balF Y).getD u 0) := get_some (by rw [bal_length, hly.out]; exact hlt) 0
          have z0 : (balF (sumZ X Y j))[u]? = some ((balF (sumZ X Y j)).getD u 0) := get_some (by rw [bal_length, hZl.out]; exact hlt) 0
          have xb := bal_bound HX.out (i := u) (by rw [hlx.out]; exact hlt)
          have yb := bal_bound HY.out (i := u) (by rw [hly.out]; exact hlt)
          have zb := bal_bound HZ.out (i := u) (by rw [hZl.out]; exact hlt)
          have hadd := bal_add HX.out HY.out hlx.out hly.out HZ.out hlt
          have hsn := sum_snoc z0
          have hpb := balp_bound HZ.out (u := u) (by rw [hZl.out]; exact hu)
          obtain ⟨x, hx⟩ : ∃ x, x = (balF X).getD u 0 := ⟨_, rfl⟩
          obtain ⟨y, hy⟩ : ∃ y, y = (balF Y).getD u 0 := ⟨_, rfl⟩
          obtain ⟨z, hz⟩ : ∃ z, z = (balF (sumZ X Y j)).getD u 0 := ⟨_, rfl⟩
          obtain ⟨p, hp⟩ : ∃ p, p = ((balF (sumZ X Y j)).take u).sum := ⟨_, rfl⟩
          rw [← hz] at z0 zb hsn hadd; rw [← hx] at x0 xb hadd; rw [← hy] at y0 yb hadd; rw [← hp] at hsn hpb ⊢
          subst hadd
          have c1 := (R35.out.fw hd5.out.fw).cell x0
          have c2 := (R45.out.fw hd5.out.fw).cell y0
          have c3 := (R5.out.fw hd5.out.fw).cell z0
          unfold vi at c1 c2 c3
          unfold maxC at xb yb zb
          have k1 := iwq (a := x + y) (by omega)
          have k2 := w64q (a := x + y) (by omega)
          have k3 := iwq (a := p + (x + y)) (by omega)
          have k4 := w64q (a := p + (x + y)) (by omega)
          have k5 : (x + y != x + y) = false := by simp
          have HS := Lib.hid hsn
          clear x0 y0 z0 xb yb zb hx hy hz hp hpb hsn
          go_wp2_with fail
          go_quiet (fail)
          go_wp2_with fail
          clear k1 k2 k3 k4 k5
          go_roundw
          case rel => exact ⟨u + 1, by omega, by go_num, by rw [HS.out], hd5.out.step nq⟩
          case measure => simp [intOf]; omega
        · have huj : u = j := by omega
          subst huj
          rw [List.take_of_length_le (by rw [bal_length, hZl.out]; exact Nat.le_refl _), HSUM.out]
          go_wp2_with fail
          go_ret
          exact ⟨rfl, bt B5.out hd5.out.fw⟩
theorem walk_QuotaSums (xa : Option Addr) (n xc : Nat) (X : Tab) (ya : Option Addr) (m yc : Nat) (Y : Tab) (w : World) (h : RdT w xa n xc X) (hy : ∀ m ∈ X, ∀ z ∈ m, -9223372036854775808 ≤ z ∧ z ≤ 9223372036854775807) (h2 : RdT w ya m yc Y) (hy2 : ∀ m ∈ Y, ∀ z ∈ m, -9223372036854775808 ≤ z ∧ z ≤ 9223372036854775807) :
    Calls Try.prog 3 #[.slice xa n xc, .slice ya m yc] w fun e w' => e = .returned (.bool true) ∧ Below w.heap.size w w' := by
  clear hy hy2
  by_cases hX : VT X
  · by_cases hY : VT Y
    · by_cases hnm : n = m
      · subst hnm
        by_cases lx : Low X 12 549755813888
        · by_cases ly : Low Y 12 549755813888
          · exact qsum_ok xa ya n xc yc X Y w h h2 hX hY lx ly
          · have d1 := decide_eq_true hX
            have d2 := decide_eq_true hY
            have d3 := decide_eq_true lx
            have d4 := decide_eq_false ly
            have e1 : ((n : Int) != (n : Int)) = false := by simp
            have H := Lib.hid h; have H2 := Lib.hid h2
            clear h h2 hX hY lx ly
            go_enter Try.func3, Try.ntmps3
            go_wp2_with (first
              | (go_at_call 14; refine (awake_any _).mono ?_; rintro e w1 ⟨rfl, b1⟩; have HX1 := Lib.hid (H.out.fw b1); have HY1 := Lib.hid (H2.out.fw b1); have B1 := Lib.hid b1; clear b1)
              | (go_at_call_of 15 xa; refine (valid_any _ _ _ X _ HX1.out).mono ?_; rw [d1]; rintro e w' ⟨rfl, rfl⟩)
              | (go_at_call_of 15 ya; refine (valid_any _ _ _ Y _ HY1.out).mono ?_; rw [d2]; rintro e w' ⟨rfl, rfl⟩)
              | (go_at_call_of 16 xa; refine (low_any _ _ _ X _ _ _ HX1.out).mono ?_; rw [d3]; rintro e w' ⟨rfl, rfl⟩)
              | (go_at_call_of 16 ya; refine (low_any _ _ _ Y _ _ _ HY1.out).mono ?_; rw [d4]; rintro e w' ⟨rfl, rfl⟩)
              | fail)
            go_ret
            exact ⟨rfl, B1.out⟩
        · have d1 := decide_eq_true hX
          have d2 := decide_eq_true hY
          have d3 := decide_eq_false lx
          have e1 : ((n : Int) != (n : Int)) = false := by simp
          have H := Lib.hid h; have H2 := Lib.hid h2
          clear h h2 hX hY lx
          go_enter Try.func3, Try.ntmps3
          go_wp2_with (first
            | (go_at_call 14; refine (awake_any _).mono ?_; rintro e w1 ⟨rfl, b1⟩; have HX1 := Lib.hid (H.out.fw b1); have HY1 := Lib.hid (H2.out.fw b1); have B1 := Lib.hid b1; clear b1)
            | (go_at_call_of 15 xa; refine (valid_any _ _ _ X _ HX1.out).mono ?_; rw [d1]; rintro e w' ⟨rfl, rfl⟩)
            | (go_at_call_of 15 ya; refine (valid_any _ _ _ Y _ HY1.out).mono ?_; rw [d2]; rintro e w' ⟨rfl, rfl⟩)
            | (go_at_call_of 16 xa; refine (low_any _ _ _ X _ _ _ HX1.out).mono ?_; rw [d3]; rintro e w' ⟨rfl, rfl⟩)
            | fail)
          go_ret
          exact ⟨rfl, B1.out⟩
      · have d1 := decide_eq_true hX
        have d2 := decide_eq_true hY
        have e1 : ((n : Int) != (m : Int)) = true := by simp; omega
        have l1 := h.lim
        have l2 := h2.lim
        have H := Lib.hid h; have H2 := Lib.hid h2
        clear h h2 hX hY
        go_enter Try.func3, Try.ntmps3
        go_wp2_with (first
          | (go_at_call 14; refine (awake_any _).mono ?_; rintro e w1 ⟨rfl, b1⟩; have HX1 := Lib.hid (H.out.fw b1); have HY1 := Lib.hid (H2.out.fw b1); have B1 := Lib.hid b1; clear b1)
          | (go_at_call_of 15 xa; refine (valid_any _ _ _ X _ HX1.out).mono ?_; rw [d1]; rintro e w' ⟨rfl, rfl⟩)
          | (go_at_call_of 15 ya; refine (valid_any _ _ _ Y _ HY1.out).mono ?_; rw [d2]; rintro e w' ⟨rfl, rfl⟩)
          | fail)
        go_ret
        exact ⟨rfl, B1.out⟩
    · have d1 := decide_eq_true hX
      have d2 := decide_eq_false hY
      have H := Lib.hid h; have H2 := Lib.hid h2
      clear h h2 hX hY
      go_enter Try.func3, Try.ntmps3
      go_wp2_with (first
        | (go_at_call 14; refine (awake_any _).mono ?_; rintro e w1 ⟨rfl, b1⟩; have HX1 := Lib.hid (H.out.fw b1); have HY1 := Lib.hid (H2.out.fw b1); have B1 := Lib.hid b1; clear b1)
        | (go_at_call_of 15 xa; refine (valid_any _ _ _ X _ HX1.out).mono ?_; rw [d1]; rintro e w' ⟨rfl, rfl⟩)
        | (go_at_call_of 15 ya; refine (valid_any _ _ _ Y _ HY1.out).mono ?_; rw [d2]; rintro e w' ⟨rfl, rfl⟩)
        | fail)
      go_ret
      exact ⟨rfl, B1.out⟩
  · have d1 := decide_eq_false hX
    have H := Lib.hid h
    clear h h2 hX
    go_enter Try.func3, Try.ntmps3
    go_wp2_with (first
      | (go_at_call 14; refine (awake_any _).mono ?_; rintro e w1 ⟨rfl, b1⟩; have HX1 := Lib.hid (H.out.fw b1); have B1 := Lib.hid b1; clear b1)
      | (go_at_call_of 15 xa; refine (valid_any _ _ _ X _ HX1.out).mono ?_; rw [d1]; rintro e w' ⟨rfl, rfl⟩)
      | fail)
    go_ret
    exact ⟨rfl, B1.out⟩
end Go.Proofs.Ytpecepfnmkpmmaa
