/- kinkeepref04.Product, Apply. -/
import Derived.Test.YtchhfpaicdhjbaaMt
namespace Go.Proofs.Ytchhfpaicdhjbaa
open Go.RowKit Go.Kin Mat
open Fq (sum)
set_option maxRecDepth 100000

theorem prod_first (P : Mat) (f g : Mat) (i c a b : Nat) : grid P i c a b = setEl (grid P i c) i c (sum (fun t => f i t * g t c) 0) a b := by
  show _ = setEl (grid P i c) i c 0 a b
  rw [← grid_at P i c, setEl_self]

set_option maxHeartbeats 2000000 in
theorem rprod_any (a b : Option Addr) (n c q cb L : Nat) (f g : Mat) (w : World) (h1 : RdM w a n c (mlist n q f)) (h2 : RdM w b q cb (mlist q L g)) (hn : n ≤ 1000) (hL : L ≤ 1000) (hz : q = 0 → L = 0) :
    Calls Try.prog 22 #[.slice a n c, .slice b q cb] w fun e w' => ∃ oa oc, e = .returned (.slice oa n oc) ∧ MatB w' w.heap.size oa n oc L (mul q f g) ∧ Below w.heap.size w w' := by
  have hC : colsL (mlist q L g) = L := by
    rcases Nat.eq_zero_or_pos q with e | e
    · rw [e, colsL_zero, hz e]
    · exact colsL_mlist g e
  have hq := h2.lim
  have H1 := Lib.hid h1; have H2 := Lib.hid h2
  clear h1 h2 hz
  go_enter Try.func22, Try.ntmps22
  go_wp2_with (first
    | (go_at_call 19; refine (rcols_any _ _ _ _ _ H2.out).mono ?_; rw [hC]; rintro e w' ⟨rfl, rfl⟩)
    | (go_at_call 24; refine (rzero_any n L _ hn hL).mono ?_; rintro e w1 ⟨oa, oc, rfl, hM1, hb1⟩; have HM1 := Lib.hid hM1; have HB1 := Lib.hid hb1; clear hM1 hb1))
  go_loopw [6, 7, 8] (fun i _ _ wr => ∃ j : Nat, j ≤ n ∧ i = .int .i64 (j : Int) ∧ Hid (MatB wr w.heap.size oa n oc L (grid (mul q f g) j 0)) ∧ Hid (Below w.heap.size w wr)) (fun i _ _ _ => n - (intOf i).toNat)
  case atStart => exact ⟨0, by omega, rfl, HM1.out.congr fun a b _ _ => by rw [grid_zero], HB1.out⟩
  case round =>
    obtain ⟨i, hi, rfl, hM, hbe⟩ := hrel
    by_cases hlt : i < n
    · have i2 : (i : Int) < (n : Int) := by omega
      go_wp2_with fail
      go_loopw [7, 8] (fun i' _ wr => ∃ c : Nat, c ≤ L ∧ i' = .int .i64 (c : Int) ∧ Hid (MatB wr w.heap.size oa n oc L (grid (mul q f g) i c)) ∧ Hid (Below w.heap.size w wr)) (fun i _ _ => L - (intOf i).toNat)
      case atStart => exact ⟨0, by omega, rfl, hM.out, hbe.out⟩
      case round =>
        obtain ⟨c, hc, rfl, hM2, hbe2⟩ := hrel
        by_cases hlc : c < L
        · have i3 : (c : Int) < (L : Int) := by omega
          go_wp2_with (go_at_call 19; refine (rcols_any _ _ _ _ _ (H2.out.fw hbe2.out)).mono ?_; rw [hC]; rintro e w' ⟨rfl, rfl⟩)
          go_loopw [8] (fun i' wr => ∃ j : Nat, j ≤ q ∧ i' = .int .i64 (j : Int) ∧ Hid (MatB wr w.heap.size oa n oc L (setEl (grid (mul q f g) i c) i c (sum (fun t => f i t * g t c) j))) ∧ Hid (Below w.heap.size w wr)) (fun i _ => q - (intOf i).toNat)
          case atStart => exact ⟨0, by omega, rfl, hM2.out.congr fun a b _ _ => prod_first _ _ _ _ _ _ _, hbe2.out⟩
          case round =>
            obtain ⟨j, hj, rfl, hM3, hbe3⟩ := hrel
            by_cases hlj : j < q
            · have i4 : (j : Int) < (q : Int) := by omega
              obtain ⟨m1, ra, rn, rc, ba, ob, hm1, rfl, c1, hrow1⟩ := (H1.out.fw hbe3.out).row hlt
              obtain rfl := mlist_row hm1
              obtain rfl : q = rn := by have := hrow1.len; rwa [mrow_length] at this
              obtain ⟨bx, ox, rfl, d1⟩ := hrow1.cell j _ (mrow_get _ hlj)
              obtain ⟨m2, rb, rm, rd, bb, ob2, hm2, rfl, c2, hrow2⟩ := (H2.out.fw hbe3.out).row hlj
              obtain rfl := mlist_row hm2
              obtain rfl : L = rm := by have := hrow2.len; rwa [mrow_length] at this
              obtain ⟨bz, oz, rfl, d2⟩ := hrow2.cell c _ (mrow_get _ hlc)
              obtain ⟨x, hx⟩ : ∃ x, x = (f i j).n := ⟨_, rfl⟩
              obtain ⟨y, hy⟩ : ∃ y, y = (g j c).n := ⟨_, rfl⟩
              have x1 : x < 256 := by rw [hx]; exact (f i j).h
              have y1 : y < 256 := by rw [hy]; exact (g j c).h
              obtain ⟨o, gg, rfl, hBo, hBg, c3, hK, hset⟩ := hM3.out.at hlt
              have d3 := hK.cell (mrow_get _ hlc)
              rw [setEl_at] at d3
              obtain ⟨z, hz⟩ : ∃ z, z = (sum (fun t => f i t * g t c) j).n := ⟨_, rfl⟩
              have z1 : z < 256 := by rw [hz]; exact (sum (fun t => f i t * g t c) j).h
              rw [← hx] at d1
              rw [← hy] at d2
              rw [← hz] at d3
              unfold vb at d1 d2 d3
              have f3 := hK.frozen c
              have hm := Gf.mul_lt x y x1
              obtain ⟨u, hu⟩ : ∃ u, u = Gf.mul x y := ⟨_, rfl⟩
              have X : bits .xor .u8 (z : Int) (u : Int) = ((z ^^^ u : Nat) : Int) := u8_xor_nat z u z1 (by rw [hu]; exact hm)
              have HV : Hid (Fq.of (z ^^^ u) = sum (fun t => f i t * g t c) (j + 1)) := by
                show _ = _
                rw [Fq.of_add z1 (by rw [hu]; exact hm), hu, Fq.of_mul x1 y1, hx, hy, hz, Fq.of_val, Fq.of_val, Fq.of_val]; rfl
              have HS := Lib.hid (hset c (z ^^^ u) (Gf.xor_lt z1 (by rw [hu]; exact hm)))
              have E1 := fun wx => rmul4_any x y wx x1 y1
              rw [← hu] at E1
              clear hK hset hrow1 hrow2 hm1 hm2 hx hy hz hu
              go_wp2_with fail
              go_still_tail 29, (by kernel_rfl)
              refine wpStill_step (fun K hK => ?_)
              go_simp
              refine ⟨_, (E1 _).mono (fun e w' h => ⟨h.1, h.2.symm⟩), hK _ ?_⟩
              clear hK K
              repeat still_step
              refine wpStill_nil ?_
              change wpList _ _ _ _ _ wr.drew
              go_wp2_with fail
              go_roundw
              case rel =>
                refine ⟨j + 1, by omega, by go_num, MatB.drew (HS.out.congr fun a b _ _ => ?_), (hbe3.out.setCell (p := ⟨gg, c, none⟩) hBg _).drew⟩
                rw [setEl_twice, HV.out]
              case measure => simp [intOf]; omega
            · have hjq : j = q := by omega
              subst hjq
              go_wp2_with fail
              go_roundw
              case rel => exact ⟨c + 1, by omega, by go_num, hM3.out.congr fun a b _ _ => grid_step (mul j f g) _ _ _ _, hbe3.out⟩
              case measure => simp [intOf]; omega
        · have hcL : c = L := by omega
          subst hcL
          go_wp2_with (go_at_call 19; refine (rcols_any _ _ _ _ _ (H2.out.fw hbe2.out)).mono ?_; rw [hC]; rintro e w' ⟨rfl, rfl⟩)
          go_roundw
          case rel => exact ⟨i + 1, by omega, by go_num, hM2.out.congr fun a b _ hb => grid_row _ _ _ _ _ hb, hbe2.out⟩
          case measure => simp [intOf]; omega
    · have hin : i = n := by omega
      subst hin
      go_wp2_with fail
      go_ret
      exact ⟨oa, oc, rfl, hM.out.congr fun a b ha _ => grid_done _ _ _ _ ha, hbe.out⟩

set_option maxHeartbeats 2000000 in
theorem rapply_pos (a b : Option Addr) (n c q cb L : Nat) (f g : Mat) (w : World) (h1 : RdM w a n c (mlist n q f)) (h2 : RdM w b q cb (mlist q L g)) (hn : n ≤ 1000) (hL : L ≤ 1000) (hz : 0 < q) :
    Calls Try.prog 27 #[.slice a n c, .slice b q cb] w fun e w' => ∃ oa oc, e = .returned (.slice oa n oc) ∧ MatB w' w.heap.size oa n oc L (mul q f g) ∧ Below w.heap.size w w' := by
  obtain ⟨m0, rb0, rm0, rd0, bb0, ob0, hm0, rfl, c00, hrow0⟩ := h2.row (i := 0) hz
  obtain rfl := mlist_row hm0
  obtain rfl : L = rm0 := by have := hrow0.len; rwa [mrow_length] at this
  rw [Nat.add_zero] at c00
  clear hm0 hrow0
  have hq := h2.lim
  have H1 := Lib.hid h1; have H2 := Lib.hid h2
  clear h1 h2
  have iz : (0 : Int) < (q : Int) := by omega
  go_enter Try.func27, Try.ntmps27
  go_wp2_with (first
    | (go_at_call 24; refine (rzero_any n L _ hn hL).mono ?_; rintro e w1 ⟨oa, oc, rfl, hM1, hb1⟩; have HM1 := Lib.hid hM1; have HB1 := Lib.hid hb1; clear hM1 hb1))
  go_loopw [7, 8, 9] (fun i _ _ wr => ∃ j : Nat, j ≤ n ∧ i = .int .i64 (j : Int) ∧ Hid (MatB wr w.heap.size oa n oc L (grid (mul q f g) j 0)) ∧ Hid (Below w.heap.size w wr)) (fun i _ _ _ => n - (intOf i).toNat)
  case atStart => exact ⟨0, by omega, rfl, HM1.out.congr fun a b _ _ => by rw [grid_zero], HB1.out⟩
  case round =>
    obtain ⟨i, hi, rfl, hM, hbe⟩ := hrel
    by_cases hlt : i < n
    · have i2 : (i : Int) < (n : Int) := by omega
      go_wp2_with fail
      go_loopw [8, 9] (fun i' _ wr => ∃ c : Nat, c ≤ L ∧ i' = .int .i64 (c : Int) ∧ Hid (MatB wr w.heap.size oa n oc L (grid (mul q f g) i c)) ∧ Hid (Below w.heap.size w wr)) (fun i _ _ => L - (intOf i).toNat)
      case atStart => exact ⟨0, by omega, rfl, hM.out, hbe.out⟩
      case round =>
        obtain ⟨c, hc, rfl, hM2, hbe2⟩ := hrel
        by_cases hlc : c < L
        · have i3 : (c : Int) < (L : Int) := by omega
          go_wp2_with fail
          go_loopw [9] (fun i' wr => ∃ j : Nat, j ≤ q ∧ i' = .int .i64 (j : Int) ∧ Hid (MatB wr w.heap.size oa n oc L (setEl (grid (mul q f g) i c) i c (sum (fun t => f i t * g t c) j))) ∧ Hid (Below w.heap.size w wr)) (fun i _ => q - (intOf i).toNat)
          case atStart => exact ⟨0, by omega, rfl, hM2.out.congr fun a b _ _ => prod_first _ _ _ _ _ _ _, hbe2.out⟩
          case round =>
            obtain ⟨j, hj, rfl, hM3, hbe3⟩ := hrel
            by_cases hlj : j < q
            · have i4 : (j : Int) < (q : Int) := by omega
              obtain ⟨m1, ra, rn, rc, ba, ob, hm1, rfl, c1, hrow1⟩ := (H1.out.fw hbe3.out).row hlt
              obtain rfl := mlist_row hm1
              obtain rfl : q = rn := by have := hrow1.len; rwa [mrow_length] at this
              obtain ⟨bx, ox, rfl, d1⟩ := hrow1.cell j _ (mrow_get _ hlj)
              obtain ⟨m2, rb, rm, rd, bb, ob2, hm2, hbb, c2, hrow2⟩ := (H2.out.fw hbe3.out).row hlj
              cases hbb
              obtain rfl := mlist_row hm2
              obtain rfl : L = rm := by have := hrow2.len; rwa [mrow_length] at this
              obtain ⟨bz, oz, rfl, d2⟩ := hrow2.cell c _ (mrow_get _ hlc)
              obtain ⟨x, hx⟩ : ∃ x, x = (f i j).n := ⟨_, rfl⟩
              obtain ⟨y, hy⟩ : ∃ y, y = (g j c).n := ⟨_, rfl⟩
              have x1 : x < 256 := by rw [hx]; exact (f i j).h
              have y1 : y < 256 := by rw [hy]; exact (g j c).h
              obtain ⟨o, gg, rfl, hBo, hBg, c3, hK, hset⟩ := hM3.out.at hlt
              have d3 := hK.cell (mrow_get _ hlc)
              rw [setEl_at] at d3
              obtain ⟨z, hz⟩ : ∃ z, z = (sum (fun t => f i t * g t c) j).n := ⟨_, rfl⟩
              have z1 : z < 256 := by rw [hz]; exact (sum (fun t => f i t * g t c) j).h
              rw [← hx] at d1
              rw [← hy] at d2
              rw [← hz] at d3
              unfold vb at d1 d2 d3
              have f3 := hK.frozen c
              have hm := Gf.mul_lt x y x1
              obtain ⟨u, hu⟩ : ∃ u, u = Gf.mul x y := ⟨_, rfl⟩
              have X : bits .xor .u8 (z : Int) (u : Int) = ((z ^^^ u : Nat) : Int) := u8_xor_nat z u z1 (by rw [hu]; exact hm)
              have HV : Hid (Fq.of (z ^^^ u) = sum (fun t => f i t * g t c) (j + 1)) := by
                show _ = _
                rw [Fq.of_add z1 (by rw [hu]; exact hm), hu, Fq.of_mul x1 y1, hx, hy, hz, Fq.of_val, Fq.of_val, Fq.of_val]; rfl
              have HS := Lib.hid (hset c (z ^^^ u) (Gf.xor_lt z1 (by rw [hu]; exact hm)))
              have E1 := fun wx => rmul4_any x y wx x1 y1
              rw [← hu] at E1
              clear hK hset hrow1 hrow2 hm1 hm2 hx hy hz hu
              go_wp2_with fail
              go_still_tail 29, (by kernel_rfl)
              refine wpStill_step (fun K hK => ?_)
              go_simp
              refine ⟨_, (E1 _).mono (fun e w' h => ⟨h.1, h.2.symm⟩), hK _ ?_⟩
              clear hK K
              repeat still_step
              refine wpStill_nil ?_
              change wpList _ _ _ _ _ wr.drew
              go_wp2_with fail
              go_roundw
              case rel =>
                refine ⟨j + 1, by omega, by go_num, MatB.drew (HS.out.congr fun a b _ _ => ?_), (hbe3.out.setCell (p := ⟨gg, c, none⟩) hBg _).drew⟩
                rw [setEl_twice, HV.out]
              case measure => simp [intOf]; omega
            · have hjq : j = q := by omega
              subst hjq
              go_wp2_with fail
              go_roundw
              case rel => exact ⟨c + 1, by omega, by go_num, hM3.out.congr fun a b _ _ => grid_step (mul j f g) _ _ _ _, hbe3.out⟩
              case measure => simp [intOf]; omega
        · have hcL : c = L := by omega
          subst hcL
          go_wp2_with fail
          go_roundw
          case rel => exact ⟨i + 1, by omega, by go_num, hM2.out.congr fun a b _ hb => grid_row _ _ _ _ _ hb, hbe2.out⟩
          case measure => simp [intOf]; omega
    · have hin : i = n := by omega
      subst hin
      go_wp2_with fail
      go_ret
      exact ⟨oa, oc, rfl, hM.out.congr fun a b ha _ => grid_done _ _ _ _ ha, hbe.out⟩

set_option maxHeartbeats 1000000 in
theorem rapply_zero (a b : Option Addr) (n c cb : Nat) (f : Mat) (M : List (List Nat)) (w : World) (h1 : RdM w a n c M) (hn : n ≤ 1000) :
    Calls Try.prog 27 #[.slice a n c, .slice b 0 cb] w fun e w' => ∃ oa oc, e = .returned (.slice oa n oc) ∧ MatB w' w.heap.size oa n oc 0 f ∧ Below w.heap.size w w' := by
  have Z : ∀ wx : World, Calls Try.prog 24 #[.int .i64 (n : Int), .int .i64 0] wx fun e w' => ∃ oa oc, e = .returned (.slice oa n oc) ∧ MatB w' wx.heap.size oa n oc 0 (fun _ _ => 0) ∧ Below wx.heap.size wx w' := fun wx => rzero_any n 0 wx hn (by omega)
  go_enter Try.func27, Try.ntmps27
  go_wp2_with (go_at_call 24; refine (Z _).mono ?_; rintro e w1 ⟨oa, oc, rfl, hM1, hb1⟩; have HM1 := Lib.hid hM1; have HB1 := Lib.hid hb1; clear hM1 hb1)
  clear Z
  go_loopw [7, 8, 9] (fun i _ _ wr => ∃ j : Nat, j ≤ n ∧ i = .int .i64 (j : Int) ∧ Hid (Drw w1 wr)) (fun i _ _ _ => n - (intOf i).toNat)
  case atStart => exact ⟨0, by omega, rfl, Drw.refl _⟩
  case round =>
    obtain ⟨i, hi, rfl, hd⟩ := hrel
    by_cases hlt : i < n
    · have i2 : (i : Int) < (n : Int) := by omega
      go_wp2_with fail
      go_loopw [8, 9] (fun i' _ wr => i' = .int .i64 0 ∧ Hid (Drw w1 wr)) (fun _ _ _ => 0)
      case atStart => exact ⟨rfl, hd.out⟩
      case round =>
        obtain ⟨rfl, hd2⟩ := hrel
        go_wp2_with fail
        go_roundw
        case rel => exact ⟨i + 1, by omega, by go_num, hd2.out⟩
        case measure => simp [intOf]; omega
    · have hin : i = n := by omega
      subst hin
      go_wp2_with fail
      go_ret
      exact ⟨oa, oc, rfl, (HM1.out.fw hd.out.fw).congr fun a b _ hb => by omega, bt HB1.out hd.out.fw⟩
/-- With blocks of length L, of which there are q. -/
theorem rapply_any (a b : Option Addr) (n c q cb L : Nat) (f g : Mat) (w : World) (h1 : RdM w a n c (mlist n q f)) (h2 : RdM w b q cb (mlist q L g)) (hn : n ≤ 1000) (hL : L ≤ 1000) (hz : q = 0 → L = 0) :
    Calls Try.prog 27 #[.slice a n c, .slice b q cb] w fun e w' => ∃ oa oc, e = .returned (.slice oa n oc) ∧ MatB w' w.heap.size oa n oc L (mul q f g) ∧ Below w.heap.size w w' := by
  rcases Nat.eq_zero_or_pos q with e | e
  · have := hz e
    subst this
    subst e
    exact rapply_zero a b n c cb _ _ w h1 hn
  · exact rapply_pos a b n c q cb L f g w h1 h2 hn hL e
end Go.Proofs.Ytchhfpaicdhjbaa
