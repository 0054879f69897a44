/- kinkeepref04.Identity, Cauchy, Vandermonde, Transpose, Product, Apply. -/
import Derived.Test.YtchhfpaicdhjbaaMr
import Derived.Test.YtchhfpaicdhjbaaMj
import Derived.StillTailTactics
namespace Mat
open Fq (sum)
/-- The rows ahead of r, and row r ahead of column c. -/
def grid (F : Mat) (r c : Nat) : Mat := fun i j => if i < r ∨ (i = r ∧ j < c) then F i j else 0
theorem grid_zero (F : Mat) (i j : Nat) : grid F 0 0 i j = 0 := by unfold grid; rw [if_neg (by omega)]
theorem grid_step (F : Mat) (r c i j : Nat) : setEl (grid F r c) r c (F r c) i j = grid F r (c + 1) i j := by
  unfold setEl grid
  by_cases h : i = r ∧ j = c
  · obtain ⟨rfl, rfl⟩ := h
    rw [if_pos ⟨rfl, rfl⟩, if_pos (by omega)]
  · rw [if_neg h]
    by_cases h2 : i < r ∨ (i = r ∧ j < c)
    · rw [if_pos h2, if_pos (by omega)]
    · rw [if_neg h2, if_neg (by omega)]
theorem grid_row (F : Mat) (r k i j : Nat) (hj : j < k) : grid F r k i j = grid F (r + 1) 0 i j := by
  unfold grid
  by_cases h2 : i < r ∨ (i = r ∧ j < k)
  · rw [if_pos h2, if_pos (by omega)]
  · rw [if_neg h2, if_neg (by omega)]
theorem grid_done (F : Mat) (n i j : Nat) (hi : i < n) : grid F n 0 i j = F i j := by unfold grid; rw [if_pos (by omega)]
theorem grid_at (F : Mat) (r c : Nat) : grid F r c r c = 0 := by unfold grid; rw [if_neg (by omega)]
theorem setEl_twice (f : Mat) (r c : Nat) (x y : Fq) (i j : Nat) : setEl (setEl f r c x) r c y i j = setEl f r c y i j := by
  unfold setEl; split <;> rfl
theorem setEl_self (f : Mat) (r c i j : Nat) : setEl f r c (f r c) i j = f i j := by
  unfold setEl; split
  · next h => rw [h.1, h.2]
  · rfl
theorem setEl_at (f : Mat) (r c : Nat) (x : Fq) : setEl f r c x r c = x := if_pos ⟨rfl, rfl⟩
theorem setEl_congr {f g : Mat} {r c : Nat} {x y : Fq} {i j : Nat} (h : f i j = g i j) (hx : x = y) : setEl f r c x i j = setEl g r c y i j := by
  unfold setEl; rw [h, hx]
/-- The rows' elements column by column. -/
def tr (F : Mat) : Mat := fun i j => F j i
theorem setEl_tr (f : Mat) (r c : Nat) (x : Fq) (i j : Nat) : setEl (tr f) r c x i j = tr (setEl f c r x) i j := by
  unfold setEl tr
  show (if i = r ∧ j = c then x else f j i) = if j = c ∧ i = r then x else f j i
  by_cases h : i = r ∧ j = c
  · rw [if_pos h, if_pos ⟨h.2, h.1⟩]
  · rw [if_neg h, if_neg (fun h2 => h ⟨h2.2, h2.1⟩)]
def cauchyM (k : Nat) : Mat := fun j i => Fq.inv (Fq.of ((k + j) ^^^ i))
def vanderM : Mat := fun i j => Fq.pow (Fq.of i) j
theorem xor_ne {a b : Nat} (h : a ≠ b) : a ^^^ b ≠ 0 := fun e => h (by
  have : a ^^^ (a ^^^ b) = a ^^^ 0 := by rw [e]
  rw [← Nat.xor_assoc, Nat.xor_self, Nat.zero_xor, Nat.xor_zero] at this
  exact this.symm)
end Mat
namespace Go.Proofs.Ytchhfpaicdhjbaa
open Go.RowKit Go.Kin Mat
open Fq (sum)
set_option maxRecDepth 100000

theorem xor_arg {x k j c : Nat} (hx : x = (k + j) ^^^ c) (h1 : k + j < 256) (h2 : c < 256) (h3 : x < 256) : IntKind.u8.wrap (bits .xor .i64 (IntKind.i64.wrap ((k : Int) + (j : Int))) (c : Int)) = ((x : Nat) : Int) := by
  have := i64_xor_nat (k + j) c (by omega) (by omega)
  rw [IntWalk.i64_in _ (by omega), show (k : Int) + (j : Int) = ((k + j : Nat) : Int) by simp, this, ← hx, IntKind.wrap_u8']
  omega
theorem MatB.drew {w : World} {B : Nat} {a : Option Addr} {n c k : Nat} {f : Mat} (h : MatB w B a n c k f) : MatB w.drew B a n c k f := h.fw (below_refl w).drew
theorem rident_any (n : Nat) (w : World) (hn : n ≤ 1000) :
    Calls Try.prog 37 #[.int .i64 (n : Int)] w fun e w' => ∃ oa oc, e = .returned (.slice oa n oc) ∧ MatB w' w.heap.size oa n oc n idm ∧ Below w.heap.size w w' := by
  go_enter Try.func37, Try.ntmps37
  go_wp2_with (go_at_call 24; refine (rzero_any n n _ hn hn).mono ?_; rintro e w1 ⟨oa, oc, rfl, hM1, hb1⟩; have HM1 := Lib.hid hM1; have HB1 := Lib.hid hb1; clear hM1 hb1)
  go_loopw [4] (fun i wr => ∃ j : Nat, j ≤ n ∧ i = .int .i64 (j : Int) ∧ Hid (MatB wr w.heap.size oa n oc n (fun a b => if a < j ∧ a = b then 1 else 0)) ∧ Hid (Below w.heap.size w wr)) (fun i _ => n - (intOf i).toNat)
  case atStart => exact ⟨0, by omega, rfl, HM1.out.congr fun a b _ _ => by rw [if_neg (by omega)], HB1.out⟩
  case round =>
    obtain ⟨j, hj, rfl, hM, hbe⟩ := hrel
    by_cases hlt : j < n
    · have i2 : (j : Int) < (n : Int) := by omega
      obtain ⟨o, g, rfl, hBo, hBg, c1, hK, hset⟩ := hM.out.at hlt
      obtain ⟨z, c2⟩ : ∃ z, wr.cell? ⟨g, j, none⟩ = some z := ⟨_, hK.cell (mrow_get _ hlt)⟩
      have f2 := hK.frozen j
      have HS := Lib.hid (hset j 1 (by omega))
      clear hK hset
      go_wp2_with fail
      go_roundw
      case rel =>
        refine ⟨j + 1, by omega, by go_num, HS.out.congr fun a b _ _ => ?_, hbe.out.setCell (p := ⟨g, j, none⟩) hBg _⟩
        unfold setEl
        by_cases h : a = j ∧ b = j
        · rw [if_pos h, if_pos (by omega)]; rfl
        · rw [if_neg h]
          show (if a < j ∧ a = b then (1 : Fq) else 0) = _
          by_cases h2 : a < j ∧ a = b
          · rw [if_pos h2, if_pos (by omega)]
          · rw [if_neg h2, if_neg (by omega)]
      case measure => simp [intOf]; omega
    · have hjr : j = n := by omega
      subst hjr
      go_wp2_with fail
      go_ret
      refine ⟨oa, oc, rfl, hM.out.congr fun a b ha _ => ?_, hbe.out⟩
      unfold idm
      by_cases h : a = b
      · rw [if_pos ⟨ha, h⟩, if_pos h]
      · rw [if_neg (fun h2 => h h2.2), if_neg h]

set_option maxHeartbeats 1000000 in
theorem rcauchy_any (r k : Nat) (w : World) (hr : r ≤ 64) (hk : k ≤ 64) :
    Calls Try.prog 43 #[.int .i64 (r : Int), .int .i64 (k : Int)] w fun e w' => ∃ oa oc, e = .returned (.slice oa r oc) ∧ MatB w' w.heap.size oa r oc k (cauchyM k) ∧ Below w.heap.size w w' := by
  go_enter Try.func43, Try.ntmps43
  go_wp2_with (go_at_call 24; refine (rzero_any r k _ (by omega) (by omega)).mono ?_; rintro e w1 ⟨oa, oc, rfl, hM1, hb1⟩; have HM1 := Lib.hid hM1; have HB1 := Lib.hid hb1; clear hM1 hb1)
  go_loopw [6, 7] (fun i _ wr => ∃ j : Nat, j ≤ r ∧ i = .int .i64 (j : Int) ∧ Hid (MatB wr w.heap.size oa r oc k (grid (cauchyM k) j 0)) ∧ Hid (Below w.heap.size w wr)) (fun i _ _ => r - (intOf i).toNat)
  case atStart => exact ⟨0, by omega, rfl, HM1.out.congr fun a b _ _ => by rw [grid_zero], HB1.out⟩
  case round =>
    obtain ⟨j, hj, rfl, hM, hbe⟩ := hrel
    by_cases hlt : j < r
    · have i2 : (j : Int) < (r : Int) := by omega
      go_wp2_with fail
      go_loopw [7] (fun i wr => ∃ c : Nat, c ≤ k ∧ i = .int .i64 (c : Int) ∧ Hid (MatB wr w.heap.size oa r oc k (grid (cauchyM k) j c)) ∧ Hid (Below w.heap.size w wr)) (fun i _ => k - (intOf i).toNat)
      case atStart => exact ⟨0, by omega, rfl, hM.out, hbe.out⟩
      case round =>
        obtain ⟨c, hc, rfl, hM2, hbe2⟩ := hrel
        by_cases hlc : c < k
        · have i3 : (c : Int) < (k : Int) := by omega
          obtain ⟨o, g, rfl, hBo, hBg, c1, hK, hset⟩ := hM2.out.at hlt
          obtain ⟨z, c2⟩ : ∃ z, wr.cell? ⟨g, c, none⟩ = some z := ⟨_, hK.cell (mrow_get _ hlc)⟩
          have f2 := hK.frozen c
          obtain ⟨x, hx⟩ : ∃ x, x = (k + j) ^^^ c := ⟨_, rfl⟩
          have x1 : x < 256 := by rw [hx]; exact Gf.xor_lt (by omega) (by omega)
          have X := Lib.hid (xor_arg hx (by omega) (by omega) x1)
          have HX : Hid (Fq.of (Gf.inv x) = cauchyM k j c) := by show _ = _; rw [Fq.of_inv x1, hx]; rfl
          have HS := Lib.hid (hset c (Gf.inv x) (Gf.inv_lt x x1))
          have E1 := fun wx => rinv4_any x wx x1
          clear hK hset hx
          go_wp2_with fail
          go_still_tail 13, (by kernel_rfl)
          refine wpStill_step (fun K hK => ?_)
          go_simp
          rw [X.out]
          refine ⟨_, (E1 _).mono (fun e w' h => ⟨h.1, h.2.symm⟩), hK _ ?_⟩
          clear hK K
          repeat still_step
          refine wpStill_nil ?_
          change wpList _ _ _ _ _ wr.drew
          go_wp2_with fail
          go_roundw
          case rel =>
            refine ⟨c + 1, by omega, by go_num, MatB.drew (HS.out.congr fun a b _ _ => ?_), (hbe2.out.setCell (p := ⟨g, c, none⟩) hBg _).drew⟩
            rw [HX.out, grid_step]
          case measure => simp [intOf]; omega
        · have hck : c = k := by omega
          subst hck
          go_wp2_with fail
          go_roundw
          case rel => exact ⟨j + 1, by omega, by go_num, hM2.out.congr fun a b _ hb => grid_row _ _ _ _ _ hb, hbe2.out⟩
          case measure => simp [intOf]; omega
    · have hjr : j = r := by omega
      subst hjr
      go_wp2_with fail
      go_ret
      exact ⟨oa, oc, rfl, hM.out.congr fun a b ha _ => grid_done _ _ _ _ ha, hbe.out⟩

set_option maxHeartbeats 1000000 in
theorem rvander_any (r k : Nat) (w : World) (hr : r ≤ 64) (hk : k ≤ 64) :
    Calls Try.prog 44 #[.int .i64 (r : Int), .int .i64 (k : Int)] w fun e w' => ∃ oa oc, e = .returned (.slice oa r oc) ∧ MatB w' w.heap.size oa r oc k vanderM ∧ Below w.heap.size w w' := by
  go_enter Try.func44, Try.ntmps44
  go_wp2_with (go_at_call 24; refine (rzero_any r k _ (by omega) (by omega)).mono ?_; rintro e w1 ⟨oa, oc, rfl, hM1, hb1⟩; have HM1 := Lib.hid hM1; have HB1 := Lib.hid hb1; clear hM1 hb1)
  go_loopw [6, 7, 8] (fun i _ _ wr => ∃ j : Nat, j ≤ r ∧ i = .int .i64 (j : Int) ∧ Hid (MatB wr w.heap.size oa r oc k (grid vanderM j 0)) ∧ Hid (Below w.heap.size w wr)) (fun i _ _ _ => r - (intOf i).toNat)
  case atStart => exact ⟨0, by omega, rfl, HM1.out.congr fun a b _ _ => by rw [grid_zero], HB1.out⟩
  case round =>
    obtain ⟨j, hj, rfl, hM, hbe⟩ := hrel
    by_cases hlt : j < r
    · have i2 : (j : Int) < (r : Int) := by omega
      go_wp2_with fail
      go_loopw [7, 8] (fun x i wr => ∃ c y : Nat, c ≤ k ∧ y < 256 ∧ i = .int .i64 (c : Int) ∧ x = .int .u8 (y : Int) ∧ Hid (Fq.of y = vanderM j c) ∧ Hid (MatB wr w.heap.size oa r oc k (grid vanderM j c)) ∧ Hid (Below w.heap.size w wr)) (fun _ i _ => k - (intOf i).toNat)
      case atStart => exact ⟨0, 1, by omega, by omega, rfl, rfl, rfl, hM.out, hbe.out⟩
      case round =>
        obtain ⟨c, y, hc, by', rfl, rfl, hy, hM2, hbe2⟩ := hrel
        by_cases hlc : c < k
        · have i3 : (c : Int) < (k : Int) := by omega
          obtain ⟨o, g, rfl, hBo, hBg, c1, hK, hset⟩ := hM2.out.at hlt
          obtain ⟨z, c2⟩ : ∃ z, wr.cell? ⟨g, c, none⟩ = some z := ⟨_, hK.cell (mrow_get _ hlc)⟩
          have f2 := hK.frozen c
          have HS := Lib.hid (hset c y by')
          have hm := Gf.mul_lt y j by'
          clear hK hset
          go_wp2_with (go_at_call 33; refine (rmul4_any y j _ by' (by omega)).mono ?_; rintro e w' ⟨rfl, rfl⟩)
          go_roundw
          case rel =>
            refine ⟨c + 1, Gf.mul y j, by omega, hm, by go_num, rfl, ?_, HS.out.congr fun a b _ _ => ?_, hbe2.out.setCell (p := ⟨g, c, none⟩) hBg _⟩
            · show _ = _
              rw [Fq.of_mul by' (by omega), hy.out]; rfl
            · rw [hy.out, grid_step]
          case measure => simp [intOf]; omega
        · have hck : c = k := by omega
          subst hck
          go_wp2_with fail
          go_roundw
          case rel => exact ⟨j + 1, by omega, by go_num, hM2.out.congr fun a b _ hb => grid_row _ _ _ _ _ hb, hbe2.out⟩
          case measure => simp [intOf]; omega
    · have hjr : j = r := by omega
      subst hjr
      go_wp2_with fail
      go_ret
      exact ⟨oa, oc, rfl, hM.out.congr fun a b ha _ => grid_done _ _ _ _ ha, hbe.out⟩

set_option maxHeartbeats 1000000 in
theorem rtransp_any (a : Option Addr) (n c k : Nat) (f : Mat) (w : World) (h : RdM w a n c (mlist n k f)) (hv : VM n k) :
    Calls Try.prog 40 #[.slice a n c] w fun e w' => ∃ oa oc, e = .returned (.slice oa k oc) ∧ MatB w' w.heap.size oa k oc n (tr f) ∧ Below w.heap.size w w' := by
  have hC := hv.cols f
  have h1 := hv.hn
  have h2 := hv.hk
  have H := Lib.hid h
  clear h hv
  go_enter Try.func40, Try.ntmps40
  go_wp2_with (first
    | (go_at_call 19; refine (rcols_any _ _ _ _ _ H.out).mono ?_; rw [hC]; rintro e w' ⟨rfl, rfl⟩)
    | (go_at_call 24; refine (rzero_any k n _ (by omega) (by omega)).mono ?_; rintro e w1 ⟨oa, oc, rfl, hM1, hb1⟩; have HM1 := Lib.hid hM1; have HB1 := Lib.hid hb1; clear hM1 hb1))
  go_loopw [4, 5] (fun i _ wr => ∃ j : Nat, j ≤ n ∧ i = .int .i64 (j : Int) ∧ Hid (MatB wr w.heap.size oa k oc n (tr (grid f j 0))) ∧ Hid (Below w.heap.size w wr)) (fun i _ _ => n - (intOf i).toNat)
  case atStart => exact ⟨0, by omega, rfl, HM1.out.congr fun a b _ _ => by unfold tr; rw [grid_zero], HB1.out⟩
  case round =>
    obtain ⟨j, hj, rfl, hM, hbe⟩ := hrel
    by_cases hlt : j < n
    · have i2 : (j : Int) < (n : Int) := by omega
      go_wp2_with fail
      go_loopw [5] (fun i wr => ∃ c : Nat, c ≤ k ∧ i = .int .i64 (c : Int) ∧ Hid (MatB wr w.heap.size oa k oc n (tr (grid f j c))) ∧ Hid (Below w.heap.size w wr)) (fun i _ => k - (intOf i).toNat)
      case atStart => exact ⟨0, by omega, rfl, hM.out, hbe.out⟩
      case round =>
        obtain ⟨c, hc, rfl, hM2, hbe2⟩ := hrel
        obtain ⟨m, ra, rn, rc, ba, ob, hm, rfl, c0, hrow⟩ := (H.out.fw hbe2.out).row hlt
        obtain rfl := mlist_row hm
        obtain rfl : k = rn := by have := hrow.len; rwa [mrow_length] at this
        clear hm
        by_cases hlc : c < k
        · have i3 : (c : Int) < (k : Int) := by omega
          obtain ⟨bx, ox, rfl, d1⟩ := hrow.cell c _ (mrow_get _ hlc)
          obtain ⟨x, hx⟩ : ∃ x, x = (f j c).n := ⟨_, rfl⟩
          have x1 : x < 256 := by rw [hx]; exact (f j c).h
          have HX : Hid (Fq.of x = f j c) := by show _ = _; rw [hx, Fq.of_val]
          rw [← hx] at d1
          unfold vb at d1
          obtain ⟨o, g, rfl, hBo, hBg, c1, hK, hset⟩ := hM2.out.at hlc
          obtain ⟨z, c2⟩ : ∃ z, wr.cell? ⟨g, j, none⟩ = some z := ⟨_, hK.cell (mrow_get _ hlt)⟩
          have f2 := hK.frozen j
          have HS := Lib.hid (hset j x x1)
          clear hK hset hx hrow
          go_wp2_with fail
          go_still_tail 13, (by kernel_rfl)
          change wpList _ _ _ _ _ wr.drew
          go_wp2_with fail
          go_roundw
          case rel =>
            refine ⟨c + 1, by omega, by go_num, MatB.drew (HS.out.congr fun a b _ _ => ?_), (hbe2.out.setCell (p := ⟨g, j, none⟩) hBg _).drew⟩
            rw [HX.out, setEl_tr]
            unfold tr
            rw [grid_step]
          case measure => simp [intOf]; omega
        · have hck : c = k := by omega
          subst hck
          clear hrow
          go_wp2_with fail
          go_roundw
          case rel => exact ⟨j + 1, by omega, by go_num, hM2.out.congr fun a b ha hb => grid_row _ _ _ _ _ ha, hbe2.out⟩
          case measure => simp [intOf]; omega
    · have hjr : j = n := by omega
      subst hjr
      go_wp2_with fail
      go_ret
      exact ⟨oa, oc, rfl, hM.out.congr fun a b _ hb => grid_done _ _ _ _ hb, hbe.out⟩
end Go.Proofs.Ytchhfpaicdhjbaa
