/- polynomial.Interpolate. -/
import Derived.Test.YtioiaiifkfopnaaPolyG
import Derived.Test.YtioiaiifkfopnaaPolyD
import Derived.Test.YtioiaiifkfopnaaSeen
import Derived.Deep.RegionWith
import Derived.BigQuiet
theorem snoc_induct {P : List Nat → Prop} (h0 : P []) (h : ∀ l x, P l → P (l ++ [x])) (l : List Nat) : P l := by
  suffices hs : ∀ m : List Nat, P m.reverse by have := hs l.reverse; rwa [List.reverse_reverse] at this
  intro m
  induction m with
  | nil => exact h0
  | cons x m ih => rw [List.reverse_cons]; exact h _ _ ih
namespace Poly
/-- x + r. -/
def lin (r : Fq) : Poly := mon 1 1 + C r
/-- The product of the x + r. -/
def prod (l : List Nat) : Poly := l.foldl (fun p r => lin (Fq.of r) * p) 1
theorem prod_nil : prod [] = 1 := rfl
theorem prod_snoc (l : List Nat) (r : Nat) : prod (l ++ [r]) = lin (Fq.of r) * prod l := by simp [prod]
theorem eval_lin (r x : Fq) : eval (lin r) x = x + r := by
  rw [lin, eval_add, eval_C, ← mul_one (mon 1 1), eval_x_mul, eval_one, Fq.mul_one]
theorem eval_prod_snoc (l : List Nat) (r : Nat) (x : Fq) : eval (prod (l ++ [r])) x = (x + Fq.of r) * eval (prod l) x := by
  rw [prod_snoc, eval_mul, eval_lin]
theorem eval_prod_zero {l : List Nat} {x : Nat} (h : x ∈ l) : eval (prod l) (Fq.of x) = 0 := by
  induction l using snoc_induct with
  | h0 => simp at h
  | h l r ih =>
    rw [eval_prod_snoc]
    rcases List.mem_append.1 h with h | h
    · rw [ih h, Fq.mul_zero]
    · simp at h
      rw [h, Fq.add_self, Fq.zero_mul]
theorem eval_prod_ne {l : List Nat} {x : Nat} (hl : Gf.Byt l) (hx : x < 256) (h : x ∉ l) : eval (prod l) (Fq.of x) ≠ 0 := by
  induction l using snoc_induct with
  | h0 => rw [prod_nil, eval_one]; exact Fq.one_ne_zero
  | h l r ih =>
    rw [eval_prod_snoc]
    refine Fq.mul_ne_zero ?_ (ih (fun y hy => hl y (by simp [hy])) (fun e => h (by simp [e])))
    intro e
    have := Fq.of_inj hx (hl r (by simp)) (Fq.add_eq_zero.1 e)
    exact h (by simp [this])
/-- One more point. -/
theorem interp_step {R B : Poly} {x y : Fq} (hb : eval B x ≠ 0) : eval (R + C ((y + eval R x) * Fq.inv (eval B x)) * B) x = y := by
  rw [eval_add, eval_C_mul, Fq.mul_assoc, Fq.inv_mul hb, Fq.mul_one, Fq.add_comm, Fq.add_add_cancel]
theorem interp_keep {R B : Poly} {x : Fq} (c : Fq) (hb : eval B x = 0) : eval (R + C c * B) x = eval R x := by
  rw [eval_add, eval_C_mul, hb, Fq.mul_zero, Fq.add_zero]
/-- p takes the values ys at xs. -/
def Takes (p : Poly) (xs ys : List Nat) : Prop := ∀ (i x y : Nat), xs[i]? = some x → ys[i]? = some y → eval p (Fq.of x) = Fq.of y
end Poly
namespace Go.Proofs.Ytioiaiifkfopnaa
open Go.RowKit Go.Kin
set_option maxRecDepth 100000

theorem interp_len (a b : Option Addr) (n m c d : Nat) (w : World) (h : n ≠ m) :
    Calls Try.prog 27 #[.slice a n c, .slice b m d] w fun e w' => e = .returned (.tuple #[.slice none 0 0, .int .i64 1]) ∧ w = w' := by
  have e0 : ((n : Int) == (m : Int)) = false := by simp; omega
  have e1 : ((n : Int) != (m : Int)) = true := by simp; omega
  go_enter Try.func27, Try.ntmps27
  go_wp2
  go_ret2
  exact ⟨rfl, rfl⟩

/-- What Interpolate returns. -/
def RetInterp (w : World) (xs ys : List Nat) (e : Ending) (w' : World) : Prop :=
  (¬ xs.Nodup → e = .returned (.tuple #[.slice none 0 0, .int .i64 1]) ∧ Below w.heap.size w w') ∧
  (xs.Nodup → ∃ p : Poly, p.sz ≤ xs.length ∧ Poly.Takes p xs ys ∧ RetBlkErr vb 5 w (Poly.out p) 0 e w')

set_option maxHeartbeats 1000000 in
theorem interp_any (a b : Option Addr) (n c d : Nat) (xs ys : List Nat) (w : World) (h1 : Rd vb w a n c xs) (h2 : Rd vb w b n d ys) (hx : Gf.Byt xs) (hy : Gf.Byt ys) (hn : n ≤ 140737488355000) :
    Calls Try.prog 27 #[.slice a n c, .slice b n d] w (RetInterp w xs ys) := by
  obtain ⟨i0, hi, hz0, hz1, hz2⟩ := info_parts info5
  have u1 := Try.underlying23
  have H1 := Lib.hid h1; have H2 := Lib.hid h2; clear h1 h2
  have z0 := seen_zero
  have hb1 : Below w.heap.size w (w.alloc (.cells (seenA []) 83 (0, 0))) := (Below.refl _ _).alloc (Nat.le_refl _) _
  have A1 := Lib.hid (H1.out.fw hb1)
  have S1 := Lib.hid (Seen.new w)
  go_enter Try.func27, Try.ntmps27
  go_wp2_with fail
  go_loopw [8, 22] (fun _ i wr => ∃ k : Nat, k ≤ n ∧ i = .int .i64 (k : Int) ∧ Hid ((xs.take k).Nodup) ∧ Hid (Seen wr w.heap.size (xs.take k)) ∧ Below w.heap.size w wr) (fun _ i _ => n - (intOf i).toNat)
  case atStart => exact ⟨0, by omega, rfl, List.nodup_nil, S1.out, hb1⟩
  case round =>
    obtain ⟨k, hk, rfl, hnd, hS, hbe⟩ := hrel
    by_cases hlt : k < n
    · obtain ⟨x, hxx⟩ : ∃ x, xs[k]? = some x := ⟨_, List.getElem?_eq_getElem (by rw [H1.out.len]; omega)⟩
      obtain ⟨o1, o2, rfl, c1⟩ := (H1.out.fw hbe).cell k x hxx
      have bx := hx.at hxx
      have c2 := hS.out.cell bx
      have f2 := hS.out.frozen x
      have HX := Lib.hid hxx; clear hxx
      unfold vb at c1
      have i1 : (k : Int) < (n : Int) := by omega
      have i2 : ((x : Nat) : Int) < 256 := by omega
      by_cases hm : x ∈ xs.take k
      · have hM := Lib.hid hm
        rw [decide_eq_true hm] at c2
        clear hm
        go_wp2
        go_ret2
        exact ⟨fun _ => ⟨rfl, hbe⟩, fun hn => absurd hn (not_nodup_take HX.out hM.out)⟩
      · have hM := Lib.hid hm
        rw [decide_eq_false hm] at c2
        clear hm
        go_wp2
        go_roundw
        case rel =>
          refine ⟨k + 1, by omega, by go_num, ?_, ?_, hbe.setCell (Nat.le_refl _) _⟩
          · show (xs.take (k + 1)).Nodup
            rw [take_succ_get HX.out]
            exact nodup_snoc hnd.out hM.out
          · show Seen _ _ (xs.take (k + 1))
            rw [take_succ_get HX.out]
            exact hS.out.set x
        case measure => simp [intOf]; omega
    · have hkn : k = n := by omega
      subst hkn
      have hnd2 := hnd.out
      rw [List.take_of_length_le (by rw [H1.out.len]; omega)] at hnd2
      have ND := Lib.hid hnd2
      clear hnd2 hnd hS hlt
      rename World => wo
      go_wp2_with (first
        | (at_make; refine wpList_make_blk rfl (.tmp 33) (.tmp 33) 23 rfl vb 0 5 i0 u1 hi hz0 hz1 rfl _ _ _ _ k rfl rfl (by omega) (by omega) (by rw [hz2]; omega) (by omega) ?_; intro w3 hk3 hb3 hs3; have HK3 := Lib.hid hk3; clear hk3))
      have BB := blk_new vb 5 w3 [1]
      have B0 := HK3.out.fw ((Below.refl w3.heap.size w3).alloc (Nat.le_refl _) (.cells (row vb [1]) 5 (0, 0)))
      have PB := Lib.hid (BB.pre)
      have HB0 := Lib.hid B0
      have hlt3 := HK3.out.lt
      rw [hs3] at PB
      have be0 := (bt hbe hb3).alloc (Nat.le_trans hbe.size hb3.size) (.cells (row vb [1]) 5 (0, 0))
      clear BB B0
      go_loopw [10, 11, 12, 13, 14, 38] (fun bv _ _ _ _ i wr => ∃ (j : Nat) (R Bl : List Nat) (gb cb : Nat), j ≤ k ∧ i = .int .i64 (j : Int) ∧ bv = .slice (some ⟨gb, 0, none⟩) (1 + j) cb ∧ wo.heap.size < gb ∧ cb ≤ maxLen ∧ Hid (R.length = k) ∧ Hid (Gf.Byt R) ∧ Hid (Bl.length = 1 + j) ∧ Hid (Gf.Byt Bl) ∧
        Hid (Blk vb 5 wr wo.heap.size R) ∧ Hid (Pre vb 5 wr gb cb Bl) ∧ Hid (Poly.of Bl = Poly.prod (xs.take j)) ∧ Hid (Poly.Takes (Poly.of R) (xs.take j) ys) ∧ Below w.heap.size w wr) (fun _ _ _ _ _ i _ => k - (intOf i).toNat)
      case atStart =>
        refine ⟨0, List.replicate k 0, [1], _, 1, by omega, rfl, rfl, by omega, by simp [maxLen], List.length_replicate, Poly.zeros_byt _, rfl, (fun x hx => by simp at hx; omega), HB0.out, PB.out, ?_, ?_, be0⟩
        · show _ = _
          rw [List.take_zero, Poly.prod_nil]; rfl
        · intro i x y h; rw [List.take_zero] at h; simp at h
      case round =>
        obtain ⟨j, R, Bl, gb, cb, hj, rfl, rfl, hgb, hcb, hRl, hRb, hBl, hBb, hR, hB, hBv, hT, hbr⟩ := hrel
        by_cases hlt : j < k
        · obtain ⟨x, hxx⟩ : ∃ x, xs[j]? = some x := ⟨_, List.getElem?_eq_getElem (by rw [H1.out.len]; omega)⟩
          obtain ⟨y, hyy⟩ : ∃ y, ys[j]? = some y := ⟨_, List.getElem?_eq_getElem (by rw [H2.out.len]; omega)⟩
          obtain ⟨o1, o2, rfl, c1⟩ := (H1.out.fw hbr).cell j x hxx
          obtain ⟨o3, o4, rfl, c2⟩ := (H2.out.fw hbr).cell j y hyy
          have bx := hx.at hxx
          have byy := hy.at hyy
          unfold vb at c1 c2
          have i1 : (j : Int) < (k : Int) := by omega
          have hnz : Poly.eval (Poly.of Bl) (Fq.of x) ≠ 0 := by
            rw [hBv.out]
            exact Poly.eval_prod_ne (Poly.take_byt hx j) bx (fun hm => not_nodup_take hxx hm ND.out)
          obtain ⟨u, HU⟩ : ∃ u, Hid (Poly.eval (Poly.of R) (Fq.of x) = u) := ⟨_, rfl⟩
          obtain ⟨v, HV⟩ : ∃ v, Hid (Poly.eval (Poly.of Bl) (Fq.of x) = v) := ⟨_, rfl⟩
          rw [HV.out] at hnz
          have bu := u.h
          have bv := v.h
          have v0 : 0 < v.n := by
            rcases Nat.eq_zero_or_pos v.n with e | e
            · exact absurd (Fq.n_eq_zero.1 e) hnz
            · exact e
          have ex : bits .xor .u8 ((y : Nat) : Int) ((u.n : Nat) : Int) = ((y ^^^ u.n : Nat) : Int) := by rw [xor8 _ _ (by omega) (by omega) (by omega) (by omega)]; rfl
          have bxy := Gf.xor_lt byy bu
          obtain ⟨fc, hfc⟩ : ∃ fc, fc = Gf.mul (y ^^^ u.n) (Gf.inv v.n) := ⟨_, rfl⟩
          have bf : fc < 256 := by rw [hfc]; exact Gf.mul_lt _ _ bxy
          have hfq : Hid (Fq.of fc = (Fq.of y + u) * Fq.inv v) := by
            show _ = _
            rw [hfc, Fq.of_mul bxy (Gf.inv_lt _ bv), Fq.of_add byy bu, Fq.of_inv bv, Fq.of_val, Fq.of_val]
          have E1 : ∀ n : Nat, Calls Try.prog 49 #[.slice (some ⟨wo.heap.size, 0, none⟩) k k, .int .u8 ((x : Nat) : Int)] (wr.drewN n) fun e w' => e = .returned (.int .u8 ((u.n : Nat) : Int)) ∧ Drw (wr.drewN n) w' := by
            intro n
            have := eval_any (some ⟨wo.heap.size, 0, none⟩) k k R ((x : Nat) : Int) (wr.drewN n) ((hR.out.drew n).rdn hRl.out (Nat.le_refl _) (by omega)) hRb.out (by omega) (by omega)
            rwa [Int.toNat_natCast, HU.out] at this
          have E2 : ∀ n : Nat, Calls Try.prog 49 #[.slice (some ⟨gb, 0, none⟩) (1 + j) cb, .int .u8 ((x : Nat) : Int)] (wr.drewN n) fun e w' => e = .returned (.int .u8 ((v.n : Nat) : Int)) ∧ Drw (wr.drewN n) w' := by
            intro n
            have := eval_any (some ⟨gb, 0, none⟩) (1 + j) cb Bl ((x : Nat) : Int) (wr.drewN n) ((hB.out.drew n).rd hBl.out hcb) hBb.out (by omega) (by omega)
            rwa [Int.toNat_natCast, HV.out] at this
          have E3 : ∀ n : Nat, Calls Try.prog 48 #[.int .u8 ((y ^^^ u.n : Nat) : Int), .int .u8 ((v.n : Nat) : Int)] (wr.drewN n) fun e w' => e = .returned (.tuple #[.int .u8 ((fc : Nat) : Int), .int .i64 0]) ∧ wr.drewN n = w' := by
            intro n
            have := div_any ((y ^^^ u.n : Nat) : Int) ((v.n : Nat) : Int) (wr.drewN n) (by omega) (by omega) (by omega) (by omega)
            rwa [Int.toNat_natCast, Int.toNat_natCast, ← hfc] at this
          have EX := Lib.hid ex; have HX := Lib.hid hxx; have HY := Lib.hid hyy
          clear ex hxx hyy hfc hnz
          go_wp2_with fail
          go_quiet ((first
            | (go_at_call_of 49 gb; exact qdrw (E2 _))
            | (go_at_call 49; exact qdrw (E1 _))
            | (go_at_call 48; rw [EX.out]; exact qsame (E3 _))))
          have ng : wo.heap.size ≠ gb := by omega
          have hwo := hbe.size
          go_wp2_with (first
            | (go_at_call 50; refine (addto_any wo.heap.size 0 k k R (some ⟨gb, 0, none⟩) (1 + j) cb Bl ((fc : Nat) : Int) _ (hR.out.drew nq) hRb.out ((hB.out.drew nq).rd hBl.out hcb) hBb.out (by omega) (by omega) (by rw [hRl.out]; omega) (by omega) (by omega)).mono ?_; rintro e w5 ⟨rfl, R', hl5, hb5, hv5, hR5, hgr5⟩; have P5 := Lib.hid ((hB.out.drew nq).grown hgr5 (Ne.symm ng)); have BW5 := below_grown (fdrewN hbr nq) hgr5 hwo; have HR5 := Lib.hid hR5; have HV5 := Lib.hid hv5; have HL5 := Lib.hid hl5; clear hR5 hv5 hl5)
            | (go_at_call 51; refine (timesroot_any (some ⟨gb, 0, none⟩) (1 + j) cb Bl ((x : Nat) : Int) _ (P5.out.rd hBl.out hcb) hBb.out (by omega) (by omega) (by omega)).mono ?_; rintro e w6 ⟨B6, a6, c6, rfl, hO6, hb6, hv6, hw6⟩; obtain ⟨g6, rfl, hg6, hc6, hP6⟩ := hO6.pre (by omega); have HL6 := Lib.hid hO6.len; have R6 := Lib.hid (HR5.out.fw hw6); have lt6 := HR5.out.lt; have HP6 := Lib.hid hP6; have HV6 := Lib.hid hv6; clear hO6 hP6 hv6))
          go_roundw
          case rel =>
            refine ⟨j + 1, R', B6, g6, c6, by omega, by go_num, by rw [show 1 + (1 + j) = 1 + (j + 1) from by omega], by omega, hc6, ?_, hb5, ?_, hb6, R6.out, HP6.out, ?_, ?_, bt BW5 hw6⟩
            · show _ = _
              rw [HL5.out]; exact hRl.out
            · show _ = _
              rw [HL6.out]; omega
            · show _ = _
              rw [HV6.out, take_succ_get HX.out, Poly.prod_snoc, Int.toNat_natCast, hBv.out]; rfl
            · intro i x1 y1 hx1 hy1
              rw [HV5.out, ← Poly.C_eq_mon, Int.toNat_natCast, hfq.out]
              rw [take_succ_get HX.out] at hx1
              by_cases hij : i < j
              · have hx2 : (xs.take j)[i]? = some x1 := by
                  rw [List.getElem?_append_left (by rw [List.length_take, H1.out.len]; omega)] at hx1
                  exact hx1
                rw [Poly.interp_keep _ (by rw [hBv.out]; exact Poly.eval_prod_zero (List.mem_of_getElem? hx2))]
                exact hT.out i x1 y1 hx2 hy1
              · have hlen : (xs.take j).length = j := by rw [List.length_take, H1.out.len]; omega
                have hi : i = j := by
                  have := (List.getElem?_eq_some_iff.1 hx1).1
                  rw [List.length_append, hlen] at this
                  simp at this; omega
                subst hi
                rw [List.getElem?_append_right (by omega), hlen, Nat.sub_self] at hx1
                cases hx1
                rw [HY.out] at hy1
                cases hy1
                rw [← HU.out, ← HV.out]
                exact Poly.interp_step (by rw [HV.out]; intro e; rw [e] at v0; exact absurd v0 (by decide))
          case measure => simp [intOf]; omega
        · have hjk : j = k := by omega
          subst hjk
          have hT2 := hT.out
          rw [List.take_of_length_le (by rw [H1.out.len]; omega)] at hT2
          have HT2 := Lib.hid hT2
          clear hT2 hT hBv
          go_wp2_with (go_at_call 52; refine (trim_any _ _ _ R _ (hR.out.rdn hRl.out (Nat.le_refl _) (by omega)) hRb.out (by omega)).mono ?_; rintro e w7 ⟨g7, rfl, hg7, hB7, hb7⟩)
          go_ret2
          refine ⟨fun h => absurd ND.out h, fun _ => ⟨Poly.of R, ?_, HT2.out, g7, ?_, Nat.le_trans hbr.size hg7, hB7, bt hbr hb7⟩⟩
          · rw [H1.out.len, ← hRl.out]; exact Poly.sz_of_le R
          · rw [Poly.out_length]; rfl
end Go.Proofs.Ytioiaiifkfopnaa
