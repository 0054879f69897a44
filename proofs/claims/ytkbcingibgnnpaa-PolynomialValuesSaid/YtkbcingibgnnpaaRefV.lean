/- kinkeepref06.Eval, Derivative, FromRoots, Roots, Multiplicity. -/
import Derived.Test.YtkbcingibgnnpaaRefD
import Derived.Test.YtkbcingibgnnpaaPolyV
namespace Go.Proofs.Ytkbcingibgnnpaa
open Go.RowKit Go.Kin
set_option maxRecDepth 100000

theorem pow_powN (y : Nat) (hy : y < 256) (k : Nat) : (Fq.pow (Fq.of y) k).n = Gf.powN y k := by
  induction k with
  | zero => rfl
  | succ k ih =>
    rw [Fq.pow, Fq.mul_n, ih, Fq.of_n hy]; rfl
theorem powN_zero (k : Nat) : Gf.powN 0 (k + 1) = 0 := by
  rw [← pow_powN 0 (by omega), Fq.pow, Fq.mul_n]
  show Gf.mul _ 0 = 0
  exact Gf.mul_zero _

theorem rpow_nat (y k : Nat) (w : World) (hy : y < 256) :
    Calls Try.prog 58 #[.int .u8 (y : Int), .int .i64 (k : Int)] w fun e w' => e = .returned (.int .u8 (((Fq.pow (Fq.of y) k).n : Nat) : Int)) ∧ w = w' := by
  rw [pow_powN y hy]
  by_cases h0 : y = 0
  · subst h0
    refine (rpow_zero _ _ w rfl).mono ?_
    rintro e w' ⟨rfl, rfl⟩
    refine ⟨?_, rfl⟩
    cases k with
    | zero => rfl
    | succ k => rw [powN_zero, if_neg (by omega)]; rfl
  · refine (rpow_any _ _ w (by omega) (by omega)).mono ?_
    rintro e w' ⟨rfl, rfl⟩
    rw [Int.toNat_natCast, Gf.powZ_nat y hy h0]
    exact ⟨rfl, rfl⟩

set_option maxHeartbeats 1000000 in
theorem reval_any (a : Option Addr) (n c : Nat) (l : List Nat) (x : Int) (w : World) (h : Rd vb w a n c l) (hl : Gf.Byt l) (hx0 : 0 ≤ x) (hx1 : x < 256) :
    Calls Try.prog 41 #[.slice a n c, .int .u8 x] w fun e w' => e = .returned (.int .u8 ((Poly.eval (Poly.of l) (Fq.of x.toNat)).n : Nat)) ∧ Drw w w' := by
  obtain ⟨y, rfl⟩ := Int.eq_ofNat_of_zero_le hx0
  have hy : y < 256 := by omega
  have hm : n ≤ 9223372036854775807 := by have := h.cap; have := h.max; unfold maxLen at *; omega
  have H := Lib.hid h; clear h
  go_enter Try.func41, Try.ntmps41
  go_wp2
  go_loopw [5, 6, 9] (fun s _ i wr => ∃ (k v : Nat), k ≤ n ∧ v < 256 ∧ i = .int .i64 (k : Int) ∧ s = .int .u8 (v : Int) ∧ Hid (Fq.of v = Fq.sum (fun j => (Poly.of l).cf j * Fq.pow (Fq.of y) j) k) ∧ Hid (Drw w wr)) (fun _ _ i _ => n - (intOf i).toNat)
  case atStart => exact ⟨0, 0, by omega, by omega, rfl, rfl, rfl, Drw.refl w⟩
  case round =>
    obtain ⟨k, v, hk, hv, rfl, rfl, hval, hd⟩ := hrel
    by_cases hlt : k < n
    · obtain ⟨z, hz⟩ : ∃ z, l[k]? = some z := ⟨_, List.getElem?_eq_getElem (by rw [H.out.len]; omega)⟩
      obtain ⟨b, o, rfl, c1⟩ := (H.out.drw hd.out).cell k z hz
      have bz := hl.at hz
      obtain ⟨u, HU⟩ : ∃ u, Hid (Fq.pow (Fq.of y) k = u) := ⟨_, rfl⟩
      have bu := u.h
      have lm := Gf.mul_lt z u.n bz
      unfold vb at c1
      have i1 : (k : Int) < (n : Int) := by omega
      have ex : bits .xor .u8 ((v : Nat) : Int) ((Gf.mul z u.n : Nat) : Int) = ((v ^^^ Gf.mul z u.n : Nat) : Int) := by rw [xor8 _ _ (by omega) (by omega) (by omega) (by omega)]; rfl
      have hnew : Hid (Fq.of (v ^^^ Gf.mul z u.n) = Fq.sum (fun j => (Poly.of l).cf j * Fq.pow (Fq.of y) j) (k + 1)) := by
        show _ = _
        rw [Fq.of_add hv lm, Fq.of_mul bz bu, Fq.sum_succ, hval.out, Poly.cf_of_some hz, HU.out, Fq.of_val]
      have E1 : ∀ w, Calls Try.prog 58 #[.int .u8 ((y : Nat) : Int), .int .i64 ((k : Nat) : Int)] w fun e w' => e = .returned (.int .u8 ((u.n : Nat) : Int)) ∧ w = w' := fun w => by
        have := rpow_nat y k w hy
        rwa [HU.out] at this
      have E2 : ∀ w, Calls Try.prog 51 #[.int .u8 ((z : Nat) : Int), .int .u8 ((u.n : Nat) : Int)] w fun e w' => e = .returned (.int .u8 ((Gf.mul z u.n : Nat) : Int)) ∧ w = w' := fun w => by
        have := rmul_any ((z : Nat) : Int) ((u.n : Nat) : Int) w (by omega) (by omega) (by omega) (by omega)
        rwa [Int.toNat_natCast, Int.toNat_natCast] at this
      have EX := Lib.hid ex; clear ex hz
      go_wp2_with fail
      go_quiet ((first
        | (go_at_call 58; exact qsame (E1 _))
        | (go_at_call 51; exact qsame (E2 _))))
      go_wp2
      go_roundw
      case rel => exact ⟨k + 1, _, by omega, Gf.xor_lt hv lm, by go_num, by rw [EX.out], hnew, hd.out.step nq⟩
      case measure => simp [intOf]; omega
    · have hkn : k = n := by omega
      have hr : (v : Int) = (((Poly.eval (Poly.of l) (Fq.of y)).n : Nat) : Int) := by
        have := hval.out
        rw [hkn, Poly.eval_ext _ _ (by rw [← H.out.len]; exact Poly.sz_of_le l)] at this
        rw [← this, Fq.of_n hv]
      have HR := Lib.hid hr; clear hr hkn
      go_wp2
      go_ret
      exact ⟨ret_int (by rw [HR.out, Int.toNat_natCast]), hd.out⟩

set_option maxHeartbeats 1000000 in
theorem rderiv_any (a : Option Addr) (n c : Nat) (p : List Nat) (w : World) (h : Rd vb w a n c p) (hp : Gf.Byt p) (hn : n ≤ 140737488355000) :
    Calls Try.prog 42 #[.slice a n c] w (GivesS w n (Poly.out (Poly.deriv (Poly.of p)))) := by
  obtain ⟨i0, hi, hz0, hz1, hz2⟩ := info_parts info5
  have u1 := Try.underlying22
  have H := Lib.hid h; clear h
  go_enter Try.func42, Try.ntmps42
  go_wp2
  go_loopw [3, 4] (fun o i wr => ∃ (k : Nat) (oa : Option Addr) (oc : Nat) (L : List Nat), k ≤ n - 1 ∧ i = .int .i64 ((k : Int) + 1) ∧ o = .slice oa k oc ∧ Hid (Own vb w.heap.size 5 wr oa k oc L) ∧ Hid (∀ j, L[j]? = if j < k then some (if j % 2 = 0 then p.getD (j + 1) 0 else 0) else none) ∧ Below w.heap.size w wr) (fun _ i _ => n + 1 - (intOf i).toNat)
  case atStart => exact ⟨0, none, 0, [], by omega, rfl, rfl, ⟨rfl, .inl ⟨rfl, rfl, rfl⟩⟩, fun j => by simp, below_refl _⟩
  case round =>
    obtain ⟨k, oa, oc, L, hk, rfl, rfl, hO, hL, hbe⟩ := hrel
    have hws := hbe.size
    by_cases hlt : k + 1 < n
    · obtain ⟨x, hx⟩ : ∃ x, p[k + 1]? = some x := ⟨_, List.getElem?_eq_getElem (by rw [H.out.len]; exact hlt)⟩
      have bx := hp.at hx
      obtain ⟨z, hz⟩ : ∃ z, z = if k % 2 = 0 then x else 0 := ⟨_, rfl⟩
      have N3 := Lib.hid ((rd_new vb 5 wr [z] (n := 1) rfl (by omega)))
      have b3 := below_alloc (.cells (row vb [z]) 5 (0, 0)) hbe
      have O3 := Lib.hid (hO.out.fw ((below_refl wr).alloc (Nat.le_refl _) (.cells (row vb [z]) 5 (0, 0))))
      have hnew : Hid (∀ j, (L ++ [z])[j]? = if j < k + 1 then some (if j % 2 = 0 then p.getD (j + 1) 0 else 0) else none) := by
        intro j
        have hlen := hO.out.len
        rw [List.getElem?_append]
        by_cases h1 : j < k
        · rw [hlen, if_pos h1, if_pos (by omega), hL.out, if_pos h1]
        · rw [hlen, if_neg h1]
          by_cases h2 : j = k
          · subst h2
            rw [if_pos (by omega), Nat.sub_self, hz, List.getD_eq_getElem?_getD, hx]; rfl
          · rw [if_neg (by omega)]
            exact List.getElem?_eq_none (by simp; omega)
      obtain ⟨b, o, rfl, c1⟩ := (H.out.fw hbe).cell (k + 1) x hx
      clear hx
      unfold vb at c1
      have i1 : ((k : Int) + 1) < (n : Int) := by omega
      have i2 : ((k : Int) + 1).toNat = k + 1 := by omega
      by_cases hp2 : k % 2 = 0
      · rw [if_pos hp2] at hz
        subst hz
        have e1 : (((k : Int) + 1) % 2 == 1) = true := by simp; omega
        clear hp2
        go_wp2_with (at_builtin; refine wpList_append_rd rfl (.tmp 14) (.tmp 19) 22 rfl vb vb_one w.heap.size 5 i0 (.int .u8 0) 1 u1 hi hz0 hz1 hz2 rfl _ k oc _ rfl O3.out (some ⟨wr.heap.size, 0, none⟩) 1 1 [z] rfl N3.out (by unfold maxLen; omega) (by omega) b3.size ?_; intro sa c2 w4 hown hgr)
        go_roundw
        case rel => exact ⟨k + 1, sa, c2, L ++ [z], by omega, by go_num, rfl, hown, hnew, b3.grown hgr b3.size fun j hj => (O3.out.ownsRow.lt j hj).1⟩
        case measure => simp [intOf]; omega
      · rw [if_neg hp2] at hz
        subst hz
        have e1 : (((k : Int) + 1) % 2 == 1) = false := by simp; omega
        clear hp2
        go_wp2_with (at_builtin; refine wpList_append_rd rfl (.tmp 21) (.tmp 22) 22 rfl vb vb_one w.heap.size 5 i0 (.int .u8 0) 1 u1 hi hz0 hz1 hz2 rfl _ k oc _ rfl O3.out (some ⟨wr.heap.size, 0, none⟩) 1 1 [0] rfl N3.out (by unfold maxLen; omega) (by omega) b3.size ?_; intro sa c2 w4 hown hgr)
        go_roundw
        case rel => exact ⟨k + 1, sa, c2, L ++ [0], by omega, by go_num, rfl, hown, hnew, b3.grown hgr b3.size fun j hj => (O3.out.ownsRow.lt j hj).1⟩
        case measure => simp [intOf]; omega
    · have hb : Gf.Byt L := by
        intro z hz
        obtain ⟨j, hj⟩ := List.mem_iff_getElem?.1 hz
        rw [hL.out] at hj
        split at hj
        · cases hj
          split
          · rw [List.getD_eq_getElem?_getD]
            cases h : p[j + 1]? with
            | none => simp
            | some z => exact hp.at h
          · omega
        · cases hj
      have hfin : Poly.of L = (Poly.of p).deriv := by
        apply Poly.ext
        intro j
        rw [Poly.cf_deriv, Poly.cf_of, Poly.cf_of, List.getD_eq_getElem?_getD, hL.out]
        by_cases h1 : j < k
        · rw [if_pos h1]
          by_cases h2 : j % 2 = 0
          · rw [if_pos h2, if_pos h2]; rfl
          · rw [if_neg h2, if_neg h2]; rfl
        · rw [if_neg h1, show p.getD (j + 1) 0 = 0 from ?_]
          · split <;> rfl
          · rw [List.getD_eq_getElem?_getD, List.getElem?_eq_none (by rw [H.out.len]; omega)]; rfl
      have HF := Lib.hid hfin
      have HO := Lib.hid hO.out.rd
      have i1 : ¬ ((k : Int) + 1) < (n : Int) := by omega
      clear hfin
      go_wp2_with (go_at_call 23; refine (rtrim_any _ _ _ L _ HO.out hb (by omega)).mono ?_; rintro e w7 ⟨a7, n7, c7, rfl, r7, l7, b7⟩; rw [HF.out] at r7)
      go_ret
      exact ⟨a7, n7, c7, rfl, r7, by omega, bt hbe b7⟩

set_option maxHeartbeats 1000000 in
theorem rfromroots_any (a : Option Addr) (n c : Nat) (l : List Nat) (w : World) (h : Rd vb w a n c l) (hl : Gf.Byt l) (hn : n ≤ 1023) :
    Calls Try.prog 43 #[.slice a n c] w (GivesS w (2 * n + 1) (Poly.out (Poly.prod l))) := by
  have H := Lib.hid h; clear h
  go_enter Try.func43, Try.ntmps43
  have R0 := Lib.hid (rd_new vb 5 w [1] (n := 1) rfl (by omega))
  have B0 := below_alloc (.cells (row vb [1]) 5 (0, 0)) (below_refl w)
  go_wp2_with fail
  go_loopw [3, 5, 9] (fun o _ i wr => ∃ (k : Nat) (L : List Nat) (pa : Option Addr) (pn pc : Nat), k ≤ n ∧ i = .int .i64 (k : Int) ∧ o = .slice pa pn pc ∧ pn ≤ 2 * k + 1 ∧ Hid (Rd vb wr pa pn pc L) ∧ Hid (Gf.Byt L) ∧ Hid (L = Poly.out (Poly.prod (l.take k))) ∧ Below w.heap.size w wr) (fun _ _ i _ => n - (intOf i).toNat)
  case atStart =>
    refine ⟨0, [1], _, 1, 1, by omega, rfl, rfl, by omega, R0.out, byt1 (by omega), ?_, B0⟩
    show _ = _
    rw [List.take_zero, Poly.prod_nil]; decide +kernel
  case round =>
    obtain ⟨k, L, pa, pn, pc, hk, rfl, rfl, hpn, hR, hL, hv, hbe⟩ := hrel
    by_cases hlt : k < n
    · obtain ⟨x, hx⟩ : ∃ x, l[k]? = some x := ⟨_, List.getElem?_eq_getElem (by rw [H.out.len]; exact hlt)⟩
      obtain ⟨b, o, rfl, c1⟩ := (H.out.fw hbe).cell k x hx
      have bx := hl.at hx
      have hnew : Poly.of L * Poly.of [x, 1] = Poly.prod (l.take (k + 1)) := by
        rw [hv.out, Poly.of_out, Poly.of_pair, take_succ_get hx, Poly.prod_snoc, Poly.mul_comm]
      have HN := Lib.hid hnew
      clear hx hnew
      unfold vb at c1
      have i1 : (k : Int) < (n : Int) := by omega
      go_wp2_with (go_at_call 28; refine (rpmul_any _ _ pn 2 _ _ L [x, 1] _ (Rd.alloc _ hR.out) (rd_newe vb 5 _ [x, 1] (n := 2) rfl (by omega) rfl) hL.out (byt2 bx (by omega)) (by omega)).mono ?_; rintro e w3 ⟨a3, n3, c3, rfl, r3, l3, b3⟩; rw [HN.out] at r3)
      go_roundw
      case rel => exact ⟨k + 1, _, a3, n3, c3, by omega, by go_num, rfl, by omega, r3, Poly.out_byt _, rfl, bt (below_alloc _ hbe) b3⟩
      case measure => simp [intOf]; omega
    · have hkn : k = n := by omega
      have hfin : L = Poly.out (Poly.prod l) := by rw [hv.out, hkn, List.take_of_length_le (by rw [H.out.len]; omega)]
      have HF := Lib.hid hfin
      clear hfin hkn
      go_wp2
      go_ret
      exact ⟨pa, pn, pc, rfl, by rw [← HF.out]; exact hR.out, by omega, hbe⟩

set_option maxHeartbeats 1000000 in
theorem rroots_any (a : Option Addr) (n c : Nat) (p : List Nat) (w : World) (h1 : Rd vb w a n c p) (hp : Gf.Byt p) :
    Calls Try.prog 44 #[.slice a n c] w (GivesS w 256 (Poly.rootsTo (Poly.of p) 256)) := by
  obtain ⟨i0, hi, hz0, hz1, hz2⟩ := info_parts info5
  have u1 := Try.underlying22
  have H1 := Lib.hid h1; clear h1
  go_enter Try.func44, Try.ntmps44
  go_wp2_with fail
  go_loopw [3, 4] (fun o i wr => ∃ (k : Nat) (oa : Option Addr) (m oc : Nat), k ≤ 256 ∧ m ≤ k ∧ i = .int .i64 (k : Int) ∧ o = .slice oa m oc ∧ Hid (Own vb w.heap.size 5 wr oa m oc (Poly.rootsTo (Poly.of p) k)) ∧ Below w.heap.size w wr) (fun _ i _ => 256 - (intOf i).toNat)
  case atStart => exact ⟨0, none, 0, 0, by omega, by omega, rfl, rfl, ⟨rfl, .inl ⟨rfl, rfl, rfl⟩⟩, below_refl w⟩
  case round =>
    obtain ⟨k, oa, m, oc, hk, hm, rfl, rfl, hO, hbe⟩ := hrel
    by_cases hlt : k < 256
    · obtain ⟨z, HZ⟩ : ∃ z, Hid (Poly.eval (Poly.of p) (Fq.of k) = z) := ⟨_, rfl⟩
      have i1 : (k : Int) < 256 := by omega
      have hs := Poly.rootsTo_succ (Poly.of p) k
      rw [HZ.out] at hs
      have E1 : Calls Try.prog 41 #[.slice a n c, .int .u8 (k : Int)] wr fun e w' => e = .returned (.int .u8 ((z.n : Nat) : Int)) ∧ Drw wr w' := by
        have := reval_any a n c p (k : Int) wr (H1.out.fw hbe) hp (by omega) (by omega)
        rwa [Int.toNat_natCast, HZ.out] at this
      by_cases hz0' : z.n = 0
      · have t1 : (((z.n : Nat) : Int) == 0) = true := by rw [hz0']; rfl
        have hzz := Fq.n_eq_zero.1 hz0'
        rw [if_pos hzz] at hs
        have HSS := Lib.hid hs; clear hs hz0' hzz
        go_wp2_with (first
          | (go_at_call 41; refine E1.mono ?_; rintro e w3 ⟨rfl, hd⟩; have N3 := Lib.hid (((blk_new vb 5 w3 [k]).rdn (n := 1) (c := 1) rfl (Nat.le_refl _) (by omega))); have ba3 : Below w3.heap.size w3 (w3.alloc (.cells (row vb [k]) 5 (0, 0))) := (Below.refl _ _).alloc (Nat.le_refl _) _; have O3 := Lib.hid ((hO.out.fw hd.fw).fw ba3); have b3 := bt (bt hbe hd.fw) ba3)
          | (at_builtin; refine wpList_append_rd rfl (.tmp 14) (.tmp 17) 22 rfl vb vb_one w.heap.size 5 i0 (.int .u8 0) 1 u1 hi hz0 hz1 hz2 rfl _ m oc _ rfl O3.out (some ⟨w3.heap.size, 0, none⟩) 1 1 [k] rfl N3.out (by unfold maxLen; omega) (by omega) b3.size ?_; intro sa c2 w4 hown hgr))
        go_roundw
        case rel =>
          refine ⟨k + 1, sa, m + 1, c2, by omega, by omega, by go_num, rfl, ?_, b3.grown hgr b3.size fun x hx => (O3.out.ownsRow.lt x hx).1⟩
          show Own _ _ _ _ _ _ _ _
          rw [HSS.out]; exact hown
        case measure => simp [intOf]; omega
      · have t1 : (((z.n : Nat) : Int) == 0) = false := by simp; omega
        rw [if_neg (fun e => hz0' (by rw [e]; rfl)), List.append_nil] at hs
        have HSS := Lib.hid hs; clear hs hz0'
        go_wp2_with (go_at_call 41; refine E1.mono ?_; rintro e w3 ⟨rfl, hd⟩)
        go_roundw
        case rel =>
          refine ⟨k + 1, oa, m, oc, by omega, by omega, by go_num, rfl, ?_, bt hbe hd.fw⟩
          show Own _ _ _ _ _ _ _ _
          rw [HSS.out]; exact hO.out.fw hd.fw
        case measure => simp [intOf]; omega
    · have hk2 : k = 256 := by omega
      subst hk2
      go_wp2
      go_ret
      exact ⟨oa, m, oc, rfl, hO.out.rd, hm, hbe⟩

set_option maxHeartbeats 1000000 in
theorem rmult_any (a : Option Addr) (n c : Nat) (p : List Nat) (x : Int) (w : World) (h : Rd vb w a n c p) (hp : Gf.Byt p) (hx0 : 0 ≤ x) (hx1 : x < 256) (hn : n ≤ 100000) (h0 : 0 < (Poly.of p).sz) :
    Calls Try.prog 45 #[.slice a n c, .int .u8 x] w fun e w' => ∃ k : Nat, Poly.IsMult (Poly.of p) (Fq.of x.toNat) k ∧ e = .returned (.int .i64 (k : Int)) ∧ Below w.heap.size w w' := by
  have H := Lib.hid h; clear h
  obtain ⟨y, rfl⟩ := Int.eq_ofNat_of_zero_le hx0
  have hy : y < 256 := by omega
  rw [Int.toNat_natCast]
  have hq2 : Hid (Poly.of [y, 1] = Poly.lin (Fq.of y)) := Poly.of_pair y
  have H0 := Lib.hid h0
  go_enter Try.func45, Try.ntmps45
  go_wp2_with fail
  go_loopw [0, 5, 6, 7] (fun v i _ _ wr => ∃ (k : Nat) (L : List Nat) (Q : Poly) (xa : Option Addr) (xn xc : Nat), v = .slice xa xn xc ∧ i = .int .i64 (k : Int) ∧ xn ≤ n + k ∧ k + Q.sz ≤ n ∧ 0 < Q.sz ∧ Hid (Rd vb wr xa xn xc L) ∧ Hid (Gf.Byt L) ∧ Hid (Poly.of L = Q) ∧ Hid (Poly.of p = Poly.lpow (Fq.of y) k * Q) ∧ Below w.heap.size w wr) (fun _ i _ _ _ => n - (intOf i).toNat)
  case atStart => exact ⟨0, p, _, a, n, c, rfl, rfl, by omega, by have := Poly.sz_of_le p; have := H.out.len; omega, H0.out, H.out, hp, rfl, by show _ = _; rw [Poly.lpow, Poly.one_mul], below_refl w⟩
  case round =>
    obtain ⟨k, L, Q, xa, xn, xc, rfl, rfl, hxn, hkn, hQ0, hR, hL, hLQ, hv, hbe⟩ := hrel
    obtain ⟨z, HZ⟩ : ∃ z, Hid (Poly.eval Q (Fq.of y) = z) := ⟨_, rfl⟩
    obtain ⟨d, hd⟩ := Poly.div_lin Q (Fq.of y)
    rw [HZ.out] at hd
    have hcs := Poly.sz_C_le z
    by_cases hz : z = 0
    · subst hz
      rw [Poly.C_zero, Poly.add_zero] at hd
      have hds : d.sz + 1 = Q.sz ∧ 0 < d.sz := by
        have hdn : d ≠ 0 := fun e => by rw [e, Poly.zero_mul] at hd; rw [hd, Poly.sz_zero] at hQ0; omega
        have h1 := Poly.sz_mul (Poly.sz_pos.2 hdn) (q := Poly.lin (Fq.of y)) (by rw [Poly.sz_lin]; omega)
        rw [← hd, Poly.sz_lin] at h1
        exact ⟨by have := Poly.sz_pos.2 hdn; omega, Poly.sz_pos.2 hdn⟩
      obtain ⟨hds1, hds2⟩ := hds
      have hv2 : Hid (Poly.of p = Poly.lpow (Fq.of y) (k + 1) * d) := by
        show _ = _
        rw [hv.out, hd, Poly.lpow]
        ac_rfl
      have HD := Lib.hid hd
      have HDS := Lib.hid hds1
      clear hd hcs hds1
      go_wp2_with (go_at_call 36; refine (rdivmod_any _ _ xn 2 _ _ L [y, 1] _ (Rd.alloc _ hR.out) (rd_newe vb 5 _ [y, 1] (n := 2) rfl (by omega) rfl) hL.out (byt2 hy (by omega)) (by omega) (by omega) (by rw [hq2.out, Poly.sz_lin]; omega)).mono ?_; rintro e w3 ⟨D, R, a3, n3, c3, a4, n4, c4, hv3, hr3, rfl, r3, r4, l3, l4, b3⟩; rw [hLQ.out, hq2.out] at hv3; rw [hq2.out] at hr3; obtain ⟨hD, hRR⟩ := Poly.div_unique (hv3.symm.trans (HD.out.trans (Poly.add_zero _).symm)) hr3 (by rw [Poly.sz_lin]; exact Nat.lt_of_lt_of_le Nat.zero_lt_two (Nat.le_refl _)); subst hD; subst hRR; have k4 := r4.len; rw [Poly.out_zero] at k4; have k5 : n4 = 0 := k4.symm; subst k5; have R3 := Lib.hid r3; clear hv3 hr3 r3 r4 k4)
      go_roundw
      case rel => exact ⟨k + 1, _, D, a3, n3, c3, rfl, by go_num, by omega, by have := HDS.out; omega, hds2, R3.out, Poly.out_byt _, Poly.of_out _, hv2, bt (below_alloc _ hbe) b3⟩
      case measure => have := HDS.out; simp [intOf]; omega
    · have hM : Hid (Poly.IsMult (Poly.of p) (Fq.of y) k) := ⟨Q, hv.out, by rw [HZ.out]; exact hz⟩
      have HD := Lib.hid hd
      have hcz := Lib.hid (Poly.sz_C hz)
      clear hd hcs hz
      go_wp2_with (go_at_call 36; refine (rdivmod_any _ _ xn 2 _ _ L [y, 1] _ (Rd.alloc _ hR.out) (rd_newe vb 5 _ [y, 1] (n := 2) rfl (by omega) rfl) hL.out (byt2 hy (by omega)) (by omega) (by omega) (by rw [hq2.out, Poly.sz_lin]; omega)).mono ?_; rintro e w3 ⟨D, R, a3, n3, c3, a4, n4, c4, hv3, hr3, rfl, r3, r4, l3, l4, b3⟩; rw [hLQ.out, hq2.out] at hv3; rw [hq2.out] at hr3; obtain ⟨hD, hRR⟩ := Poly.div_unique (hv3.symm.trans HD.out) hr3 (by rw [hcz.out, Poly.sz_lin]; exact Nat.lt_succ_self 1); subst hD; subst hRR; have k4 := r4.len; rw [Poly.out_length, hcz.out] at k4; have k5 : n4 = 1 := k4.symm; subst k5; clear hv3 hr3 r3 r4 k4)
      go_ret
      exact ⟨k, hM.out, rfl, bt (below_alloc _ hbe) b3⟩
end Go.Proofs.Ytkbcingibgnnpaa
