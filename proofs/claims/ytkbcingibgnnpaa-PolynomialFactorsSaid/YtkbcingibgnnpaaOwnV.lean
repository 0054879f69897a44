/- polynomial.withoutRoot, Multiplicity, Derivative, FromRoots. -/
import Derived.Test.YtkbcingibgnnpaaPolyV
import Derived.Test.YtkbcingibgnnpaaPolyL
import Derived.Deep.RegionWith
namespace Poly
/-- Synthetic division. -/
theorem synth {P d : Poly} {r : Fq} (h : P = d * lin r) (i : Nat) : d.cf i = P.cf (i + 1) + d.cf (i + 1) * r := by
  have e : P.cf (i + 1) = d.cf i + r * d.cf (i + 1) := by
    rw [h, mul_comm, lin, add_mul, cf_add, cf_x_mul, cf_C_mul]
  rw [e, Fq.mul_comm r, Fq.add_add_cancel]
theorem sz_factor {P d : Poly} {r : Fq} (h : P = d * lin r) (h2 : 2 ≤ P.sz) : d.sz + 1 = P.sz := by
  have hd : d ≠ 0 := fun e => by rw [e, zero_mul] at h; rw [h, sz_zero] at h2; omega
  have := sz_mul (sz_pos.2 hd) (q := lin r) (by rw [sz_lin]; omega)
  rw [← h, sz_lin] at this
  omega
theorem out_drop_get {P : Poly} {i : Nat} (h : i + 1 < P.sz) : ((out P).drop 1)[i]? = some (P.cf (i + 1)).n := by
  rw [List.getElem?_drop, Nat.add_comm 1 i]; exact out_get h
end Poly
namespace Go.Kin
open Go.RowKit
theorem Rd.drop1 {α : Type} {f : α → Value} {w : World} {b o n c : Nat} {l : List α} (h : Rd f w (some ⟨b, o, none⟩) n c l) (hn : 1 ≤ n) : Rd f w (some ⟨b, o + 1, none⟩) (n - 1) (c - 1) (l.drop 1) := by
  refine ⟨by rw [List.length_drop, h.len], by have := h.cap; omega, by have := h.max; omega, by simp, fun i x hx => ?_⟩
  rw [List.getElem?_drop] at hx
  obtain ⟨b2, o2, hb, hc⟩ := h.cell _ x hx
  cases hb
  exact ⟨b, o + 1, rfl, by rw [Nat.add_assoc]; exact hc⟩
end Go.Kin
namespace Go.Proofs.Ytkbcingibgnnpaa
open Go.RowKit Go.Kin
set_option maxRecDepth 100000

set_option maxHeartbeats 1000000 in
theorem withoutroot_any (b o n c : Nat) (P d : Poly) (x : Int) (w : World) (h : Rd vb w (some ⟨b, o, none⟩) n c (Poly.out P)) (hx0 : 0 ≤ x) (hx1 : x < 256) (hn : n ≤ 140737488355000) (h2 : 2 ≤ n) (hP : P = d * Poly.lin (Fq.of x.toNat)) :
    Calls Try.prog 57 #[.slice (some ⟨b, o, none⟩) n c, .int .u8 x] w fun e w' => ∃ a' c', e = .returned (.slice a' (n - 1) c') ∧ Rd vb w' a' (n - 1) c' (Poly.out d) ∧ Below w.heap.size w w' := by
  obtain ⟨i0, hi, hz0, hz1, hz2⟩ := info_parts info5
  have u1 := Try.underlying22
  obtain ⟨y, rfl⟩ := Int.eq_ofNat_of_zero_le hx0
  have hy : y < 256 := by omega
  have hsz := h.len
  rw [Poly.out_length] at hsz
  have hcap := h.cap
  have hmx := h.max
  unfold maxLen at hmx
  have hds := Poly.sz_factor hP (by omega)
  rw [hsz] at hds
  have HSZ := Lib.hid hsz; have HDS := Lib.hid hds
  have SY := Lib.hid (Poly.synth hP)
  have H := Lib.hid h; clear h hsz hds hP
  obtain ⟨m, rfl⟩ : ∃ m, n = m + 2 := ⟨n - 2, by omega⟩
  have e2 : m + 2 - 1 = m + 1 := by omega
  rw [e2]
  have N0 := blk_new vb 5 w []
  have N1 := Lib.hid (N0.own (B := w.heap.size) (Nat.le_refl _) (by simp [maxLen]))
  have hb1 : Below w.heap.size w (w.alloc (.cells (row vb []) 5 (0, 0))) := (Below.refl _ _).alloc (Nat.le_refl _) _
  have hd1 := (H.out.drop1 (by omega)).fw hb1
  rw [e2] at hd1
  have A1 := Lib.hid hd1
  clear N0 hd1
  have i1 : ¬ c = 1 := by omega
  have i2 : (1 : Int) ≤ ((m + 2 : Nat) : Int) := by omega
  have i3 : ¬ c - 1 = 0 := by omega
  have i4 : ((m + 2 : Nat) : Int) - 1 = ((m + 1 : Nat) : Int) := by omega
  go_enter Try.func57, Try.ntmps57
  go_wp2_with (at_builtin; refine wpList_append_rd rfl _ _ 22 rfl vb vb_one w.heap.size 5 i0 (.int .u8 0) 1 u1 hi hz0 hz1 hz2 rfl _ 0 0 [] rfl N1.out _ (m + 1) (c - 1) _ rfl A1.out (by unfold maxLen; omega) (by omega) hb1.size ?_; intro sa c2 w2 hown hgr; obtain ⟨g, rfl, hg, hcm, hpre⟩ := hown.pre (by omega); have HP := Lib.hid hpre; have hb2 := hb1.grown hgr hb1.size (fun k e => by cases e; exact Nat.le_refl _); clear hown hgr hpre)
  have hpl : ([] ++ (Poly.out P).drop 1 : List Nat).length = m + 1 := by rw [List.nil_append, List.length_drop, H.out.len]; omega
  go_loopw [6] (fun i wr => ∃ (j : Nat) (L : List Nat), j ≤ m ∧ i = .int .i64 ((j : Int) - 1) ∧ Hid (L.length = m + 1) ∧ Hid (Gf.Byt L) ∧ Hid (∀ k, j ≤ k → k < m + 1 → L[k]? = some (d.cf k).n) ∧ Hid (∀ k, k < j → L[k]? = some (P.cf (k + 1)).n) ∧ Hid (Pre vb 5 wr g c2 L) ∧ Below w.heap.size w wr) (fun i _ => (intOf i + 1).toNat)
  case atStart =>
    refine ⟨m, _, Nat.le_refl _, by go_num, hpl, Poly.append_byt (fun x hx => by cases hx) (Poly.drop_byt (Poly.out_byt P) 1), ?_, ?_, HP.out, hb2⟩
    · intro k h1 h2
      have hk : k = m := by omega
      subst hk
      rw [List.nil_append, Poly.out_drop_get (by rw [HSZ.out]; omega), SY.out k, Poly.cf_of_ge (p := d) (i := k + 1) (by have := HDS.out; omega), Fq.zero_mul, Fq.add_zero]
    · intro k hk
      rw [List.nil_append, Poly.out_drop_get (by rw [HSZ.out]; omega)]
  case round =>
    obtain ⟨j, L, hj, rfl, hL, hLb, hhi, hlo, hB, hbe⟩ := hrel
    by_cases hj0 : j = 0
    · subst hj0
      have hLd : L = Poly.out d := by
        refine Poly.eq_out hLb.out ?_ (by rw [hL.out]; have := HDS.out; omega)
        apply Poly.ext
        intro k
        by_cases hk : k < m + 1
        · rw [Poly.cf_of_some (hhi.out k (by omega) hk), Fq.of_val]
        · rw [Poly.cf_of_none (by rw [hL.out]; omega), Poly.cf_of_ge (by have := HDS.out; omega)]
      have HLD := Lib.hid hLd
      clear hLd
      go_wp2
      go_ret
      refine ⟨_, c2, rfl, ?_, hbe⟩
      rw [← HLD.out]
      exact hB.out.rd hL.out hcm
    · obtain ⟨q, rfl⟩ : ∃ q, j = q + 1 := ⟨j - 1, by omega⟩
      have hq1 := hlo.out q (by omega)
      have hq2 := hhi.out (q + 1) (by omega) (by omega)
      obtain ⟨u, hu⟩ : ∃ u, u = (P.cf (q + 1)).n := ⟨_, rfl⟩
      obtain ⟨v, hv⟩ : ∃ v, v = (d.cf (q + 1)).n := ⟨_, rfl⟩
      rw [← hu] at hq1
      rw [← hv] at hq2
      have bu := hLb.out.at hq1
      have bv := hLb.out.at hq2
      have d1 := hB.out.cell hq1
      have d2 := hB.out.cell hq2
      have f1 := hB.out.frozen q
      obtain ⟨z, hz⟩ : ∃ z, z = Gf.mul v y := ⟨_, rfl⟩
      have bz : z < 256 := by rw [hz]; exact Gf.mul_lt _ _ bv
      have hnew : Hid (u ^^^ z = (d.cf q).n) := by
        show _ = _
        rw [SY.out q, hu, hz, hv, Int.toNat_natCast, Fq.add_n, Fq.mul_n, Fq.of_n hy]
      have ex : bits .xor .u8 ((u : Nat) : Int) ((z : Nat) : Int) = ((u ^^^ z : Nat) : Int) := by rw [xor8 _ _ (by omega) (by omega) (by omega) (by omega)]; rfl
      have EX := Lib.hid ex
      have E1 : ∀ w, Calls Try.prog 33 #[.int .u8 ((v : Nat) : Int), .int .u8 ((y : Nat) : Int)] w fun e w' => e = .returned (.int .u8 ((z : Nat) : Int)) ∧ w = w' := fun w => by
        have := mul_any ((v : Nat) : Int) ((y : Nat) : Int) w (by omega) (by omega) (by omega) (by omega)
        rwa [Int.toNat_natCast, Int.toNat_natCast, ← hz] at this
      have HQ1 := Lib.hid hq1
      clear hu hv hz ex hq1 hq2 hj0
      unfold vb at d1 d2
      have i5 : ((q + 1 : Nat) : Int) - 1 = (q : Int) := by omega
      have i6 : (q : Int) < ((m + 1 : Nat) : Int) := by omega
      have i7 : (q : Int) + 1 < ((m + 1 : Nat) : Int) := by omega
      have i8 : ((q : Int) + 1).toNat = q + 1 := by omega
      have i9 : (q : Int) < (m : Int) := by omega
      have i10 : (q : Int) < (m : Int) + 1 := by omega
      have i11 : (q : Int) + 1 < (m : Int) + 1 := by omega
      have i12 : 0 ≤ (q : Int) + 1 := by omega
      have i13 : IntKind.i64.wrap ((q : Int) + 1) = (q : Int) + 1 := by rw [IntKind.wrap_i64]; omega
      have i14 : (q : Int) + 1 ≤ 9223372036854775807 := by omega
      rw [i5]
      go_wp2_with fail
      go_region_with (go_at_call 33; refine (E1 _).mono ?_; rintro e w' ⟨rfl, rfl⟩)
      all_goals
        try go_wp2
        go_roundw
        case rel =>
          refine ⟨q, L.set q (u ^^^ z), by omega, by go_num, ?_, Poly.set_byt hLb.out (Gf.xor_lt bu bz) _, ?_, ?_, ?_, (fdrewN hbe 1).setCell hg _⟩
          · show (L.set _ _).length = _
            rw [List.length_set]; exact hL.out
          · intro k h1 h2
            rw [List.getElem?_set]
            by_cases e : q = k
            · subst e
              rw [if_pos rfl, if_pos (by rw [hL.out]; omega), hnew.out]
            · rw [if_neg e]; exact hhi.out k (by omega) h2
          · intro k hk
            rw [List.getElem?_set, if_neg (by omega)]; exact hlo.out k (by omega)
          · rw [EX.out]
            exact (hB.out.drew 1).set q _
        case measure => simp [intOf]

theorem mult_zero (a : Option Addr) (n c : Nat) (p : List Nat) (x : Int) (w : World) (h : Rd vb w a n c p) (hp : Gf.Byt p) (hn : n ≤ 140737488355000) (h0 : Poly.of p = 0) :
    Calls Try.prog 38 #[.slice a n c, .int .u8 x] w fun e w' => e = .returned (.tuple #[.int .i64 0, .int .i64 1]) ∧ Below w.heap.size w w' := by
  have H := Lib.hid h; clear h
  go_enter Try.func38, Try.ntmps38
  go_wp2_with fail
  refine (trim_any _ _ _ p _ H.out hp (by omega)).mono ?_
  rintro e w1 ⟨g1, rfl, hg1, hB1, hb1⟩
  clear hB1
  rw [h0, Poly.out_zero]
  go_wp2
  go_ret2
  exact ⟨rfl, hb1⟩

set_option maxHeartbeats 1000000 in
theorem mult_any (a : Option Addr) (n c : Nat) (p : List Nat) (x : Int) (w : World) (h : Rd vb w a n c p) (hp : Gf.Byt p) (hx0 : 0 ≤ x) (hx1 : x < 256) (hn : n ≤ 140737488355000) (h0 : 0 < (Poly.of p).sz) :
    Calls Try.prog 38 #[.slice a n c, .int .u8 x] w fun e w' => ∃ k : Nat, Poly.IsMult (Poly.of p) (Fq.of x.toNat) k ∧ k ≤ n ∧ e = .returned (.tuple #[.int .i64 (k : Int), .int .i64 0]) ∧ Below w.heap.size w w' := by
  have H := Lib.hid h; clear h
  obtain ⟨y, rfl⟩ := Int.eq_ofNat_of_zero_le hx0
  have hy : y < 256 := by omega
  rw [Int.toNat_natCast]
  go_enter Try.func38, Try.ntmps38
  go_wp2_with fail
  refine (trim_s _ _ _ p _ H.out hp (by omega)).mono ?_
  rintro e w1 ⟨a1, n1, c1, rfl, r1, l1, b1⟩
  have lx := r1.len
  rw [Poly.out_length] at lx
  have R1 := Lib.hid r1; clear r1
  have e0 : (((n1 : Nat) : Int) == 0) = false := by simp; omega
  have HLX := Lib.hid lx; clear lx
  go_wp2_with fail
  go_loopw [0, 6] (fun v i wr => ∃ (k : Nat) (Q : Poly) (xa : Option Addr) (xn xc : Nat), v = .slice xa xn xc ∧ i = .int .i64 (k : Int) ∧ k + xn ≤ n ∧ xn ≤ n ∧ 0 < xn ∧ Hid (Rd vb wr xa xn xc (Poly.out Q)) ∧ Hid (Poly.of p = Poly.lpow (Fq.of y) k * Q) ∧ Below w.heap.size w wr) (fun v _ _ => lenV v)
  case atStart => exact ⟨0, _, a1, n1, c1, rfl, rfl, by omega, l1, by have := HLX.out; omega, R1.out, by show _ = _; rw [Poly.lpow, Poly.one_mul], b1⟩
  case round =>
    obtain ⟨k, Q, xa, xn, xc, rfl, rfl, hkn, hxn, hx0, hR, hv, hbe⟩ := hrel
    have lx := hR.out.len
    rw [Poly.out_length] at lx
    obtain ⟨z, HZ⟩ : ∃ z, Hid (Poly.eval Q (Fq.of y) = z) := ⟨_, rfl⟩
    have bz := z.h
    have E1 : Calls Try.prog 20 #[.slice xa xn xc, .int .u8 ((y : Nat) : Int)] wr fun e w' => e = .returned (.int .u8 ((z.n : Nat) : Int)) ∧ Drw wr w' := by
      have := eval_any xa xn xc (Poly.out Q) ((y : Nat) : Int) wr hR.out (Poly.out_byt _) (by omega) (by omega)
      rwa [Int.toNat_natCast, Poly.of_out, HZ.out] at this
    by_cases hz : z.n = 0
    · have hz2 := Fq.n_eq_zero.1 hz
      have e1 : (((z.n : Nat) : Int) == 0) = true := by rw [hz]; rfl
      obtain ⟨d, hd⟩ := Poly.factor (HZ.out.trans hz2)
      have hx2 : 2 ≤ xn := by
        have hdn : d ≠ 0 := fun e => by rw [e, Poly.zero_mul] at hd; rw [hd, Poly.sz_zero] at lx; omega
        have := Poly.sz_mul (Poly.sz_pos.2 hdn) (q := Poly.lin (Fq.of y)) (by rw [Poly.sz_lin]; omega)
        have := Poly.sz_pos.2 hdn
        rw [← hd, Poly.sz_lin] at *
        omega
      obtain ⟨b3, o3, rfl⟩ := hR.out.lt_of_pos hx0
      have hv2 : Hid (Poly.of p = Poly.lpow (Fq.of y) (k + 1) * d) := by
        show _ = _
        rw [hv.out, hd, Poly.lpow]
        ac_rfl
      have HD := Lib.hid hd
      clear lx hz hz2 hd
      go_wp2_with (first
        | (go_at_call 20; refine E1.mono ?_; rintro e w3 ⟨rfl, hd3⟩)
        | (go_at_call 57; refine (withoutroot_any b3 o3 xn xc Q d _ _ (hR.out.drw hd3) (by omega) (by omega) (by omega) hx2 (by rw [Int.toNat_natCast]; exact HD.out)).mono ?_; rintro e w4 ⟨a4, c4, rfl, r4, b4⟩; have R4 := Lib.hid r4; clear r4))
      go_roundw
      case rel => exact ⟨k + 1, d, a4, xn - 1, c4, rfl, by go_num, by omega, by omega, by omega, R4.out, hv2, bt (bt hbe hd3.fw) b4⟩
      case measure => simp [lenV]; omega
    · have e1 : (((z.n : Nat) : Int) == 0) = false := by simp; omega
      have hM : Hid (Poly.IsMult (Poly.of p) (Fq.of y) k) := ⟨Q, hv.out, by rw [HZ.out]; exact fun e => hz (by rw [e]; rfl)⟩
      clear lx hz
      go_wp2_with (go_at_call 20; refine E1.mono ?_; rintro e w3 ⟨rfl, hd3⟩)
      go_ret2
      exact ⟨k, hM.out, by omega, rfl, bt hbe hd3.fw⟩

set_option maxHeartbeats 1000000 in
theorem deriv_any (a : Option Addr) (n c : Nat) (p : List Nat) (w : World) (h : Rd vb w a n c p) (hp : Gf.Byt p) (hn : n ≤ 140737488355000) :
    Calls Try.prog 40 #[.slice a n c] w (GivesS w n (Poly.out (Poly.deriv (Poly.of p)))) := by
  obtain ⟨i0, hi, hz0, hz1, hz2⟩ := info_parts info5
  have u1 := Try.underlying22
  have H := Lib.hid h; clear h
  go_enter Try.func40, Try.ntmps40
  go_wp2_with (at_make; refine wpList_make_blk rfl _ _ 22 rfl vb 0 5 i0 u1 hi hz0 hz1 rfl _ _ _ _ n rfl rfl rfl rfl (by rw [hz2]; omega) (by omega) ?_; intro w2 hk2 hb2 hs2; have HK2 := Lib.hid hk2; clear hk2 hs2)
  go_loopw [4] (fun i wr => ∃ (k : Nat) (L : List Nat), 2 * k ≤ n + 1 ∧ i = .int .i64 ((2 * k + 1 : Nat) : Int) ∧ Hid (L.length = n) ∧ Hid (Gf.Byt L) ∧ Hid (∀ j, j < n → L[j]? = some (if j < 2 * k ∧ j % 2 = 0 then p.getD (j + 1) 0 else 0)) ∧ Hid (Blk vb 5 wr w.heap.size L) ∧ Below w.heap.size w wr) (fun i _ => n + 2 - (intOf i).toNat)
  case atStart => exact ⟨0, _, by omega, rfl, List.length_replicate, Poly.zeros_byt n, fun j hj => by rw [List.getElem?_replicate, if_pos hj, if_neg (by omega)], HK2.out, hb2⟩
  case round =>
    obtain ⟨k, L, hk, rfl, hL, hLb, hv, hB, hbe⟩ := hrel
    obtain ⟨j, hj⟩ : ∃ j, j = 2 * k := ⟨_, rfl⟩
    rw [← hj] at hv hk
    rw [show 2 * k + 1 = j + 1 from by omega]
    by_cases hlt : j + 1 < n
    · obtain ⟨x, hx⟩ : ∃ x, p[j + 1]? = some x := ⟨_, List.getElem?_eq_getElem (by rw [H.out.len]; exact hlt)⟩
      obtain ⟨b, o, rfl, c1⟩ := (H.out.fw hbe).cell (j + 1) x hx
      have bx := hp.at hx
      have hvj := hv.out j (by omega)
      have d1 := hB.out.cell hvj
      have f1 := hB.out.frozen j
      have HX := Lib.hid hx; have HJ := Lib.hid hj
      clear hx hvj hj
      unfold vb at c1 d1
      have i1 : ((j : Int) + 1) < (n : Int) := by omega
      have i2 : (j : Int) < (n : Int) := by omega
      go_wp2
      go_roundw
      case rel =>
        refine ⟨k + 1, L.set j x, by have := HJ.out; omega, by have := HJ.out; go_num, ?_, Poly.set_byt hLb.out bx _, ?_, hB.out.set j x, hbe.setCell (Nat.le_refl _) _⟩
        · show (L.set _ _).length = _
          rw [List.length_set]; exact hL.out
        · intro t ht
          have := HJ.out
          rw [List.getElem?_set]
          by_cases e : j = t
          · subst e
            rw [if_pos rfl, if_pos (by rw [hL.out]; omega), if_pos (by omega), List.getD_eq_getElem?_getD, HX.out]; rfl
          · rw [if_neg e, hv.out t ht]
            congr 1
            by_cases h1 : t < j ∧ t % 2 = 0
            · rw [if_pos h1, if_pos (by omega)]
            · rw [if_neg h1, if_neg (by omega)]
      case measure => simp [intOf]; omega
    · have hfin : Poly.of L = (Poly.of p).deriv := by
        apply Poly.ext
        intro t
        rw [Poly.cf_deriv, Poly.cf_of, Poly.cf_of, List.getD_eq_getElem?_getD]
        by_cases ht : t < n
        · rw [hv.out t ht]
          by_cases h1 : t < j ∧ t % 2 = 0
          · rw [if_pos h1, if_pos h1.2]; rfl
          · rw [if_neg h1]
            by_cases h2 : t % 2 = 0
            · rw [if_pos h2, List.getD_eq_getElem?_getD, List.getElem?_eq_none (by rw [H.out.len]; omega)]; rfl
            · rw [if_neg h2]; rfl
        · rw [List.getElem?_eq_none (by rw [hL.out]; omega), List.getD_eq_getElem?_getD, List.getElem?_eq_none (by rw [H.out.len]; omega)]
          split <;> rfl
      have HF := Lib.hid hfin
      clear hfin hj
      have i1 : ¬ ((j : Int) + 1) < (n : Int) := by omega
      go_wp2_with (go_at_call 22; refine (trim_s _ _ _ L _ (hB.out.rdn hL.out (Nat.le_refl _) (by omega)) hLb.out (by omega)).mono ?_; rintro e w7 ⟨a7, n7, c7, rfl, r7, l7, b7⟩; rw [HF.out] at r7)
      go_ret
      exact ⟨a7, n7, c7, rfl, r7, l7, bt hbe b7⟩
end Go.Proofs.Ytkbcingibgnnpaa
