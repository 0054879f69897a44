/- PolynomialFactors: the walk. -/
import Derived.Test.YtkbcingibgnnpaaOwnR
import Derived.Test.YtkbcingibgnnpaaRefI
namespace Go.Proofs.Ytkbcingibgnnpaa
open Go.RowKit Go.Kin
set_option maxRecDepth 100000

theorem eval_prod_iff {l : List Nat} {x : Nat} (hl : Gf.Byt l) (hx : x < 256) : decide (x ∈ l) = decide (Poly.eval (Poly.prod l) (Fq.of x) = 0) := by
  by_cases h : x ∈ l
  · rw [decide_eq_true h, decide_eq_true (Poly.eval_prod_zero h)]
  · rw [decide_eq_false h, decide_eq_false (Poly.eval_prod_ne hl hx h)]
theorem fq_zero_test (v : Fq) : (((v.n : Nat) : Int) == 0) = decide (v = 0) := by
  by_cases h : v = 0
  · rw [h]; rfl
  · rw [decide_eq_false h]
    have : v.n ≠ 0 := fun e => h (Fq.n_eq_zero.1 e)
    simp; omega

/-- The multiplicity of a root, as a function. -/
noncomputable def multOf (p : Poly) (x : Nat) : Nat := by
  classical
  exact if h : ∃ k, Poly.IsMult p (Fq.of x) k then Classical.choose h else 0
theorem multOf_eq {p : Poly} {x k : Nat} (h : Poly.IsMult p (Fq.of x) k) : k = multOf p x := by
  have he : ∃ k, Poly.IsMult p (Fq.of x) k := ⟨k, h⟩
  unfold multOf
  rw [dif_pos he]
  exact h.unique (Classical.choose_spec he)

theorem exists_mult (r : Fq) : ∀ (n : Nat) (p : Poly), p ≠ 0 → p.sz ≤ n → ∃ k, Poly.IsMult p r k := by
  intro n
  induction n with
  | zero => intro p hp h; exact absurd (Poly.sz_eq_zero.1 (by omega)) hp
  | succ n ih =>
    intro p hp h
    by_cases h0 : Poly.eval p r = 0
    · obtain ⟨d, hd⟩ := Poly.factor h0
      have hdn : d ≠ 0 := fun e => hp (by rw [hd, e, Poly.zero_mul])
      have h1 := Poly.sz_mul (Poly.sz_pos.2 hdn) (q := Poly.lin r) (by rw [Poly.sz_lin]; omega)
      rw [← hd, Poly.sz_lin] at h1
      obtain ⟨k, q, hq, hq0⟩ := ih d hdn (by omega)
      exact ⟨k + 1, q, by rw [hd, hq, Poly.lpow]; ac_rfl, hq0⟩
    · exact ⟨0, p, by rw [Poly.lpow, Poly.one_mul], h0⟩
theorem multOf_is {p : Poly} (hp : p ≠ 0) (x : Nat) : Poly.IsMult p (Fq.of x) (multOf p x) := by
  obtain ⟨k, hk⟩ := exists_mult (Fq.of x) p.sz p hp (Nat.le_refl _)
  rwa [← multOf_eq hk]
theorem sum_take_le (m : Nat → Nat) (l : List Nat) (k : Nat) : ((l.take k).map m).sum ≤ (l.map m).sum := by
  have e : (l.map m).sum = ((l.take k).map m).sum + ((l.drop k).map m).sum := by
    rw [← List.sum_append, ← List.map_append, List.take_append_drop]
  omega

set_option maxHeartbeats 8000000 in
theorem walk_PolynomialFactors (a : Option Addr) (n c : Nat) (p : List Nat) (x : Int) (w : World) (h1 : Rd vb w a n c p) (hp : ∀ x ∈ p, x < 256) (hx : 0 ≤ x ∧ x < 256) :
    Calls Try.prog 10 #[.slice a n c, .int .u8 x] w fun e w' => e = .returned (.bool true) ∧ Below w.heap.size w w' := by
  have bp : Gf.Byt p := hp
  obtain ⟨hx0, hx1⟩ := hx
  clear hp
  obtain ⟨y, rfl⟩ := Int.eq_ofNat_of_zero_le hx0
  have hy : y < 256 := by omega
  by_cases hbig : 30 < n
  · have mb : (decide (30 < n)) = true := by simpa using hbig
    have MB := Lib.hid mb
    clear mb hbig
    go_enter Try.func10, Try.ntmps10
    go_wp2_with (first
      | (go_at_call 13; refine (awake_any _).mono ?_; rintro e w1 ⟨rfl, b1⟩)
      | (go_at_call 18; refine (many1 a n c _ _ rfl).mono ?_; rintro e w' ⟨rfl, rfl⟩; rw [MB.out]))
    go_ret
    exact ⟨rfl, below_alloc _ b1⟩
  have mb : (decide (30 < n)) = false := by simp; omega
  have MB := Lib.hid mb
  have hn : n ≤ 30 := by omega
  clear mb hbig
  have H1 := Lib.hid h1
  obtain ⟨s, HS⟩ : ∃ s, Hid ((Poly.of p).sz = s) := ⟨_, rfl⟩
  obtain ⟨u, HU⟩ : ∃ u, Hid (Poly.eval (Poly.of p) (Fq.of y) = u) := ⟨_, rfl⟩
  obtain ⟨v, HV⟩ : ∃ v, Hid (Poly.eval (Poly.prod p) (Fq.of y) = v) := ⟨_, rfl⟩
  have bu := u.h
  have bv := v.h
  have hsp : Hid ((Poly.prod p).sz = 1 + n) := by show _ = _; rw [Poly.sz_prod, h1.len]; omega
  have hiv : Hid (decide (y ∈ p) = decide (v = 0)) := by show _ = _; rw [eval_prod_iff bp hy, HV.out]
  have VZ := Lib.hid (fq_zero_test v)
  have hsn : s ≤ n := by rw [← HS.out, ← h1.len]; exact Poly.sz_of_le p
  have e3 : (((1 + n : Nat) : Int) - 1 != (n : Int)) = false := by simp; omega
  have e4 : ((1 : Int) + (n : Int) - 1 != (n : Int)) = false := by simp; omega
  have tok : True := trivial
  clear h1
  go_enter Try.func10, Try.ntmps10
  go_wp2_with (first
    | (go_at_call 13; refine (awake_any _).mono ?_; rintro e w1 ⟨rfl, b1⟩)
    | (go_at_call 18; refine (many1 a n c _ _ rfl).mono ?_; rintro e w' ⟨rfl, rfl⟩; rw [MB.out])
    | (go_at_call 37; refine (fromroots_any _ _ _ p _ ((H1.out.fw b1).alloc _) bp (by omega)).mono ?_; rintro e w2 ⟨a2, c2, rfl, r2, b2⟩; have R2 := Lib.hid r2; have B2 := bt (below_alloc _ b1) b2; clear r2)
    | (go_at_call 21; refine (degree_any _ _ _ (Poly.out (Poly.prod p)) _ R2.out (Poly.out_byt _)).mono ?_; rintro e w' ⟨rfl, rfl⟩; rw [Poly.of_out, hsp.out]))
  clear b1 b2
  go_loop [7, 9, 43] (fun b _ i => ∃ k : Nat, k ≤ n ∧ i = .int .i64 (k : Int) ∧ b = .bool (decide (y ∈ p.take k))) (fun _ _ i => n - (intOf i).toNat)
  case atStart => exact ⟨0, by omega, rfl, by rw [List.take_zero]; rfl⟩
  case round =>
    obtain ⟨k, hk, rfl, rfl⟩ := hrel
    by_cases hlt : k < n
    · obtain ⟨z, hz⟩ : ∃ z, p[k]? = some z := ⟨_, List.getElem?_eq_getElem (by rw [H1.out.len]; omega)⟩
      obtain ⟨o1, o2, rfl, c1⟩ := (H1.out.fw B2).cell k z hz
      have bz := bp.at hz
      have HZ := Lib.hid hz
      clear hz
      unfold vb at c1
      have i1 : (k : Int) < (n : Int) := by omega
      by_cases hm : y ∈ p.take k
      · have hm2 : Hid (decide (y ∈ p.take (k + 1)) = true) := by
          refine decide_eq_true ?_
          rw [take_succ_get HZ.out]; exact List.mem_append_left _ hm
        rw [decide_eq_true hm]
        clear hm
        go_wp2
        go_round
        case rel => exact ⟨k + 1, by omega, by go_num, by rw [hm2.out]⟩
        case measure => simp [intOf]; omega
      · have hm2 : Hid (decide (y ∈ p.take (k + 1)) = (((z : Nat) : Int) == ((y : Nat) : Int))) := by
          show _ = _
          rw [take_succ_get HZ.out]
          by_cases e : z = y
          · rw [e, decide_eq_true (by simp)]; simp
          · rw [decide_eq_false (fun h => (List.mem_append.1 h).elim hm (fun h2 => e ((List.mem_singleton.1 h2).symm)))]
            symm
            simp; omega
        rw [decide_eq_false hm]
        clear hm
        go_wp2
        go_round
        case rel => exact ⟨k + 1, by omega, by go_num, by rw [hm2.out]⟩
        case measure => simp [intOf]; omega
    · have hkn : k = n := by omega
      have hx2 : decide (y ∈ p.take k) = decide (v = 0) := by rw [← hiv.out, hkn, List.take_of_length_le (by rw [H1.out.len]; omega)]
      rw [hx2]
      have HX2 := Lib.hid hx2
      have e5 : (decide (v = 0) != decide (v = 0)) = false := by simp
      obtain ⟨tv, HTV⟩ : ∃ tv, Hid (decide (v = 0) = tv) := ⟨_, rfl⟩
      rw [HTV.out] at e5 ⊢
      have vz2 : (((v.n : Nat) : Int) == 0) = tv := by rw [VZ.out, HTV.out]
      clear hx2 hkn
      by_cases hs0 : s = 0
      · have e6 : decide (((s : Nat) : Int) - 1 < 0) = true := by simp; omega
        clear hs0
        go_wp2_with (first
          | (go_at_call 20; refine (eval_any _ _ _ (Poly.out (Poly.prod p)) _ _ R2.out (Poly.out_byt _) (by omega) (by omega)).mono ?_; rintro e w3 ⟨rfl, hd⟩; have b3 := hd.fw; clear hd; rw [Poly.of_out, Int.toNat_natCast, HV.out])
          | (go_at_call 21; refine (degree_any _ _ _ p _ ((H1.out.fw B2).fw b3) bp).mono ?_; rintro e w' ⟨rfl, rfl⟩; rw [HS.out]))
        go_ret
        exact ⟨rfl, bt B2 b3⟩
      · have e6 : decide (((s : Nat) : Int) - 1 < 0) = false := by simp; omega
        obtain ⟨d, hd⟩ := Poly.div_lin (Poly.of p) (Fq.of y)
        rw [HU.out] at hd
        have HD := Lib.hid hd
        have hC : Hid ((Poly.C u).sz < (Poly.lin (Fq.of y)).sz) := by
          have := Poly.sz_C_le u
          show _ < _
          rw [Poly.sz_lin]; omega
        obtain ⟨cs, HCS⟩ : ∃ cs, Hid ((Poly.C u).sz = cs) := ⟨_, rfl⟩
        have hrt : Gf.Byt (Poly.rootsTo (Poly.of p) 256) := fun x hx => (Poly.rootsTo_mem hx).1
        have hp0 : Poly.of p ≠ 0 := fun e => hs0 (by rw [← HS.out, e]; rfl)
        clear hd
        go_wp2_with (first
          | (go_at_call 20; refine (eval_any _ _ _ (Poly.out (Poly.prod p)) _ _ R2.out (Poly.out_byt _) (by omega) (by omega)).mono ?_; rintro e w3 ⟨rfl, hd⟩; have b3 := bt B2 hd.fw; clear hd; rw [Poly.of_out, Int.toNat_natCast, HV.out])
          | (go_at_call 21; refine (degree_any _ _ _ p _ (H1.out.fw b3) bp).mono ?_; rintro e w' ⟨rfl, rfl⟩; rw [HS.out])
          | (go_at_call 30; refine (divmod_g _ _ n 2 _ _ p [y, 1] _ ((H1.out.fw b3).alloc _) (rd_newe vb 5 _ [y, 1] (n := 2) rfl (by omega) rfl) bp (byt2 hy (by omega)) (by omega) (by omega) (by rw [Poly.of_pair, Poly.sz_lin]; omega)).mono ?_; rintro e w4 ⟨D, R, a4, n4, c4, a5, n5, c5, hv4, hr4, rfl, r4, r5, b4⟩; rw [Poly.of_pair] at hv4 hr4; obtain ⟨hD, hRR⟩ := Poly.div_unique (hv4.symm.trans HD.out) hr4 hC.out; subst hD; subst hRR; have k5 := r5.len; rw [Poly.out_length, HCS.out] at k5; subst k5; have B4 := bt (below_alloc _ b3) b4; clear hv4 hr4 r4 r5 b4)
          | (go_at_call 38; refine (mult_any _ _ _ p _ _ (H1.out.fw B4) bp (by omega) (by omega) (by omega) (by rw [HS.out]; omega)).mono ?_; rintro e w5 ⟨mk, hmk, lmk, rfl, b5⟩; rw [Int.toNat_natCast] at hmk; have HMK := Lib.hid hmk; have B5 := bt B4 b5; clear hmk b5)
          | (go_at_call 39; refine (roots_g _ _ _ p _ (H1.out.fw B5) bp (by omega) (by rw [HS.out]; omega)).mono ?_; rintro e w6 ⟨a6, n6, c6, rfl, r6, b6⟩; have R6 := Lib.hid r6; have B6 := bt B5 b6; clear r6 b6))
        have htot := Poly.sum_mult_le hp0 (m := multOf (Poly.of p)) hrt (Poly.rootsTo_nodup _ _) (fun x _ => multOf_is hp0 x)
        rw [HS.out] at htot
        have hpos := HMK.out.pos
        rw [HU.out] at hpos
        have e7 : (((cs : Nat) : Int) == 0) = decide (u = 0) := by
          by_cases h : u = 0
          · rw [← HCS.out, h, Poly.C_zero]; rfl
          · rw [decide_eq_false h]
            have := Poly.sz_C h
            rw [HCS.out] at this
            simp; omega
        have e8 := fq_zero_test u
        have e9 : decide (0 < mk) = decide (u = 0) := by
          by_cases h : u = 0
          · rw [decide_eq_true h, decide_eq_true (hpos.2 h)]
          · rw [decide_eq_false h, decide_eq_false (fun h2 => h (hpos.1 h2))]
        obtain ⟨tu, HTU⟩ : ∃ tu, Hid (decide (u = 0) = tu) := ⟨_, rfl⟩
        rw [HTU.out] at e7 e8 e9
        obtain ⟨Rl, HRl⟩ : ∃ Rl, Hid (Poly.rootsTo (Poly.of p) 256 = Rl) := ⟨_, rfl⟩
        obtain ⟨m, hm⟩ : ∃ m, m = multOf (Poly.of p) := ⟨_, rfl⟩
        rw [HRl.out, ← hm] at htot
        rw [HRl.out] at hrt R6
        have HM := Lib.hid hm
        have HT := Lib.hid htot
        have hn6 : n6 ≤ 9223372036854775807 := by have := R6.out.cap; have := R6.out.max; unfold maxLen at *; omega
        clear hpos hm htot
        rename World => wo
        go_loopw [17, 19, 20, 21, 84] (fun sm _ _ _ i wr => ∃ j : Nat, j ≤ n6 ∧ i = .int .i64 (j : Int) ∧ sm = .int .i64 ((((Rl.take j).map m).sum : Nat) : Int) ∧ Below wo.heap.size wo wr) (fun _ _ _ _ i _ => n6 - (intOf i).toNat)
        case atStart => exact ⟨0, by omega, rfl, rfl, below_refl wo⟩
        case round =>
          obtain ⟨j, hj, rfl, rfl, hbe⟩ := hrel
          have hle := sum_take_le m Rl j
          by_cases hjl : j < n6
          · obtain ⟨z, hz⟩ : ∃ z, Rl[j]? = some z := ⟨_, List.getElem?_eq_getElem (by rw [R6.out.len]; omega)⟩
            obtain ⟨o1, o2, rfl, c1⟩ := (R6.out.fw hbe).cell j z hz
            have bz := hrt.at hz
            have hnx : Hid (((Rl.take (j + 1)).map m).sum = ((Rl.take j).map m).sum + m z) := by
              show _ = _
              rw [take_succ_get hz, List.map_append, List.sum_append]; simp
            have hle2 := sum_take_le m Rl (j + 1)
            rw [hnx.out] at hle2
            have b7 := bt B6 hbe
            obtain ⟨S, hS⟩ : ∃ S, S = ((Rl.take j).map m).sum := ⟨_, rfl⟩
            rw [← hS] at hle hle2 ⊢
            have HTO := HT.out
            have i3 : (S : Int) + (m z : Int) ≤ 9223372036854775807 := by omega
            have HSS := Lib.hid hS
            unfold vb at c1
            have i1 : (j : Int) < (n6 : Int) := by omega
            clear hz hS HTO
            go_wp2_with (go_at_call 38; refine (mult_any _ _ _ p _ _ (H1.out.fw b7) bp (by omega) (by omega) (by omega) (by rw [HS.out]; omega)).mono ?_; rintro e w8 ⟨k8, hk8, lk8, rfl, b8⟩; rw [Int.toNat_natCast] at hk8; have hk9 := multOf_eq hk8; rw [← HM.out] at hk9; subst hk9; clear hk8)
            go_roundw
            case rel =>
              refine ⟨j + 1, by omega, by go_num, ?_, bt hbe b8⟩
              rw [hnx.out, ← HSS.out]
              go_num
            case measure => simp [intOf]; omega
          · have hjn : j = n6 := by omega
            have hfin : Hid (((Rl.take j).map m).sum + 1 ≤ s) := by show _ ≤ _; have := HT.out; omega
            obtain ⟨S, hS⟩ : ∃ S, S = ((Rl.take j).map m).sum := ⟨_, rfl⟩
            rw [← hS] at hfin ⊢
            have i4 : decide ((S : Int) ≤ (s : Int) - 1) = true := by have := hfin.out; simp; omega
            clear hle hS hfin hjn
            have b7 := bt B6 hbe
            go_wp2_with (first
              | (go_at_call 20; refine (eval_any _ _ _ p _ _ (H1.out.fw b7) bp (by omega) (by omega)).mono ?_; rintro e w9 ⟨rfl, hd⟩; have b9 := bt b7 hd.fw; clear hd; rw [Int.toNat_natCast, HU.out])
              | (go_at_call 21; refine (degree_any _ _ _ p _ (H1.out.fw b9) bp).mono ?_; rintro e w' ⟨rfl, rfl⟩; rw [HS.out]))
            go_ret
            exact ⟨rfl, b9⟩
end Go.Proofs.Ytkbcingibgnnpaa
