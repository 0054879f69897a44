/- PolynomialProducts: the walk. -/
import Derived.Test.YtkbcingibgnnpaaRefM
namespace Poly
theorem of_unit (t : Nat) : of ((List.replicate (t + 1) 0).set t 1) = mon 1 t := ext fun i => by
  rw [cf_of, cf_mon, List.getD_eq_getElem?_getD, List.getElem?_set]
  by_cases e : t = i
  · subst e; simp; rfl
  · rw [if_neg e, if_neg (fun h => e h.symm), List.getElem?_replicate]
    split <;> rfl
end Poly
namespace Go.Proofs.Ytkbcingibgnnpaa
open Go.RowKit Go.Kin
set_option maxRecDepth 100000

set_option maxHeartbeats 4000000 in
theorem walk_PolynomialProducts (a : Option Addr) (n c : Nat) (p : List Nat) (b : Option Addr) (m d : Nat) (q : List Nat) (hh : Int) (w : World) (h1 : Rd vb w a n c p) (hp : ∀ x ∈ p, x < 256) (h2 : Rd vb w b m d q) (hq : ∀ x ∈ q, x < 256) (hx : 0 ≤ hh ∧ hh < 65536) :
    Calls Try.prog 5 #[.slice a n c, .slice b m d, .int .u16 hh] w fun e w' => e = .returned (.bool true) ∧ Below w.heap.size w w' := by
  obtain ⟨i0, hi, hz0, hz1, hz2⟩ := info_parts info5
  have u1 := Try.underlying22
  have bp : Gf.Byt p := hp
  have bq : Gf.Byt q := hq
  clear hp hq
  have m1 : n ≤ 9223372036854775807 := by have := h1.cap; have := h1.max; unfold maxLen at *; omega
  have m2 : m ≤ 9223372036854775807 := by have := h2.cap; have := h2.max; unfold maxLen at *; omega
  have k1 := Poly.sz_of_le p
  rw [h1.len] at k1
  obtain ⟨s, HS⟩ : ∃ s, Hid ((Poly.of p).sz = s) := ⟨_, rfl⟩
  rw [HS.out] at k1
  obtain ⟨h, rfl⟩ := Int.eq_ofNat_of_zero_le hx.1
  obtain ⟨t, ht⟩ : ∃ t, t = h % 1100 := ⟨_, rfl⟩
  have t1 : ((h : Int)).tmod 1100 = (t : Int) := by rw [Int.tmod_eq_emod_of_nonneg (by omega)]; omega
  have t2 : t < 1100 := by omega
  have UB : Gf.Byt ((List.replicate (t + 1) 0).set t 1) := Poly.set_byt (Poly.zeros_byt _) (by omega) _
  have US : (Poly.of ((List.replicate (t + 1) 0).set t 1)).sz = t + 1 := by rw [Poly.of_unit, Poly.sz_mon Fq.one_ne_zero]
  have HUS := Lib.hid US
  clear ht US
  by_cases hbig : 60 < n ∨ 60 < m
  · rcases Nat.lt_or_ge 60 n with hc | hc
    all_goals
      go_enter Try.func5, Try.ntmps5
      go_wp2_with (go_at_call 13; refine (awake_any _).mono ?_; rintro e w1 ⟨rfl, b1⟩)
      try (exfalso; omega)
    all_goals
      go_ret
      exact ⟨rfl, b1⟩
  have hn : n ≤ 60 := by omega
  have hm : m ≤ 60 := by omega
  clear hbig
  by_cases hs0 : s = 0
  · have hz := Poly.sz_eq_zero.1 (HS.out.trans hs0)
    have HZ := Lib.hid hz
    clear hz
    go_enter Try.func5, Try.ntmps5
    go_wp2_with (first
      | (go_at_call 13; refine (awake_any _).mono ?_; rintro e w1 ⟨rfl, b1⟩)
      | (go_at_call 22; refine (trim_s _ _ _ p _ (by repeat (first | assumption | apply Rd.alloc | (apply Rd.fw2; assumption))) bp (by omega)).mono ?_; rintro e w2 ⟨a2, n2, c2, rfl, r2, l2, b2⟩)
      | (go_at_call 23; refine (rtrim_any _ _ _ p _ (by repeat (first | assumption | apply Rd.alloc | (apply Rd.fw2; assumption))) bp (by omega)).mono ?_; rintro e w2 ⟨a2, n2, c2, rfl, r2, l2, b2⟩)
      | (go_at_call 16; refine (lsame_eq _ _ _ _ _ _ _ _ _ (by repeat (first | assumption | apply Rd.alloc | (apply Rd.fw2; assumption))) (by repeat (first | assumption | apply Rd.alloc | (apply Rd.fw2; assumption))) (Poly.out_byt _) (Poly.out_byt _) rfl).mono ?_; rintro e w' ⟨rfl, rfl⟩)
      | (go_at_call_of 21 a; refine (degree_any _ _ _ p _ (by repeat (first | assumption | apply Rd.alloc | (apply Rd.fw2; assumption))) bp).mono ?_; rintro e w' ⟨rfl, rfl⟩; rw [HS.out])
      | (go_at_call 24; refine (rdegree_any _ _ _ p _ (by repeat (first | assumption | apply Rd.alloc | (apply Rd.fw2; assumption))) bp (by omega)).mono ?_; rintro e w2 ⟨rfl, b2⟩; rw [HS.out])
      | (go_at_call 25; refine (padd_s _ _ _ _ _ _ p q _ (by repeat (first | assumption | apply Rd.alloc | (apply Rd.fw2; assumption))) (by repeat (first | assumption | apply Rd.alloc | (apply Rd.fw2; assumption))) bp bq (by omega)).mono ?_; rintro e w2 ⟨a2, n2, c2, rfl, r2, l2, b2⟩)
      | (go_at_call 26; refine (radd_any _ _ _ _ _ _ p q _ (by repeat (first | assumption | apply Rd.alloc | (apply Rd.fw2; assumption))) (by repeat (first | assumption | apply Rd.alloc | (apply Rd.fw2; assumption))) bp bq (by omega)).mono ?_; rintro e w2 ⟨a2, n2, c2, rfl, r2, l2, b2⟩)
      | (go_at_call_of 27 b; refine (pmul_g _ _ _ _ _ _ p q _ (by repeat (first | assumption | apply Rd.alloc | (apply Rd.fw2; assumption))) (by repeat (first | assumption | apply Rd.alloc | (apply Rd.fw2; assumption))) bp bq (by omega)).mono ?_; rintro e w2 ⟨a2, n2, c2, rfl, r2, b2⟩)
      | (go_at_call 28; refine (rpmul_any _ _ _ _ _ _ p q _ (by repeat (first | assumption | apply Rd.alloc | (apply Rd.fw2; assumption))) (by repeat (first | assumption | apply Rd.alloc | (apply Rd.fw2; assumption))) bp bq (by omega)).mono ?_; rintro e w2 ⟨a2, n2, c2, rfl, r2, l2, b2⟩)
      | (at_make; refine wpList_make_blk rfl (.tmp 65) (.tmp 65) 22 rfl vb 0 5 i0 u1 hi hz0 hz1 rfl _ _ _ _ (t + 1) rfl rfl (by omega) (by omega) (by rw [hz2]; omega) (by omega) ?_; intro w3 hk3 hb3 hs3; have HK3 := Lib.hid hk3; have f3 := hk3.frozen t; have c3 := hk3.cell (i := t) (x := 0) (by rw [List.getElem?_replicate, if_pos (by omega)]); unfold vb at c3; have b3 : Below w2.heap.size w2 (w3.setCell ⟨w2.heap.size, t, none⟩ (.int .u8 1)) := hb3.setCell (Nat.le_refl _) _; clear hk3 hs3 hb3)
      | (go_at_call_of 27 a; refine (pmul_zero _ _ (t + 1) n _ _ ((List.replicate (t + 1) 0).set t 1) p _ ((HK3.out.set t 1).rdn (n := t + 1) (c := t + 1) (by simp) (Nat.le_refl _) (by omega)) (by repeat (first | assumption | apply Rd.alloc | (apply Rd.fw2; assumption))) UB bp (by omega) (by omega) (.inr HZ.out)).mono ?_; rintro e w4 ⟨rfl, b4⟩))
    go_ret
    exact ⟨rfl, by repeat (first | assumption | apply below_alloc | (apply bt'; assumption))⟩
  · have hs1 : 0 < s := by omega
    rcases Nat.lt_or_ge 1024 (t + s) with hts | hts
    · go_enter Try.func5, Try.ntmps5
      go_wp2_with (first
        | (go_at_call 13; refine (awake_any _).mono ?_; rintro e w1 ⟨rfl, b1⟩)
        | (go_at_call 22; refine (trim_s _ _ _ p _ (by repeat (first | assumption | apply Rd.alloc | (apply Rd.fw2; assumption))) bp (by omega)).mono ?_; rintro e w2 ⟨a2, n2, c2, rfl, r2, l2, b2⟩)
        | (go_at_call 23; refine (rtrim_any _ _ _ p _ (by repeat (first | assumption | apply Rd.alloc | (apply Rd.fw2; assumption))) bp (by omega)).mono ?_; rintro e w2 ⟨a2, n2, c2, rfl, r2, l2, b2⟩)
        | (go_at_call 16; refine (lsame_eq _ _ _ _ _ _ _ _ _ (by repeat (first | assumption | apply Rd.alloc | (apply Rd.fw2; assumption))) (by repeat (first | assumption | apply Rd.alloc | (apply Rd.fw2; assumption))) (Poly.out_byt _) (Poly.out_byt _) rfl).mono ?_; rintro e w' ⟨rfl, rfl⟩)
        | (go_at_call_of 21 a; refine (degree_any _ _ _ p _ (by repeat (first | assumption | apply Rd.alloc | (apply Rd.fw2; assumption))) bp).mono ?_; rintro e w' ⟨rfl, rfl⟩; rw [HS.out])
        | (go_at_call 24; refine (rdegree_any _ _ _ p _ (by repeat (first | assumption | apply Rd.alloc | (apply Rd.fw2; assumption))) bp (by omega)).mono ?_; rintro e w2 ⟨rfl, b2⟩; rw [HS.out])
        | (go_at_call 25; refine (padd_s _ _ _ _ _ _ p q _ (by repeat (first | assumption | apply Rd.alloc | (apply Rd.fw2; assumption))) (by repeat (first | assumption | apply Rd.alloc | (apply Rd.fw2; assumption))) bp bq (by omega)).mono ?_; rintro e w2 ⟨a2, n2, c2, rfl, r2, l2, b2⟩)
        | (go_at_call 26; refine (radd_any _ _ _ _ _ _ p q _ (by repeat (first | assumption | apply Rd.alloc | (apply Rd.fw2; assumption))) (by repeat (first | assumption | apply Rd.alloc | (apply Rd.fw2; assumption))) bp bq (by omega)).mono ?_; rintro e w2 ⟨a2, n2, c2, rfl, r2, l2, b2⟩)
        | (go_at_call_of 27 b; refine (pmul_g _ _ _ _ _ _ p q _ (by repeat (first | assumption | apply Rd.alloc | (apply Rd.fw2; assumption))) (by repeat (first | assumption | apply Rd.alloc | (apply Rd.fw2; assumption))) bp bq (by omega)).mono ?_; rintro e w2 ⟨a2, n2, c2, rfl, r2, b2⟩)
        | (go_at_call 28; refine (rpmul_any _ _ _ _ _ _ p q _ (by repeat (first | assumption | apply Rd.alloc | (apply Rd.fw2; assumption))) (by repeat (first | assumption | apply Rd.alloc | (apply Rd.fw2; assumption))) bp bq (by omega)).mono ?_; rintro e w2 ⟨a2, n2, c2, rfl, r2, l2, b2⟩)
        | (at_make; refine wpList_make_blk rfl (.tmp 65) (.tmp 65) 22 rfl vb 0 5 i0 u1 hi hz0 hz1 rfl _ _ _ _ (t + 1) rfl rfl (by omega) (by omega) (by rw [hz2]; omega) (by omega) ?_; intro w3 hk3 hb3 hs3; have HK3 := Lib.hid hk3; have f3 := hk3.frozen t; have c3 := hk3.cell (i := t) (x := 0) (by rw [List.getElem?_replicate, if_pos (by omega)]); unfold vb at c3; have b3 : Below w2.heap.size w2 (w3.setCell ⟨w2.heap.size, t, none⟩ (.int .u8 1)) := hb3.setCell (Nat.le_refl _) _; clear hk3 hs3 hb3)
        | (go_at_call_of 27 a; refine (pmul_big _ _ (t + 1) n _ _ ((List.replicate (t + 1) 0).set t 1) p _ ((HK3.out.set t 1).rdn (n := t + 1) (c := t + 1) (by simp) (Nat.le_refl _) (by omega)) (by repeat (first | assumption | apply Rd.alloc | (apply Rd.fw2; assumption))) UB bp (by omega) (by omega) (by rw [HUS.out]; omega) (by rw [HS.out]; omega) (by rw [HUS.out, HS.out]; omega)).mono ?_; rintro e w4 ⟨rfl, b4⟩))
      go_ret
      exact ⟨rfl, by repeat (first | assumption | apply below_alloc | (apply bt'; assumption))⟩

    · have z0 : p.getD 0 0 < 256 := by
        rw [List.getD_eq_getElem?_getD]
        cases h : p[0]? with
        | none => simp
        | some z => exact bp.at h
      obtain ⟨v, HV⟩ : ∃ v, Hid (p.getD 0 0 = v) := ⟨_, rfl⟩
      rw [HV.out] at z0
      have hcell : Hid (t < t + s → (Poly.out (Poly.of ((List.replicate (t + 1) 0).set t 1) * Poly.of p))[t]? = some v) := by
        intro hlt
        have hs4 := Poly.sz_mul (p := Poly.of ((List.replicate (t + 1) 0).set t 1)) (q := Poly.of p) (by rw [HUS.out]; omega) (by rw [HS.out]; omega)
        rw [HUS.out, HS.out] at hs4
        rw [Poly.out_get (by rw [hs4]; omega), Poly.of_unit, Poly.cf_mon_mul, if_pos (Nat.le_refl _), Nat.sub_self, Fq.one_mul, Poly.cf_of, HV.out, Fq.of_n z0]
      go_enter Try.func5, Try.ntmps5
      go_wp2_with (first
        | (go_at_call 13; refine (awake_any _).mono ?_; rintro e w1 ⟨rfl, b1⟩)
        | (go_at_call 22; refine (trim_s _ _ _ p _ (by repeat (first | assumption | apply Rd.alloc | (apply Rd.fw2; assumption))) bp (by omega)).mono ?_; rintro e w2 ⟨a2, n2, c2, rfl, r2, l2, b2⟩)
        | (go_at_call 23; refine (rtrim_any _ _ _ p _ (by repeat (first | assumption | apply Rd.alloc | (apply Rd.fw2; assumption))) bp (by omega)).mono ?_; rintro e w2 ⟨a2, n2, c2, rfl, r2, l2, b2⟩)
        | (go_at_call 16; refine (lsame_eq _ _ _ _ _ _ _ _ _ (by repeat (first | assumption | apply Rd.alloc | (apply Rd.fw2; assumption))) (by repeat (first | assumption | apply Rd.alloc | (apply Rd.fw2; assumption))) (Poly.out_byt _) (Poly.out_byt _) rfl).mono ?_; rintro e w' ⟨rfl, rfl⟩)
        | (go_at_call_of 21 a; refine (degree_any _ _ _ p _ (by repeat (first | assumption | apply Rd.alloc | (apply Rd.fw2; assumption))) bp).mono ?_; rintro e w' ⟨rfl, rfl⟩; rw [HS.out])
        | (go_at_call 24; refine (rdegree_any _ _ _ p _ (by repeat (first | assumption | apply Rd.alloc | (apply Rd.fw2; assumption))) bp (by omega)).mono ?_; rintro e w2 ⟨rfl, b2⟩; rw [HS.out])
        | (go_at_call 25; refine (padd_s _ _ _ _ _ _ p q _ (by repeat (first | assumption | apply Rd.alloc | (apply Rd.fw2; assumption))) (by repeat (first | assumption | apply Rd.alloc | (apply Rd.fw2; assumption))) bp bq (by omega)).mono ?_; rintro e w2 ⟨a2, n2, c2, rfl, r2, l2, b2⟩)
        | (go_at_call 26; refine (radd_any _ _ _ _ _ _ p q _ (by repeat (first | assumption | apply Rd.alloc | (apply Rd.fw2; assumption))) (by repeat (first | assumption | apply Rd.alloc | (apply Rd.fw2; assumption))) bp bq (by omega)).mono ?_; rintro e w2 ⟨a2, n2, c2, rfl, r2, l2, b2⟩)
        | (go_at_call_of 27 b; refine (pmul_g _ _ _ _ _ _ p q _ (by repeat (first | assumption | apply Rd.alloc | (apply Rd.fw2; assumption))) (by repeat (first | assumption | apply Rd.alloc | (apply Rd.fw2; assumption))) bp bq (by omega)).mono ?_; rintro e w2 ⟨a2, n2, c2, rfl, r2, b2⟩)
        | (go_at_call 28; refine (rpmul_any _ _ _ _ _ _ p q _ (by repeat (first | assumption | apply Rd.alloc | (apply Rd.fw2; assumption))) (by repeat (first | assumption | apply Rd.alloc | (apply Rd.fw2; assumption))) bp bq (by omega)).mono ?_; rintro e w2 ⟨a2, n2, c2, rfl, r2, l2, b2⟩)
        | (at_make; refine wpList_make_blk rfl (.tmp 65) (.tmp 65) 22 rfl vb 0 5 i0 u1 hi hz0 hz1 rfl _ _ _ _ (t + 1) rfl rfl (by omega) (by omega) (by rw [hz2]; omega) (by omega) ?_; intro w3 hk3 hb3 hs3; have HK3 := Lib.hid hk3; have f3 := hk3.frozen t; have c3 := hk3.cell (i := t) (x := 0) (by rw [List.getElem?_replicate, if_pos (by omega)]); unfold vb at c3; have b3 : Below w2.heap.size w2 (w3.setCell ⟨w2.heap.size, t, none⟩ (.int .u8 1)) := hb3.setCell (Nat.le_refl _) _; clear hk3 hs3 hb3)
        | (go_at_call_of 27 a; refine (pmul_any _ _ (t + 1) n _ _ ((List.replicate (t + 1) 0).set t 1) p _ ((HK3.out.set t 1).rdn (n := t + 1) (c := t + 1) (by simp) (Nat.le_refl _) (by omega)) (by repeat (first | assumption | apply Rd.alloc | (apply Rd.fw2; assumption))) UB bp (by omega) (by omega) (by rw [HUS.out]; omega) (by rw [HS.out]; omega) (by rw [HUS.out, HS.out]; omega)).mono ?_; rintro e w4 ⟨g4, rfl, hg4, hB4, b4⟩; have hs4 := Poly.sz_mul (p := Poly.of ((List.replicate (t + 1) 0).set t 1)) (q := Poly.of p) (by rw [HUS.out]; omega) (by rw [HS.out]; omega); rw [HUS.out, HS.out, show t + 1 + s - 1 = t + s from (by omega)] at hs4; rw [Poly.out_length, hs4]; have HS4 := Lib.hid hs4; have HB4 := Lib.hid hB4; clear hs4 hB4))
      rename World => w5
      have HB5 := Lib.hid (HB4.out.fw b2)
      have c5 := HB5.out.cell (hcell.out (by omega))
      unfold vb at c5
      have x1 : IntKind.i64.wrap ((t : Int) + ((s : Int) - 1)) = (t : Int) + ((s : Int) - 1) := by rw [IntKind.wrap_i64]; omega
      have x2 : (t : Int) < (t : Int) + (s : Int) := by omega
      have r5 : Rd vb w5 a n c p := (by repeat (first | assumption | apply Rd.alloc | (apply Rd.fw2; assumption)))
      have E1 : ∀ i, Calls Try.prog 21 #[.slice (some ⟨g4, 0, none⟩) (t + s) (t + s)] (w5.drewN i) fun e w' => e = .returned (.int .i64 ((t : Int) + ((s : Int) - 1))) ∧ w5.drewN i = w' := fun i => by
        have := degree_any (some ⟨g4, 0, none⟩) (t + s) (t + s) (Poly.out (Poly.of ((List.replicate (t + 1) 0).set t 1) * Poly.of p)) (w5.drewN i) ((HB5.out.drew i).rdn (by rw [Poly.out_length, HS4.out]) (Nat.le_refl _) (by omega)) (Poly.out_byt _)
        rwa [Poly.of_out, HS4.out, show (((t + s : Nat) : Int) - 1) = (t : Int) + ((s : Int) - 1) from by omega] at this
      have E2 : ∀ i, Calls Try.prog 29 #[.slice a n c, .int .i64 0] (w5.drewN i) fun e w' => e = .returned (.int .u8 ((v : Nat) : Int)) ∧ w5.drewN i = w' := fun i => by
        have := rat_any a n c p 0 (w5.drewN i) (r5.drw ((Drw.refl _).step i))
        rw [HV.out] at this
        exact this
      go_quiet ((first | (go_at_call 21; exact qsame (E1 _)) | (go_at_call 29; exact qsame (E2 _))))
      go_wp2
      go_ret
      exact ⟨rfl, by apply fdrewN; repeat (first | assumption | apply below_alloc | (apply bt'; assumption))⟩
end Go.Proofs.Ytkbcingibgnnpaa
