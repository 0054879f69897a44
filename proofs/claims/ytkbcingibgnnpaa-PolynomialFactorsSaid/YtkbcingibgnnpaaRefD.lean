/- kinkeepref06.DivMod, Monic, GCD. -/
import Derived.Test.YtkbcingibgnnpaaRefI
import Derived.Test.YtkbcingibgnnpaaPolyL
namespace Go.Proofs.Ytkbcingibgnnpaa
open Go.RowKit Go.Kin
set_option maxRecDepth 100000

theorem _root_.Go.Kin.Own.other {α : Type} {f : α → Value} {B : Nat} {E : TypeId} {w : World} {a : Option Addr} {n c : Nat} {l : List α} (h : Own f B E w a n c l) (p : Addr) (v : Value) (hp : p.block < B) : Own f B E (w.setCell p v) a n c l := by
  obtain ⟨hl, h | ⟨g, cur, rfl, hB1, hg, r⟩⟩ := h
  · exact ⟨hl, .inl h⟩
  · exact ⟨hl, .inr ⟨g, cur, rfl, hB1, by rw [Below.heap_setCell _ _ _ _ (by omega)]; exact hg, r⟩⟩
theorem _root_.Go.Kin.Rd.other {α : Type} {f : α → Value} {w : World} {a : Option Addr} {n c : Nat} {l : List α} (h : Rd f w a n c l) (p : Addr) (v : Value) (hp : ∀ x, a = some x → x.block ≠ p.block) : Rd f (w.setCell p v) a n c l :=
  h.grown (b := p.block) (grown_set (grown_refl w _) p v rfl) hp
theorem own_block {f : Nat → Value} {B : Nat} {E : TypeId} {w : World} {a : Option Addr} {n c : Nat} {l : List Nat} (h : Own f B E w a n c l) : ∀ x, a = some x → B ≤ x.block ∧ x.block < w.heap.size := by
  intro x hx
  obtain ⟨hl, h | ⟨g, cur, rfl, hB1, hg, r⟩⟩ := h
  · rw [h.1] at hx; cases hx
  · cases hx; exact ⟨hB1, (Array.getElem?_eq_some_iff.1 hg).1⟩

set_option maxHeartbeats 2000000 in
theorem rdivmod_any (a b : Option Addr) (n m c d : Nat) (p q : List Nat) (w : World) (h1 : Rd vb w a n c p) (h2 : Rd vb w b m d q) (hp : Gf.Byt p) (hq : Gf.Byt q) (hn : n ≤ 1000000) (hm : m ≤ 1000000) (h0 : 0 < (Poly.of q).sz) :
    Calls Try.prog 36 #[.slice a n c, .slice b m d] w fun e w' => ∃ (d r : Poly) (a1 : Option Addr) (n1 c1 : Nat) (a2 : Option Addr) (n2 c2 : Nat), Poly.of p = d * Poly.of q + r ∧ r.sz < (Poly.of q).sz ∧ e = .returned (.tuple #[.slice a1 n1 c1, .slice a2 n2 c2]) ∧ Rd vb w' a1 n1 c1 (Poly.out d) ∧ Rd vb w' a2 n2 c2 (Poly.out r) ∧ n1 ≤ n + 1 ∧ n2 ≤ n ∧ Below w.heap.size w w' := by
  obtain ⟨i0, hi, hz0, hz1, hz2⟩ := info_parts info5
  have u1 := Try.underlying22
  have H1 := Lib.hid h1; have H2 := Lib.hid h2; clear h1 h2
  have BQ := Lib.hid (Poly.out_byt (Poly.of q))
  have oQ := Lib.hid (Poly.of_out (Poly.of q))
  have hQ := Poly.out_length (Poly.of q)
  obtain ⟨Q, HQ⟩ : ∃ Q, Hid (Poly.out (Poly.of q) = Q) := ⟨_, rfl⟩
  obtain ⟨t, HT⟩ : ∃ t, Hid ((Poly.of q).sz = t) := ⟨_, rfl⟩
  rw [HQ.out] at oQ BQ hQ
  rw [HT.out] at hQ h0
  have HQL := Lib.hid hQ; clear hQ
  obtain ⟨lead, hlead⟩ : ∃ x, Q[t - 1]? = some x := ⟨_, List.getElem?_eq_getElem (by rw [HQL.out]; omega)⟩
  have blead := BQ.out.at hlead
  have hlead0 : lead ≠ 0 := by
    intro e
    have h := Poly.cf_last (p := Poly.of q) (by rw [HT.out]; exact h0)
    rw [HT.out, ← oQ.out, Poly.cf_of_some hlead, e] at h
    exact h rfl
  have hlp : 0 < lead := by omega
  have binv := Gf.inv_lt lead blead
  have HLEAD := Lib.hid hlead; clear hlead hlead0
  have j1 : ((t : Int) - 1) < (t : Int) := by omega
  have j2 : 0 ≤ ((t : Int) - 1) := by omega
  go_enter Try.func36, Try.ntmps36
  go_wp2_with fail
  refine (rtrim_o _ _ _ p _ H1.out hp (by omega)).mono ?_
  rintro e w1 ⟨a1, n1, c1, rfl, r1, l1, b1⟩
  have R1 := Lib.hid r1; clear r1
  have B1 := Lib.hid (H2.out.fw b1)
  go_wp2_with fail
  refine (rtrim_o _ _ _ q _ B1.out hq (by omega)).mono ?_
  rintro e w2 ⟨a2, n2, c2, rfl, r2, l2, b2⟩
  rw [HQ.out] at r2
  have hn2 := r2.len
  rw [HQL.out] at hn2
  subst hn2
  have hob2 := own_block r2
  have HOB2 := Lib.hid hob2
  have R2 := Lib.hid r2.rd
  have hob1 := own_block R1.out
  have hob1' : ∀ x, a1 = some x → x.block < w2.heap.size := fun x hx => Nat.lt_of_lt_of_le (hob1 x hx).2 b2.size
  have HOB1 := Lib.hid hob1'
  have R1 := Lib.hid (R1.out.fw b2)
  clear r2 hob2 hob1 hob1'
  have b12 := bt b1 b2
  have hw2 := b12.size
  go_wp2_with (at_make; refine wpList_make_blk rfl _ _ 22 rfl vb 0 5 i0 u1 hi hz0 hz1 rfl _ _ _ _ (n + 1) rfl rfl (by omega) (by omega) (by rw [hz2]; omega) (by omega) ?_; intro w3 hk3 hb3 hs3; have HK3 := Lib.hid hk3; have R13 := Lib.hid (R1.out.fw hb3); have R23 := Lib.hid (R2.out.fw hb3); obtain ⟨o1, o2, rfl, c1⟩ := R23.out.cell (t - 1) lead HLEAD.out; unfold vb at c1; clear hk3)
  have hne2 : o1 ≠ w2.heap.size := by have := (HOB2.out _ rfl).2; show o1 ≠ _; simp only at this; omega
  go_wp2_with fail
  refine (rinv_any _ _ (by omega) (by omega)).mono ?_
  rintro e w' ⟨rfl, rfl⟩
  go_wp2_with fail
  go_loopw [6, 9, 10, 11] (fun rv _ _ _ wr => ∃ (R : Poly) (ra : Option Addr) (rn rc : Nat) (D : List Nat), rv = .slice ra rn rc ∧ rn ≤ n ∧ Hid (Rd vb wr ra rn rc (Poly.out R)) ∧ Hid (∀ x, ra = some x → x.block ≠ w2.heap.size) ∧ Hid (D.length = n + 1) ∧ Hid (Gf.Byt D) ∧ Hid (∀ i, i + t ≤ rn → D[i]? = some 0) ∧
      Hid (Poly.of p = Poly.of D * Poly.of q + R) ∧ Hid (Blk vb 5 wr w2.heap.size D) ∧ Hid (Rd vb wr (some ⟨o1, o2, none⟩) t c2 Q) ∧ Below w.heap.size w wr ∧ w2.heap.size < wr.heap.size) (fun rv _ _ _ _ => lenV rv)
  case atStart =>
    refine ⟨Poly.of p, a1, n1, _, List.replicate (n + 1) 0, rfl, by omega, R13.out.rd, ?_, List.length_replicate, Poly.zeros_byt _, ?_, ?_, HK3.out, R23.out, bt b12 hb3, HK3.out.lt⟩
    · intro x hx
      have h5 := HOB1.out x hx
      omega
    · intro i hi
      rw [List.getElem?_replicate, if_pos (by omega)]
    · show _ = _
      rw [Poly.of_zeros, Poly.zero_mul, Poly.zero_add]
  case round =>
    obtain ⟨R, ra, rn, rc, D, rfl, hrn, hR, hRb, hDl, hDb, hD0, hval, hBD, hBQ, hbe, hsz⟩ := hrel
    have lx := hR.out.len
    rw [Poly.out_length] at lx
    have LX := Lib.hid lx; clear lx
    have hwo := hbe.size
    by_cases hlt : rn < t
    · have e1 : decide ((t : Int) ≤ (rn : Int)) = false := by simp; omega
      go_wp2_with (go_at_call 23; refine (rtrim_any _ _ _ D _ (hBD.out.rdn hDl.out (Nat.le_refl _) (by omega)) hDb.out (by omega)).mono ?_; rintro e w5 ⟨a5, n5, c5, rfl, r5, l5, b5⟩)
      go_ret2
      exact ⟨Poly.of D, R, a5, n5, c5, ra, rn, rc, hval.out, by rw [LX.out, HT.out]; exact hlt, rfl, r5, hR.out.fw b5, l5, hrn, bt hbe b5⟩
    · have e1 : decide ((t : Int) ≤ (rn : Int)) = true := by simp; omega
      obtain ⟨s, hs⟩ : ∃ s, rn = s + t := ⟨rn - t, by omega⟩
      subst hs
      obtain ⟨u, hu⟩ : ∃ u, u = (R.cf (s + t - 1)).n := ⟨_, rfl⟩
      have hcell : (Poly.out R)[s + t - 1]? = some u := by rw [hu]; exact Poly.out_get (by rw [LX.out]; omega)
      have bu : u < 256 := (Poly.out_byt R).at hcell
      obtain ⟨b3, o3, rfl, d1⟩ := hR.out.cell _ _ hcell
      have hb3ne := hRb.out _ rfl
      simp only at hb3ne
      have hz3 := hD0.out s (by omega)
      have d2 := hBD.out.cell hz3
      have f2 := hBD.out.frozen s
      obtain ⟨z, hz⟩ : ∃ z, z = Gf.mul u (Gf.inv lead) := ⟨_, rfl⟩
      have bz : z < 256 := by rw [hz]; exact Gf.mul_lt _ _ bu
      have E1 : ∀ w, Calls Try.prog 51 #[.int .u8 ((u : Nat) : Int), .int .u8 ((Gf.inv lead : Nat) : Int)] w fun e w' => e = .returned (.int .u8 ((z : Nat) : Int)) ∧ w = w' := fun w => by
        have := rmul_any ((u : Nat) : Int) ((Gf.inv lead : Nat) : Int) w (by omega) (by omega) (by omega) (by omega)
        rwa [Int.toNat_natCast, Int.toNat_natCast, ← hz] at this
      have hzq : Hid (Fq.of z = R.cf (s + t - 1) * Fq.inv (Fq.of lead)) := by
        show _ = _
        rw [hz, Fq.of_mul bu binv, Fq.of_inv blead, hu, Fq.of_val]
      have HZ3 := Lib.hid hz3
      clear hu hcell hz hz3
      unfold vb at d1 d2
      have i1 : ((s + t : Nat) : Int) - (t : Int) = (s : Int) := by omega
      have i2 : (s : Int) < ((n + 1 : Nat) : Int) := by omega
      have i3 : (((s + t : Nat) : Int) - 1) < ((s + t : Nat) : Int) := by omega
      have i4 : 0 ≤ (((s + t : Nat) : Int) - 1) := by omega
      have KD := hBD.out.set s z
      have KR : ∀ v, Rd vb (wr.setCell ⟨w2.heap.size, s, none⟩ v) (some ⟨b3, o3, none⟩) (s + t) rc (Poly.out R) := fun v => hR.out.other _ _ (by rintro x h; cases h; exact hb3ne)
      have KQ : ∀ v, Rd vb (wr.setCell ⟨w2.heap.size, s, none⟩ v) (some ⟨o1, o2, none⟩) t c2 Q := fun v => hBQ.out.other _ _ (by rintro x h; cases h; exact hne2)
      have KB := fun v => hbe.setCell (p := ⟨w2.heap.size, s, none⟩) hw2 v
      go_wp2_with fail
      refine (E1 _).mono ?_
      rintro e w' ⟨rfl, rfl⟩
      have lb3 := lt_of_cell d1
      have lo1 := (HOB2.out _ rfl).2
      simp only at lo1
      have ng1 : w2.heap.size ≠ wr.heap.size := by omega
      have ng2 : o1 ≠ wr.heap.size := by omega
      have ng3 : b3 ≠ wr.heap.size := by omega
      have hg5 : ∀ v, (wr.setCell ⟨w2.heap.size, s, none⟩ v).heap.size = wr.heap.size := fun v => by simp [World.setCell]
      have NO1 : ∀ x, (some ⟨o1, o2, none⟩ : Option Addr) = some x → x.block ≠ (⟨wr.heap.size, s, none⟩ : Addr).block := by rintro x h; cases h; exact ng2
      have NO3 : ∀ x, (some ⟨b3, o3, none⟩ : Option Addr) = some x → x.block ≠ (⟨wr.heap.size, s, none⟩ : Addr).block := by rintro x h; cases h; exact ng3
      have zl : ((List.replicate (s + 1) 0).set s z).length = s + 1 := by simp
      have zb : Gf.Byt ((List.replicate (s + 1) 0).set s z) := Poly.set_byt (Poly.zeros_byt _) bz _
      have z0 : (List.replicate (s + 1) 0)[s]? = some 0 := by rw [List.getElem?_replicate, if_pos (by omega)]
      have zv : Hid (Poly.of ((List.replicate (s + 1) 0).set s z) = Poly.mon (Fq.of z) s) := by
        show _ = _
        rw [Poly.of_set_val z0, Poly.of_zeros, Poly.zero_add, Fq.of_zero, Fq.zero_add]
      have ZL := Lib.hid zl; have Z0 := Lib.hid z0; have HI1 := Lib.hid i1
      clear zl z0
      go_wp2_with (first
        | (at_make; refine wpList_make_blk rfl _ _ 22 rfl vb 0 5 i0 u1 hi hz0 hz1 rfl _ _ _ _ (s + 1) rfl rfl (by omega) (by omega) (by rw [hz2]; omega) (by omega) ?_; intro w5 hk5 hb5 hs5; have KD5 := Lib.hid (KD.fw hb5); have KR5 := Lib.hid ((KR _).fw hb5); have KQ5 := Lib.hid ((KQ _).fw hb5); have KB5 := bt (KB _) hb5; have SZ5 := hb5.size; rw [hg5] at hk5 SZ5 ⊢; have d5 := hk5.cell Z0.out; have f5 := hk5.frozen s; unfold vb at d5; have HK5 := Lib.hid hk5; clear hk5 hb5 hs5)
        | (go_at_call 28; refine (rpmul_any _ _ (s + 1) t _ _ ((List.replicate (s + 1) 0).set s z) Q _ ((HK5.out.set s z).rdn ZL.out (Nat.le_refl _) (by omega)) (KQ5.out.other _ _ NO1) zb BQ.out (by omega)).mono ?_; rintro e w7 ⟨a7, n7, c7, rfl, r7, l7, b7⟩; have R7 := Lib.hid r7; have KR7 := Lib.hid ((KR5.out.other _ _ NO3).fw b7); have KQ7 := Lib.hid ((KQ5.out.other _ _ NO1).fw b7); have KD7 := Lib.hid ((KD5.out.other _ _ ng1).fw b7); have KB7 := bt (KB5.setCell (p := ⟨wr.heap.size, s, none⟩) hwo _) b7; have SZ7 : w5.heap.size ≤ w7.heap.size := (by have := b7.size; simp [World.setCell] at this; omega); clear r7)
        | (go_at_call 26; refine (radd_o _ _ (s + t) n7 _ _ (Poly.out R) _ _ KR7.out R7.out (Poly.out_byt _) (Poly.out_byt _) (by omega)).mono ?_; rintro e w8 ⟨a8, n8, c8, rfl, r8, l8, b8⟩; have R8 := Lib.hid r8; clear r8))
      have hv8 := R8.out
      rw [Poly.of_out, Poly.of_out, zv.out, oQ.out] at hv8
      have hl8 := hv8.len
      rw [Poly.out_length] at hl8
      have htop : (R + Poly.mon (Fq.of z) s * Poly.of q).sz ≤ s + t - 1 := by
        refine Poly.sz_le fun k hk => ?_
        have := Poly.div_top (q := Poly.of q) (R := R) (j := s + 1) (t := t) (u := R.cf (s + t - 1)) (lead := Fq.of lead) (by omega) HT.out.symm h0
          (by rw [← oQ.out]; exact Poly.cf_of_some HLEAD.out) (fun e => by rw [Fq.of_eq_zero blead] at e; omega) (by rw [show s + 1 - 1 + (t - 1) = s + t - 1 from by omega]) (fun k hk => Poly.cf_of_ge (by rw [LX.out]; omega)) k (by omega)
        rw [← hzq.out] at this
        exact this
      have hlt8 : n8 < s + t := by omega
      have hob8 := own_block hv8
      have sz8 := b8.size
      have hsz8 : w2.heap.size < w8.heap.size := by omega
      have hobn : ∀ x, a8 = some x → x.block ≠ w2.heap.size := fun x hx => by have := (hob8 x hx).1; omega
      refine ⟨⟨R + Poly.mon (Fq.of z) s * Poly.of q, a8, n8, c8, D.set s z, rfl, by omega, hv8.rd, hobn, ?_, Poly.set_byt hDb.out bz _, ?_, ?_, KD7.out.fw b8, KQ7.out.fw b8, bt KB7 b8, hsz8⟩, hlt8⟩
      · show (D.set _ _).length = _
        rw [List.length_set]; exact hDl.out
      · intro i hi
        rw [List.getElem?_set, if_neg (by omega)]; exact hD0.out i (by omega)
      · show _ = _
        rw [Poly.of_set_val HZ3.out, Fq.of_zero, Fq.zero_add]
        exact Poly.div_step hval.out _

theorem rmonic_any (a : Option Addr) (n c : Nat) (p : List Nat) (w : World) (h1 : Rd vb w a n c p) (hp : Gf.Byt p) (hn : n ≤ 1000000) :
    Calls Try.prog 55 #[.slice a n c] w (GivesS w (n + 1) (Poly.out (Poly.C (Fq.inv (Poly.top (Poly.of p))) * Poly.of p))) := by
  have H1 := Lib.hid h1; clear h1
  obtain ⟨P, HP⟩ : ∃ P, Hid (Poly.of p = P) := ⟨_, rfl⟩
  rw [HP.out]
  go_enter Try.func55, Try.ntmps55
  go_wp2_with fail
  refine (rtrim_any _ _ _ p _ H1.out hp (by omega)).mono ?_
  rintro e w1 ⟨a1, n1, c1, rfl, r1, l1, b1⟩
  rw [HP.out] at r1
  have R1 := Lib.hid r1
  have lx := r1.len
  rw [Poly.out_length] at lx
  clear r1
  by_cases h0 : n1 = 0
  · subst h0
    have hP := Poly.sz_eq_zero.1 lx
    subst hP
    clear lx
    go_wp2
    go_ret
    refine ⟨a1, 0, c1, rfl, ?_, by omega, b1⟩
    rw [Poly.mul_zero]; exact R1.out
  · have hP : P ≠ 0 := Poly.sz_pos.1 (by omega)
    have ht := Poly.top_ne hP
    obtain ⟨t, HT⟩ : ∃ t, Hid (Poly.top P = t) := ⟨_, rfl⟩
    rw [HT.out] at ht
    have bt9 := t.h
    have t0 : 0 < t.n := by
      rcases Nat.eq_zero_or_pos t.n with e | e
      · exact absurd (Fq.n_eq_zero.1 e) ht
      · exact e
    have hcell : (Poly.out P)[n1 - 1]? = some t.n := by rw [Poly.out_get (by omega), ← HT.out, Poly.top, lx]
    obtain ⟨o1, o2, rfl, c9⟩ := R1.out.cell _ _ hcell
    unfold vb at c9
    have i1 : ((n1 : Int) - 1) < (n1 : Int) := by omega
    have i2 : 0 ≤ ((n1 : Int) - 1) := by omega
    have e0 : (((n1 : Nat) : Int) == 0) = false := by simp; omega
    have biv := Gf.inv_lt t.n bt9
    have hs1 : Hid (Poly.of [Gf.inv t.n] = Poly.C (Fq.inv t)) := by
      show _ = _
      rw [Poly.of_single, Fq.of_inv bt9, Fq.of_val]
    clear lx hcell ht hP h0
    go_wp2_with (first
      | (go_at_call 50; refine (rinv_any _ _ (by omega) (by omega)).mono ?_; rintro e w' ⟨rfl, rfl⟩)
      | (go_at_call 28; refine (rpmul_any _ _ n1 1 _ _ (Poly.out P) [Gf.inv t.n] _ (Rd.alloc _ R1.out) (rd_newe vb 5 _ [Gf.inv t.n] (n := 1) rfl (by omega) rfl) (Poly.out_byt _) (byt1 biv) (by omega)).mono ?_; rintro e w3 ⟨a3, n3, c3, rfl, r3, l3, b3⟩; have R3 := Lib.hid r3; clear r3))
    go_ret
    refine ⟨a3, n3, c3, rfl, ?_, by omega, bt (below_alloc _ b1) b3⟩
    have := R3.out
    rw [Poly.of_out, hs1.out, Poly.mul_comm] at this
    rw [HT.out]; exact this

set_option maxHeartbeats 1000000 in
theorem rgcd_any (a b : Option Addr) (n m c d : Nat) (p q : List Nat) (w : World) (h1 : Rd vb w a n c p) (h2 : Rd vb w b m d q) (hp : Gf.Byt p) (hq : Gf.Byt q) (hn : n + m ≤ 100000) :
    Calls Try.prog 35 #[.slice a n c, .slice b m d] w fun e w' => ∃ g : Poly, Poly.IsGcd g (Poly.of p) (Poly.of q) ∧ GivesS w (n + m + 1) (Poly.out g) e w' := by
  have H1 := Lib.hid h1; have H2 := Lib.hid h2; clear h1 h2
  go_enter Try.func35, Try.ntmps35
  go_wp2_with fail
  refine (rtrim_any _ _ _ p _ H1.out hp (by omega)).mono ?_
  rintro e w1 ⟨a1, n1, c1, rfl, r1, l1, b1⟩
  go_wp2_with fail
  refine (rtrim_any _ _ _ q _ (H2.out.fw b1) hq (by omega)).mono ?_
  rintro e w2 ⟨a2, n2, c2, rfl, r2, l2, b2⟩
  have R1 := Lib.hid (r1.fw b2); have R2 := Lib.hid r2
  have b0 := bt b1 b2
  clear r1 r2
  go_wp2_with fail
  go_loopw [0, 1, 5, 6] (fun x y _ _ wr => ∃ (P Q : Poly) (xa : Option Addr) (xn xc : Nat) (ya : Option Addr) (yn yc : Nat), x = .slice xa xn xc ∧ y = .slice ya yn yc ∧ xn ≤ n + m ∧ yn ≤ n + m ∧ Hid (Rd vb wr xa xn xc (Poly.out P)) ∧ Hid (Rd vb wr ya yn yc (Poly.out Q)) ∧
      Hid (∀ g, Poly.IsGcd g P Q → Poly.IsGcd g (Poly.of p) (Poly.of q)) ∧ Below w.heap.size w wr) (fun _ y _ _ _ => lenV y)
  case atStart => exact ⟨_, _, a1, n1, c1, a2, n2, c2, rfl, rfl, by omega, by omega, R1.out, R2.out, fun g h => h, b0⟩
  case round =>
    obtain ⟨P, Q, xa, xn, xc, ya, yn, yc, rfl, rfl, hxn, hyn, hx, hy, hg, hbe⟩ := hrel
    have lx := hx.out.len
    have ly := hy.out.len
    rw [Poly.out_length] at lx ly
    have LX := Lib.hid lx; have LY := Lib.hid ly
    by_cases h0 : yn = 0
    · have hQ : Q = 0 := Poly.sz_eq_zero.1 (by rw [ly]; exact h0)
      subst h0
      have hG : ∃ g, Poly.IsGcd g (Poly.of p) (Poly.of q) ∧ Poly.C (Fq.inv (Poly.top P)) * P = g := by
        by_cases h1 : P = 0
        · exact ⟨0, hg.out 0 (by rw [h1, hQ]; exact .none), by rw [h1, Poly.mul_zero]⟩
        · exact ⟨_, hg.out _ (by rw [hQ]; exact .base h1), rfl⟩
      have HG := Lib.hid hG
      clear lx ly hQ hG
      go_wp2_with (go_at_call 55; refine (rmonic_any _ _ _ (Poly.out P) _ hx.out (Poly.out_byt _) (by omega)).mono ?_; rintro e w5 ⟨a5, n5, c5, rfl, r5, l5, b5⟩; have R5 := Lib.hid r5; clear r5)
      go_ret
      obtain ⟨g, hg1, hg2⟩ := HG.out
      have := R5.out
      rw [Poly.of_out, hg2] at this
      exact ⟨g, hg1, a5, n5, c5, rfl, this, by omega, bt hbe b5⟩
    · have e0 : decide ((0 : Int) < (yn : Int)) = true := by simp; omega
      clear lx ly
      go_wp2_with (go_at_call 36; refine (rdivmod_any _ _ _ _ _ _ (Poly.out P) (Poly.out Q) _ hx.out hy.out (Poly.out_byt _) (Poly.out_byt _) (by omega) (by omega) (by rw [Poly.of_out, LY.out]; omega)).mono ?_; rintro e w5 ⟨D, R, a5, n5, c5, a6, n6, c6, hv, hr, rfl, r5, r6, l5, l6, b5⟩; rw [Poly.of_out, Poly.of_out] at hv; rw [Poly.of_out, LY.out] at hr; have HV := Lib.hid hv; have k6 := r6.len; rw [Poly.out_length] at k6; rw [k6] at hr; have R6 := Lib.hid r6; clear r5 r6 hv k6)
      go_roundw
      case rel =>
        exact ⟨Q, R, ya, yn, yc, a6, n6, c6, rfl, rfl, hyn, by omega, hy.out.fw b5, R6.out, fun g h => hg.out g (.step HV.out h), bt hbe b5⟩
      case measure => simp [lenV]; omega
end Go.Proofs.Ytkbcingibgnnpaa
