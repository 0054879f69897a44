/- PolynomialCommon: the walk. -/
import Derived.Test.YtkbcingibgnnpaaPolyL
import Derived.Test.YtkbcingibgnnpaaPolyN
namespace Go.Proofs.Ytkbcingibgnnpaa
open Go.RowKit Go.Kin
set_option maxRecDepth 100000

theorem pgcd_s (a b : Option Addr) (n m c d : Nat) (p q : List Nat) (w : World) (h1 : Rd vb w a n c p) (h2 : Rd vb w b m d q) (hp : Gf.Byt p) (hq : Gf.Byt q) (hn : n + m ≤ 140737488355000) :
    Calls Try.prog 34 #[.slice a n c, .slice b m d] w (GivesS w (n + m) (Poly.out (Poly.gcd (Poly.of p) (Poly.of q)))) :=
  (pgcd_any a b n m c d p q w h1 h2 hp hq hn).mono fun _ _ ⟨_, hg, hr⟩ => by rw [← Poly.gcd_eq hg]; exact hr

theorem divmod_exact (a b : Option Addr) (n m c d : Nat) (p q : List Nat) (D : Poly) (w : World) (h1 : Rd vb w a n c p) (h2 : Rd vb w b m d q) (hp : Gf.Byt p) (hq : Gf.Byt q) (hn : n ≤ 140737488355328) (hm : m ≤ 140737488355328) (h0 : 0 < (Poly.of q).sz) (hv : Poly.of p = D * Poly.of q) :
    Calls Try.prog 30 #[.slice a n c, .slice b m d] w fun e w' => ∃ a1 n1 c1 a2 c2, e = .returned (.tuple #[.slice a1 n1 c1, .slice a2 0 c2, .int .i64 0]) ∧ Rd vb w' a1 n1 c1 (Poly.out D) ∧ n1 ≤ n ∧ Below w.heap.size w w' :=
  (divmod_g a b n m c d p q w h1 h2 hp hq hn hm h0).mono fun _ _ ⟨D', R', a1, n1, c1, a2, n2, c2, hv', hr', he, r1, r2, hb⟩ => by
    have hu := Poly.div_unique (d' := D) (r' := 0) (hv'.symm.trans (by rw [Poly.add_zero]; exact hv)) hr' h0
    obtain ⟨rfl, rfl⟩ := hu
    have h2 := r2.len
    rw [Poly.out_zero] at h2
    have h3 : n2 = 0 := h2.symm
    subst h3
    have h4 := r1.len
    rw [Poly.out_length] at h4
    have h5 := Poly.div_sz hv' hr'
    have h6 := Poly.sz_of_le p
    have h7 := h1.len
    exact ⟨a1, n1, c1, a2, c2, he, r1, by omega, hb⟩

set_option maxHeartbeats 4000000 in
theorem walk_PolynomialCommon (a : Option Addr) (n c : Nat) (p : List Nat) (b : Option Addr) (m d : Nat) (q : List Nat) (g : Option Addr) (k f : Nat) (r : List Nat) (w : World) (h1 : Rd vb w a n c p) (hp : ∀ x ∈ p, x < 256) (h2 : Rd vb w b m d q) (hq : ∀ x ∈ q, x < 256) (h3 : Rd vb w g k f r) (hr : ∀ x ∈ r, x < 256) :
    Calls Try.prog 9 #[.slice a n c, .slice b m d, .slice g k f] w fun e w' => e = .returned (.bool true) ∧ Below w.heap.size w w' := by
  have bp : Gf.Byt p := hp
  have bq : Gf.Byt q := hq
  have br : Gf.Byt r := hr
  clear hp hq hr
  by_cases hbig : 30 < n ∨ 30 < m ∨ 30 < k
  · have mb : (decide (30 < n) || (decide (30 < m) || decide (30 < k))) = true := by simpa using hbig
    have MB := Lib.hid mb
    clear mb hbig
    go_enter Try.func9, Try.ntmps9
    go_wp2_with (first
      | (go_at_call 13; refine (awake_any _).mono ?_; rintro e w1 ⟨rfl, b1⟩)
      | (go_at_call 18; refine (many3 a b g n m k c d f _ _ rfl).mono ?_; rintro e w' ⟨rfl, rfl⟩; rw [MB.out]))
    go_ret
    exact ⟨rfl, below_alloc _ b1⟩
  have mb : (decide (30 < n) || (decide (30 < m) || decide (30 < k))) = false := by simp; omega
  have MB := Lib.hid mb
  have hn : n ≤ 30 := by omega
  have hm : m ≤ 30 := by omega
  have hk : k ≤ 30 := by omega
  clear mb hbig
  obtain ⟨G, HG⟩ : ∃ G, Hid (Poly.gcd (Poly.of p) (Poly.of q) = G) := ⟨_, rfl⟩
  obtain ⟨s, HS⟩ : ∃ s, Hid (G.sz = s) := ⟨_, rfl⟩
  obtain ⟨t, HT⟩ : ∃ t, Hid ((Poly.of r).sz = t) := ⟨_, rfl⟩
  by_cases hs0 : s = 0
  · have hz := Poly.gcd_zero (HG.out.trans (Poly.sz_eq_zero.1 (HS.out.trans hs0)))
    have HZ := Lib.hid hz
    clear hz
    go_enter Try.func9, Try.ntmps9
    go_wp2_with (first
      | (go_at_call 13; refine (awake_any _).mono ?_; rintro e w1 ⟨rfl, b1⟩)
      | (go_at_call 18; refine (many3 a b g n m k c d f _ _ rfl).mono ?_; rintro e w' ⟨rfl, rfl⟩; rw [MB.out])
      | (go_at_call 34; refine (pgcd_s _ _ _ _ _ _ p q _ (by repeat (first | assumption | apply Rd.alloc | (apply Rd.fw2; assumption))) (by repeat (first | assumption | apply Rd.alloc | (apply Rd.fw2; assumption))) bp bq (by omega)).mono ?_; rintro e w2 ⟨a2, n2, c2, rfl, r2, l2, b2⟩; have hl2 := r2.len; rw [Poly.out_length, HG.out, HS.out, hs0] at hl2; subst hl2; clear r2)
      | (go_at_call_of 21 a; refine (degree_any _ _ _ p _ (by repeat (first | assumption | apply Rd.alloc | (apply Rd.fw2; assumption))) bp).mono ?_; rintro e w' ⟨rfl, rfl⟩; rw [HZ.out.1, Poly.sz_zero])
      | (go_at_call 21; refine (degree_any _ _ _ q _ (by repeat (first | assumption | apply Rd.alloc | (apply Rd.fw2; assumption))) bq).mono ?_; rintro e w' ⟨rfl, rfl⟩; rw [HZ.out.2, Poly.sz_zero]))
    go_ret
    exact ⟨rfl, by repeat (first | assumption | apply below_alloc | (apply bt'; assumption))⟩
  have tok : True := trivial
  have hgis := Poly.gcd_is (Poly.of p) (Poly.of q)
  rw [HG.out] at hgis
  have hG0 : G ≠ 0 := fun e => hs0 (by rw [← HS.out, e]; rfl)
  obtain ⟨x1, hx1⟩ := hgis.left
  obtain ⟨x2, hx2⟩ := hgis.right
  have HX1 := Lib.hid hx1; have HX2 := Lib.hid hx2
  have htop : (Poly.out G)[s - 1]? = some 1 := by
    rw [Poly.out_get (by rw [HS.out]; omega), ← HS.out]
    have := hgis.monic hG0
    unfold Poly.top at this
    rw [this]; rfl
  have HTOP := Lib.hid htop
  have i1 : ((s : Int) - 1) < (s : Int) := by omega
  have i2 : 0 ≤ ((s : Int) - 1) := by omega
  clear hx1 hx2 htop hgis
  by_cases ht0 : t = 0
  · have e1 : decide (((t : Nat) : Int) - 1 < 0) = true := by simp; omega
    go_enter Try.func9, Try.ntmps9
    go_wp2_with (first
      | (go_at_call 13; refine (awake_any _).mono ?_; rintro e w1 ⟨rfl, b1⟩)
      | (go_at_call 18; refine (many3 a b g n m k c d f _ _ rfl).mono ?_; rintro e w' ⟨rfl, rfl⟩; rw [MB.out])
      | (go_at_call_of 34 a; have _t := tok; refine (pgcd_s _ _ _ _ _ _ p q _ (by repeat (first | assumption | apply Rd.alloc | (apply Rd.fw2; assumption))) (by repeat (first | assumption | apply Rd.alloc | (apply Rd.fw2; assumption))) bp bq (by omega)).mono ?_; rintro e w2 ⟨a2, n2, c2, rfl, r2, l2, b2⟩; rw [HG.out] at r2; have hl2 := r2.len; rw [Poly.out_length, HS.out] at hl2; subst hl2; clear _t tok)
      | (go_at_call_of 30 a; refine (divmod_exact _ _ _ _ _ _ p (Poly.out G) x1 _ (by repeat (first | assumption | apply Rd.alloc | (apply Rd.fw2; assumption))) (by repeat (first | assumption | apply Rd.alloc | (apply Rd.fw2; assumption))) bp (Poly.out_byt _) (by omega) (by omega) (by rw [Poly.of_out, HS.out]; omega) (by rw [Poly.of_out]; exact HX1.out)).mono ?_; rintro e w3 ⟨a3, n3, c3, a4, c4, rfl, r3, l3, b3⟩)
      | (go_at_call_of 30 b; refine (divmod_exact _ _ _ _ _ _ q (Poly.out G) x2 _ (by repeat (first | assumption | apply Rd.alloc | (apply Rd.fw2; assumption))) (by repeat (first | assumption | apply Rd.alloc | (apply Rd.fw2; assumption))) bq (Poly.out_byt _) (by omega) (by omega) (by rw [Poly.of_out, HS.out]; omega) (by rw [Poly.of_out]; exact HX2.out)).mono ?_; rintro e w4 ⟨a5, n5, c5, a6, c6, rfl, r5, l5, b5⟩; have R9 : Rd vb w4 a2 s c2 (Poly.out G) := (by repeat (first | assumption | apply Rd.alloc | (apply Rd.fw2; assumption))); obtain ⟨o1, o2, rfl, c9⟩ := R9.cell (s - 1) 1 HTOP.out; unfold vb at c9)
      | (go_at_call_of 34 a; refine (pgcd_s _ _ _ _ _ _ q p _ (by repeat (first | assumption | apply Rd.alloc | (apply Rd.fw2; assumption))) (by repeat (first | assumption | apply Rd.alloc | (apply Rd.fw2; assumption))) bq bp (by omega)).mono ?_; rintro e w6 ⟨a7, n7, c7, rfl, r7, l7, b7⟩; rw [Poly.gcd_comm, HG.out] at r7)
      | (go_at_call 16; refine (lsame_eq _ _ _ _ _ _ _ _ _ (by repeat (first | assumption | apply Rd.alloc | (apply Rd.fw2; assumption))) (by repeat (first | assumption | apply Rd.alloc | (apply Rd.fw2; assumption))) (Poly.out_byt _) (Poly.out_byt _) rfl).mono ?_; rintro e w' ⟨rfl, rfl⟩)
      | (go_at_call_of 21 g; refine (degree_any _ _ _ r _ (by repeat (first | assumption | apply Rd.alloc | (apply Rd.fw2; assumption))) br).mono ?_; rintro e w' ⟨rfl, rfl⟩; rw [HT.out]))
    go_ret
    exact ⟨rfl, by repeat (first | assumption | apply below_alloc | (apply bt'; assumption))⟩
  · have e1 : decide (((t : Nat) : Int) - 1 < 0) = false := by simp; omega
    have hr0 : Poly.of r ≠ 0 := fun e => ht0 (by rw [← HT.out, e]; rfl)
    obtain ⟨α, ha, hga⟩ := Poly.gcd_mul (Poly.of p) (Poly.of q) (Poly.of r) hr0 (by rw [HG.out]; exact hG0)
    rw [HG.out] at hga
    have HGA := Lib.hid hga
    have hsz := (Poly.top_C_mul ha (Poly.of r)).1
    rw [HT.out] at hsz
    have HSZ := Lib.hid hsz
    clear hga hsz
    go_enter Try.func9, Try.ntmps9
    go_wp2_with (first
      | (go_at_call 13; refine (awake_any _).mono ?_; rintro e w1 ⟨rfl, b1⟩)
      | (go_at_call 18; refine (many3 a b g n m k c d f _ _ rfl).mono ?_; rintro e w' ⟨rfl, rfl⟩; rw [MB.out])
      | (go_at_call_of 34 a; have _t := tok; refine (pgcd_s _ _ _ _ _ _ p q _ (by repeat (first | assumption | apply Rd.alloc | (apply Rd.fw2; assumption))) (by repeat (first | assumption | apply Rd.alloc | (apply Rd.fw2; assumption))) bp bq (by omega)).mono ?_; rintro e w2 ⟨a2, n2, c2, rfl, r2, l2, b2⟩; rw [HG.out] at r2; have hl2 := r2.len; rw [Poly.out_length, HS.out] at hl2; subst hl2; clear _t tok)
      | (go_at_call_of 30 a; refine (divmod_exact _ _ _ _ _ _ p (Poly.out G) x1 _ (by repeat (first | assumption | apply Rd.alloc | (apply Rd.fw2; assumption))) (by repeat (first | assumption | apply Rd.alloc | (apply Rd.fw2; assumption))) bp (Poly.out_byt _) (by omega) (by omega) (by rw [Poly.of_out, HS.out]; omega) (by rw [Poly.of_out]; exact HX1.out)).mono ?_; rintro e w3 ⟨a3, n3, c3, a4, c4, rfl, r3, l3, b3⟩)
      | (go_at_call_of 30 b; refine (divmod_exact _ _ _ _ _ _ q (Poly.out G) x2 _ (by repeat (first | assumption | apply Rd.alloc | (apply Rd.fw2; assumption))) (by repeat (first | assumption | apply Rd.alloc | (apply Rd.fw2; assumption))) bq (Poly.out_byt _) (by omega) (by omega) (by rw [Poly.of_out, HS.out]; omega) (by rw [Poly.of_out]; exact HX2.out)).mono ?_; rintro e w4 ⟨a5, n5, c5, a6, c6, rfl, r5, l5, b5⟩; have R9 : Rd vb w4 a2 s c2 (Poly.out G) := (by repeat (first | assumption | apply Rd.alloc | (apply Rd.fw2; assumption))); obtain ⟨o1, o2, rfl, c9⟩ := R9.cell (s - 1) 1 HTOP.out; unfold vb at c9)
      | (go_at_call_of 34 a; refine (pgcd_s _ _ _ _ _ _ q p _ (by repeat (first | assumption | apply Rd.alloc | (apply Rd.fw2; assumption))) (by repeat (first | assumption | apply Rd.alloc | (apply Rd.fw2; assumption))) bq bp (by omega)).mono ?_; rintro e w6 ⟨a7, n7, c7, rfl, r7, l7, b7⟩; rw [Poly.gcd_comm, HG.out] at r7)
      | (go_at_call 16; refine (lsame_eq _ _ _ _ _ _ _ _ _ (by repeat (first | assumption | apply Rd.alloc | (apply Rd.fw2; assumption))) (by repeat (first | assumption | apply Rd.alloc | (apply Rd.fw2; assumption))) (Poly.out_byt _) (Poly.out_byt _) rfl).mono ?_; rintro e w' ⟨rfl, rfl⟩)
      | (go_at_call_of 21 g; refine (degree_any _ _ _ r _ (by repeat (first | assumption | apply Rd.alloc | (apply Rd.fw2; assumption))) br).mono ?_; rintro e w' ⟨rfl, rfl⟩; rw [HT.out])
      | (go_at_call 31; refine (lmul_s _ _ _ _ _ _ _ _ _ (by repeat (first | assumption | apply Rd.alloc | (apply Rd.fw2; assumption))) (by repeat (first | assumption | apply Rd.alloc | (apply Rd.fw2; assumption))) (by assumption) (by assumption) (by omega)).mono ?_; rintro e w7 ⟨a8, n8, c8, rfl, r8, l8, b8⟩)
      | (go_at_call 34; refine (pgcd_s _ _ _ _ _ _ (Poly.out (Poly.of p * Poly.of r)) (Poly.out (Poly.of q * Poly.of r)) _ (by repeat (first | assumption | apply Rd.alloc | (apply Rd.fw2; assumption))) (by repeat (first | assumption | apply Rd.alloc | (apply Rd.fw2; assumption))) (Poly.out_byt _) (Poly.out_byt _) (by omega)).mono ?_; rintro e w8 ⟨a9, n9, c9', rfl, r9, l9, b9⟩; rw [Poly.of_out, Poly.of_out, HGA.out] at r9)
      | (go_at_call_of 30 g; refine (divmod_exact _ _ _ _ _ _ (Poly.out (Poly.C α * Poly.of r)) r (Poly.C α) _ (by repeat (first | assumption | apply Rd.alloc | (apply Rd.fw2; assumption))) (by repeat (first | assumption | apply Rd.alloc | (apply Rd.fw2; assumption))) (Poly.out_byt _) br (by omega) (by omega) (by rw [HT.out]; omega) (Poly.of_out _)).mono ?_; rintro e w9 ⟨a11, n11, c11, a12, c12, rfl, r11, l11, b11⟩)
      | (go_at_call 30; refine (divmod_exact _ _ _ _ _ _ (Poly.out (Poly.C α * Poly.of r * G)) (Poly.out G) (Poly.C α * Poly.of r) _ (by repeat (first | assumption | apply Rd.alloc | (apply Rd.fw2; assumption))) (by repeat (first | assumption | apply Rd.alloc | (apply Rd.fw2; assumption))) (Poly.out_byt _) (Poly.out_byt _) (by omega) (by omega) (by rw [Poly.of_out, HS.out]; omega) (by rw [Poly.of_out, Poly.of_out])).mono ?_; rintro e w9 ⟨a10, n10, c10, a11, c11, rfl, r10, l10, b10⟩)
      | (go_at_call 21; refine (degree_any _ _ _ (Poly.out (Poly.C α * Poly.of r)) _ (by repeat (first | assumption | apply Rd.alloc | (apply Rd.fw2; assumption))) (Poly.out_byt _)).mono ?_; rintro e w' ⟨rfl, rfl⟩; rw [Poly.of_out, HSZ.out]))
    go_ret
    exact ⟨rfl, by repeat (first | assumption | apply below_alloc | (apply bt'; assumption))⟩
end Go.Proofs.Ytkbcingibgnnpaa
