/- PolynomialDivision: the walk. -/
import Derived.Test.YtkbcingibgnnpaaPolyN
import Derived.Test.YtkbcingibgnnpaaRefD
namespace Go.Proofs.Ytkbcingibgnnpaa
open Go.RowKit Go.Kin
set_option maxRecDepth 100000

theorem pgcd_s (a b : Option Addr) (n m c d : Nat) (p q : List Nat) (w : World) (h1 : Rd vb w a n c p) (h2 : Rd vb w b m d q) (hp : Gf.Byt p) (hq : Gf.Byt q) (hn : n + m ≤ 140737488355000) :
    Calls Try.prog 34 #[.slice a n c, .slice b m d] w (GivesS w (n + m) (Poly.out (Poly.gcd (Poly.of p) (Poly.of q)))) :=
  (pgcd_any a b n m c d p q w h1 h2 hp hq hn).mono fun _ _ ⟨_, hg, hr⟩ => by rw [← Poly.gcd_eq hg]; exact hr
theorem rgcd_s (a b : Option Addr) (n m c d : Nat) (p q : List Nat) (w : World) (h1 : Rd vb w a n c p) (h2 : Rd vb w b m d q) (hp : Gf.Byt p) (hq : Gf.Byt q) (hn : n + m ≤ 100000) :
    Calls Try.prog 35 #[.slice a n c, .slice b m d] w (GivesS w (n + m + 1) (Poly.out (Poly.gcd (Poly.of p) (Poly.of q)))) :=
  (rgcd_any a b n m c d p q w h1 h2 hp hq hn).mono fun _ _ ⟨_, hg, hr⟩ => by rw [← Poly.gcd_eq hg]; exact hr

set_option maxHeartbeats 4000000 in
theorem walk_PolynomialDivision (a : Option Addr) (n c : Nat) (p : List Nat) (b : Option Addr) (m d : Nat) (q : List Nat) (w : World) (h1 : Rd vb w a n c p) (hp : ∀ x ∈ p, x < 256) (h2 : Rd vb w b m d q) (hq : ∀ x ∈ q, x < 256) :
    Calls Try.prog 8 #[.slice a n c, .slice b m d] w fun e w' => e = .returned (.bool true) ∧ Below w.heap.size w w' := by
  have bp : Gf.Byt p := hp
  have bq : Gf.Byt q := hq
  clear hp hq
  have hpx : n ≤ 9223372036854775807 := by have := h1.cap; have := h1.max; unfold maxLen at *; omega
  have hqx : m ≤ 9223372036854775807 := by have := h2.cap; have := h2.max; unfold maxLen at *; omega
  by_cases hbig : 40 < n
  · have t1 : decide ((40 : Int) < (n : Int)) = true := by simp; omega
    go_enter Try.func8, Try.ntmps8
    go_wp2_with (go_at_call 13; refine (awake_any _).mono ?_; rintro e w1 ⟨rfl, b1⟩)
    go_ret
    exact ⟨rfl, b1⟩
  have t1 : decide ((40 : Int) < (n : Int)) = false := by simp; omega
  by_cases hbig2 : 40 < m
  · have t2 : decide ((40 : Int) < (m : Int)) = true := by simp; omega
    go_enter Try.func8, Try.ntmps8
    go_wp2_with (go_at_call 13; refine (awake_any _).mono ?_; rintro e w1 ⟨rfl, b1⟩)
    go_ret
    exact ⟨rfl, b1⟩
  have t2 : decide ((40 : Int) < (m : Int)) = false := by simp; omega
  obtain ⟨t, HT⟩ : ∃ t, Hid ((Poly.of q).sz = t) := ⟨_, rfl⟩
  by_cases ht0 : t = 0
  · have e1 : decide (((t : Nat) : Int) - 1 < 0) = true := by simp; omega
    have hq0 : Poly.of q = 0 := Poly.sz_eq_zero.1 (HT.out.trans ht0)
    have HQ0 := Lib.hid hq0
    clear hq0 ht0
    go_enter Try.func8, Try.ntmps8
    go_wp2_with (first
      | (go_at_call 13; refine (awake_any _).mono ?_; rintro e w1 ⟨rfl, b1⟩)
      | (go_at_call 30; refine (divmod_zero _ _ _ _ _ _ p q _ (by repeat (first | assumption | apply Rd.alloc | (apply Rd.fw2; assumption))) (by repeat (first | assumption | apply Rd.alloc | (apply Rd.fw2; assumption))) bp bq (by omega) (by omega) HQ0.out).mono ?_; rintro e w2 ⟨rfl, b2⟩)
      | (go_at_call 34; refine (pgcd_s _ _ _ _ _ _ p q _ (by repeat (first | assumption | apply Rd.alloc | (apply Rd.fw2; assumption))) (by repeat (first | assumption | apply Rd.alloc | (apply Rd.fw2; assumption))) bp bq (by omega)).mono ?_; rintro e w3 ⟨a3, n3, c3, rfl, r3, l3, b3⟩)
      | (go_at_call 35; refine (rgcd_s _ _ _ _ _ _ p q _ (by repeat (first | assumption | apply Rd.alloc | (apply Rd.fw2; assumption))) (by repeat (first | assumption | apply Rd.alloc | (apply Rd.fw2; assumption))) bp bq (by omega)).mono ?_; rintro e w4 ⟨a4, n4, c4, rfl, r4, l4, b4⟩)
      | (go_at_call 16; refine (lsame_eq _ _ _ _ _ _ _ _ _ (by repeat (first | assumption | apply Rd.alloc | (apply Rd.fw2; assumption))) (by repeat (first | assumption | apply Rd.alloc | (apply Rd.fw2; assumption))) (Poly.out_byt _) (Poly.out_byt _) rfl).mono ?_; rintro e w' ⟨rfl, rfl⟩)
      | (go_at_call 24; refine (rdegree_any _ _ _ q _ (by repeat (first | assumption | apply Rd.alloc | (apply Rd.fw2; assumption))) bq (by omega)).mono ?_; rintro e w5 ⟨rfl, b5⟩; rw [HT.out]))
    go_ret
    exact ⟨rfl, by repeat (first | assumption | apply below_alloc | (apply bt'; assumption))⟩
  · have e1 : decide (((t : Nat) : Int) - 1 < 0) = false := by simp; omega
    go_enter Try.func8, Try.ntmps8
    go_wp2_with (first
      | (go_at_call 13; refine (awake_any _).mono ?_; rintro e w1 ⟨rfl, b1⟩)
      | (go_at_call 30; refine (divmod_g _ _ _ _ _ _ p q _ (by repeat (first | assumption | apply Rd.alloc | (apply Rd.fw2; assumption))) (by repeat (first | assumption | apply Rd.alloc | (apply Rd.fw2; assumption))) bp bq (by omega) (by omega) (by rw [HT.out]; omega)).mono ?_; rintro e w2 ⟨D, R, a2, n2, c2, a5, n5, c5, hv, hr, rfl, r2, r5, b2⟩; have HV := Lib.hid hv; have HR := Lib.hid hr; clear hv hr)
      | (go_at_call 34; refine (pgcd_s _ _ _ _ _ _ p q _ (by repeat (first | assumption | apply Rd.alloc | (apply Rd.fw2; assumption))) (by repeat (first | assumption | apply Rd.alloc | (apply Rd.fw2; assumption))) bp bq (by omega)).mono ?_; rintro e w3 ⟨a3, n3, c3, rfl, r3, l3, b3⟩)
      | (go_at_call 35; refine (rgcd_s _ _ _ _ _ _ p q _ (by repeat (first | assumption | apply Rd.alloc | (apply Rd.fw2; assumption))) (by repeat (first | assumption | apply Rd.alloc | (apply Rd.fw2; assumption))) bp bq (by omega)).mono ?_; rintro e w4 ⟨a4, n4, c4, rfl, r4, l4, b4⟩)
      | (go_at_call 16; refine (lsame_eq _ _ _ _ _ _ _ _ _ (by repeat (first | assumption | apply Rd.alloc | (apply Rd.fw2; assumption))) (by repeat (first | assumption | apply Rd.alloc | (apply Rd.fw2; assumption))) (Poly.out_byt _) (Poly.out_byt _) rfl).mono ?_; rintro e w' ⟨rfl, rfl⟩)
      | (go_at_call 24; refine (rdegree_any _ _ _ q _ (by repeat (first | assumption | apply Rd.alloc | (apply Rd.fw2; assumption))) bq (by omega)).mono ?_; rintro e w5 ⟨rfl, b5⟩; rw [HT.out])
      | (go_at_call 36; refine (rdivmod_any _ _ _ _ _ _ p q _ (by repeat (first | assumption | apply Rd.alloc | (apply Rd.fw2; assumption))) (by repeat (first | assumption | apply Rd.alloc | (apply Rd.fw2; assumption))) bp bq (by omega) (by omega) (by rw [HT.out]; omega)).mono ?_; rintro e w6 ⟨D2, R2, a6, n6, c6, a7, n7, c7, hv, hr, rfl, r6, r7, l6, l7, b6⟩; obtain ⟨hd1, hd2⟩ := Poly.div_unique (hv.symm.trans HV.out) hr HR.out; subst hd1; subst hd2; clear hv hr))
    go_ret
    exact ⟨rfl, by repeat (first | assumption | apply below_alloc | (apply bt'; assumption))⟩
end Go.Proofs.Ytkbcingibgnnpaa
