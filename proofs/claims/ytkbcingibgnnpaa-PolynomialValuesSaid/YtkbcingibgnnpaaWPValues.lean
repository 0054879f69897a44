/- PolynomialValues: the walk. -/
import Derived.Test.YtkbcingibgnnpaaOwnR
import Derived.Test.YtkbcingibgnnpaaRefV
namespace Go.Proofs.Ytkbcingibgnnpaa
open Go.RowKit Go.Kin
set_option maxRecDepth 100000

set_option maxHeartbeats 4000000 in
theorem walk_PolynomialValues (a : Option Addr) (n c : Nat) (p : List Nat) (x : Int) (w : World) (h1 : Rd vb w a n c p) (hp : ∀ x ∈ p, x < 256) (hx : 0 ≤ x ∧ x < 256) :
    Calls Try.prog 12 #[.slice a n c, .int .u8 x] w fun e w' => e = .returned (.bool true) ∧ Below w.heap.size w w' := by
  have bp : Gf.Byt p := hp
  obtain ⟨hx0, hx1⟩ := hx
  clear hp
  have hpx : n ≤ 9223372036854775807 := by have := h1.cap; have := h1.max; unfold maxLen at *; omega
  by_cases hbig : 1023 < n
  · have t1 : decide ((1023 : Int) < (n : Int)) = true := by simp; omega
    go_enter Try.func12, Try.ntmps12
    go_wp2_with (first
      | (go_at_call 13; refine (awake_any _).mono ?_; rintro e w1 ⟨rfl, b1⟩)
      | (go_at_call 37; refine (fromroots_big _ _ _ _ hbig).mono ?_; rintro e w' ⟨rfl, rfl⟩))
    go_ret
    exact ⟨rfl, b1⟩
  have t1 : decide ((1023 : Int) < (n : Int)) = false := by simp; omega
  by_cases hbig2 : 40 < n
  · have t2 : decide ((40 : Int) < (n : Int)) = true := by simp; omega
    go_enter Try.func12, Try.ntmps12
    go_wp2_with (go_at_call 13; refine (awake_any _).mono ?_; rintro e w1 ⟨rfl, b1⟩)
    go_ret
    exact ⟨rfl, b1⟩
  have t2 : decide ((40 : Int) < (n : Int)) = false := by simp; omega
  obtain ⟨t, HT⟩ : ∃ t, Hid ((Poly.of p).sz = t) := ⟨_, rfl⟩
  obtain ⟨u, HU⟩ : ∃ u, Hid (Poly.eval (Poly.of p) (Fq.of x.toNat) = u) := ⟨_, rfl⟩
  have bu := u.h
  by_cases ht0 : t = 0
  · have e1 : decide (((t : Nat) : Int) - 1 < 0) = true := by simp; omega
    have hq0 : Poly.of p = 0 := Poly.sz_eq_zero.1 (HT.out.trans ht0)
    have HQ0 := Lib.hid hq0
    clear hq0 ht0
    go_enter Try.func12, Try.ntmps12
    go_wp2_with (first
      | (go_at_call 13; refine (awake_any _).mono ?_; rintro e w1 ⟨rfl, b1⟩)
      | (go_at_call 37; refine (fromroots_any _ _ _ p _ (by repeat (first | assumption | apply Rd.alloc | (apply Rd.fw2; assumption))) bp (by omega)).mono ?_; rintro e w2 ⟨a2, c2, rfl, r2, b2⟩)
      | (go_at_call 39; refine (roots_zero _ _ _ p _ (by repeat (first | assumption | apply Rd.alloc | (apply Rd.fw2; assumption))) bp (by omega) HQ0.out).mono ?_; rintro e w3 ⟨rfl, b3⟩)
      | (go_at_call 38; refine (mult_zero _ _ _ p x _ (by repeat (first | assumption | apply Rd.alloc | (apply Rd.fw2; assumption))) bp (by omega) HQ0.out).mono ?_; rintro e w4 ⟨rfl, b4⟩)
      | (go_at_call 20; refine (eval_any _ _ _ p x _ (by repeat (first | assumption | apply Rd.alloc | (apply Rd.fw2; assumption))) bp hx0 hx1).mono ?_; rintro e w5 ⟨rfl, hd⟩; have b5 := hd.fw; clear hd; rw [HU.out])
      | (go_at_call 41; refine (reval_any _ _ _ p x _ (by repeat (first | assumption | apply Rd.alloc | (apply Rd.fw2; assumption))) bp hx0 hx1).mono ?_; rintro e w6 ⟨rfl, hd⟩; have b6 := hd.fw; clear hd; rw [HU.out])
      | (go_at_call 40; refine (deriv_any _ _ _ p _ (by repeat (first | assumption | apply Rd.alloc | (apply Rd.fw2; assumption))) bp (by omega)).mono ?_; rintro e w7 ⟨a7, n7, c7, rfl, r7, l7, b7⟩)
      | (go_at_call 42; refine (rderiv_any _ _ _ p _ (by repeat (first | assumption | apply Rd.alloc | (apply Rd.fw2; assumption))) bp (by omega)).mono ?_; rintro e w8 ⟨a8, n8, c8, rfl, r8, l8, b8⟩)
      | (go_at_call 43; refine (rfromroots_any _ _ _ p _ (by repeat (first | assumption | apply Rd.alloc | (apply Rd.fw2; assumption))) bp (by omega)).mono ?_; rintro e w9 ⟨a9, n9, c9, rfl, r9, l9, b9⟩)
      | (go_at_call 16; refine (lsame_eq _ _ _ _ _ _ _ _ _ (by repeat (first | assumption | apply Rd.alloc | (apply Rd.fw2; assumption))) (by repeat (first | assumption | apply Rd.alloc | (apply Rd.fw2; assumption))) (Poly.out_byt _) (Poly.out_byt _) rfl).mono ?_; rintro e w' ⟨rfl, rfl⟩)
      | (go_at_call 24; refine (rdegree_any _ _ _ p _ (by repeat (first | assumption | apply Rd.alloc | (apply Rd.fw2; assumption))) bp (by omega)).mono ?_; rintro e w10 ⟨rfl, b10⟩; rw [HT.out]))
    go_ret
    exact ⟨rfl, (by repeat (first | assumption | apply below_alloc | (apply bt'; assumption)))⟩
  · have e1 : decide (((t : Nat) : Int) - 1 < 0) = false := by simp; omega
    have hrt : Gf.Byt (Poly.rootsTo (Poly.of p) 256) := fun x hx => (Poly.rootsTo_mem hx).1
    have tok : True := trivial
    go_enter Try.func12, Try.ntmps12
    go_wp2_with (first
      | (go_at_call 13; refine (awake_any _).mono ?_; rintro e w1 ⟨rfl, b1⟩)
      | (go_at_call 37; refine (fromroots_any _ _ _ p _ (by repeat (first | assumption | apply Rd.alloc | (apply Rd.fw2; assumption))) bp (by omega)).mono ?_; rintro e w2 ⟨a2, c2, rfl, r2, b2⟩)
      | (go_at_call 39; refine (roots_g _ _ _ p _ (by repeat (first | assumption | apply Rd.alloc | (apply Rd.fw2; assumption))) bp (by omega) (by rw [HT.out]; omega)).mono ?_; rintro e w3 ⟨a3, n3, c3, rfl, r3, b3⟩)
      | (go_at_call 38; refine (mult_any _ _ _ p x _ (by repeat (first | assumption | apply Rd.alloc | (apply Rd.fw2; assumption))) bp hx0 hx1 (by omega) (by rw [HT.out]; omega)).mono ?_; rintro e w4 ⟨k, hk, lk, rfl, b4⟩; have HK := Lib.hid hk; clear hk)
      | (go_at_call 20; refine (eval_any _ _ _ p x _ (by repeat (first | assumption | apply Rd.alloc | (apply Rd.fw2; assumption))) bp hx0 hx1).mono ?_; rintro e w5 ⟨rfl, hd⟩; have b5 := hd.fw; clear hd; rw [HU.out])
      | (go_at_call 41; refine (reval_any _ _ _ p x _ (by repeat (first | assumption | apply Rd.alloc | (apply Rd.fw2; assumption))) bp hx0 hx1).mono ?_; rintro e w6 ⟨rfl, hd⟩; have b6 := hd.fw; clear hd; rw [HU.out])
      | (go_at_call 40; refine (deriv_any _ _ _ p _ (by repeat (first | assumption | apply Rd.alloc | (apply Rd.fw2; assumption))) bp (by omega)).mono ?_; rintro e w7 ⟨a7, n7, c7, rfl, r7, l7, b7⟩)
      | (go_at_call 42; refine (rderiv_any _ _ _ p _ (by repeat (first | assumption | apply Rd.alloc | (apply Rd.fw2; assumption))) bp (by omega)).mono ?_; rintro e w8 ⟨a8, n8, c8, rfl, r8, l8, b8⟩)
      | (go_at_call 43; refine (rfromroots_any _ _ _ p _ (by repeat (first | assumption | apply Rd.alloc | (apply Rd.fw2; assumption))) bp (by omega)).mono ?_; rintro e w9 ⟨a9, n9, c9, rfl, r9, l9, b9⟩)
      | (go_at_call 16; refine (lsame_eq _ _ _ _ _ _ _ _ _ (by repeat (first | assumption | apply Rd.alloc | (apply Rd.fw2; assumption))) (by repeat (first | assumption | apply Rd.alloc | (apply Rd.fw2; assumption))) (by first | exact Poly.out_byt _ | exact hrt) (by first | exact Poly.out_byt _ | exact hrt) rfl).mono ?_; rintro e w' ⟨rfl, rfl⟩)
      | (go_at_call 24; refine (rdegree_any _ _ _ p _ (by repeat (first | assumption | apply Rd.alloc | (apply Rd.fw2; assumption))) bp (by omega)).mono ?_; rintro e w10 ⟨rfl, b10⟩; rw [HT.out])
      | (go_at_call 44; refine (rroots_any _ _ _ p _ (by repeat (first | assumption | apply Rd.alloc | (apply Rd.fw2; assumption))) bp).mono ?_; rintro e w11 ⟨a11, n11, c11, rfl, r11, l11, b11⟩)
      | (go_at_call 45; refine (rmult_any _ _ _ p x _ (by repeat (first | assumption | apply Rd.alloc | (apply Rd.fw2; assumption))) bp hx0 hx1 (by omega) (by rw [HT.out]; omega)).mono ?_; rintro e w12 ⟨k2, hk2, rfl, b12⟩; have hkk := Poly.IsMult.unique hk2 HK.out; subst hkk; clear hk2))
    go_ret
    exact ⟨rfl, (by repeat (first | assumption | apply below_alloc | (apply bt'; assumption)))⟩
end Go.Proofs.Ytkbcingibgnnpaa
