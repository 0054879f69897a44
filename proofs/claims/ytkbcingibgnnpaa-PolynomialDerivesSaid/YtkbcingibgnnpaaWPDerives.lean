/- PolynomialDerives: the walk. -/
import Derived.Test.YtkbcingibgnnpaaOwnV
namespace Go.Proofs.Ytkbcingibgnnpaa
open Go.RowKit Go.Kin
set_option maxRecDepth 100000

set_option maxHeartbeats 4000000 in
theorem walk_PolynomialDerives (a : Option Addr) (n c : Nat) (p : List Nat) (b : Option Addr) (m d : Nat) (q : List Nat) (x : Int) (w : World) (h1 : Rd vb w a n c p) (hp : ∀ x ∈ p, x < 256) (h2 : Rd vb w b m d q) (hq : ∀ x ∈ q, x < 256) (hx : 0 ≤ x ∧ x < 256) :
    Calls Try.prog 11 #[.slice a n c, .slice b m d, .int .u8 x] w fun e w' => e = .returned (.bool true) ∧ Below w.heap.size w w' := by
  have bp : Gf.Byt p := hp
  have bq : Gf.Byt q := hq
  obtain ⟨hx0, hx1⟩ := hx
  clear hp hq
  by_cases hbig : 30 < n ∨ 30 < m
  · have mb : (decide (30 < n) || decide (30 < m)) = true := by simpa using hbig
    have MB := Lib.hid mb
    clear mb hbig
    go_enter Try.func11, Try.ntmps11
    go_wp2_with (first
      | (go_at_call 13; refine (awake_any _).mono ?_; rintro e w1 ⟨rfl, b1⟩)
      | (go_at_call 18; refine (many2 a b n m c d _ _ rfl).mono ?_; rintro e w' ⟨rfl, rfl⟩; rw [MB.out]))
    go_ret
    exact ⟨rfl, below_alloc _ b1⟩
  have mb : (decide (30 < n) || decide (30 < m)) = false := by simp; omega
  have MB := Lib.hid mb
  have hn : n ≤ 30 := by omega
  have hm : m ≤ 30 := by omega
  clear mb hbig
  obtain ⟨s, HS⟩ : ∃ s, Hid ((Poly.of p).sz = s) := ⟨_, rfl⟩
  obtain ⟨u, HU⟩ : ∃ u, Hid (Poly.eval (Poly.of p) (Fq.of x.toNat) = u) := ⟨_, rfl⟩
  obtain ⟨v, HV⟩ : ∃ v, Hid (Poly.eval (Poly.of p).deriv (Fq.of x.toNat) = v) := ⟨_, rfl⟩
  have bu := u.h
  have bv := v.h
  have tok : True := trivial
  by_cases hs0 : s = 0
  · have e1 : decide (((s : Nat) : Int) - 1 < 0) = true := by simp; omega
    clear hs0
    go_enter Try.func11, Try.ntmps11
    go_wp2_with (first
      | (go_at_call 13; refine (awake_any _).mono ?_; rintro e w1 ⟨rfl, b1⟩)
      | (go_at_call 18; refine (many2 a b n m c d _ _ rfl).mono ?_; rintro e w' ⟨rfl, rfl⟩; rw [MB.out])
      | (go_at_call 40; refine (deriv_any _ _ _ _ _ (by repeat (first | assumption | apply Rd.alloc | (apply Rd.fw2; assumption))) (by first | assumption | exact Poly.out_byt _) (by omega)).mono ?_; rintro e w2 ⟨a2, n2, c2, rfl, r2, l2, b2⟩; try simp only [Poly.of_out, Poly.deriv_mul, Poly.deriv_add] at r2)
      | (go_at_call 31; refine (lmul_s _ _ _ _ _ _ _ _ _ (by repeat (first | assumption | apply Rd.alloc | (apply Rd.fw2; assumption))) (by repeat (first | assumption | apply Rd.alloc | (apply Rd.fw2; assumption))) (by first | assumption | exact Poly.out_byt _) (by first | assumption | exact Poly.out_byt _) (by omega)).mono ?_; rintro e w2 ⟨a2, n2, c2, rfl, r2, l2, b2⟩; try simp only [Poly.of_out] at r2)
      | (go_at_call 25; refine (padd_s _ _ _ _ _ _ _ _ _ (by repeat (first | assumption | apply Rd.alloc | (apply Rd.fw2; assumption))) (by repeat (first | assumption | apply Rd.alloc | (apply Rd.fw2; assumption))) (by first | assumption | exact Poly.out_byt _) (by first | assumption | exact Poly.out_byt _) (by omega)).mono ?_; rintro e w2 ⟨a2, n2, c2, rfl, r2, l2, b2⟩; try simp only [Poly.of_out] at r2)
      | (go_at_call 16; refine (lsame_eq _ _ _ _ _ _ _ _ _ (by repeat (first | assumption | apply Rd.alloc | (apply Rd.fw2; assumption))) (by repeat (first | assumption | apply Rd.alloc | (apply Rd.fw2; assumption))) (Poly.out_byt _) (Poly.out_byt _) rfl).mono ?_; rintro e w' ⟨rfl, rfl⟩)
      | (go_at_call 21; refine (degree_any _ _ _ p _ (by repeat (first | assumption | apply Rd.alloc | (apply Rd.fw2; assumption))) bp).mono ?_; rintro e w' ⟨rfl, rfl⟩; rw [HS.out]))
    go_ret
    exact ⟨rfl, (by repeat (first | assumption | apply below_alloc | (apply bt'; assumption)))⟩
  have e1 : decide (((s : Nat) : Int) - 1 < 0) = false := by simp; omega
  by_cases hu0 : u.n = 0
  · have e2 : (((u.n : Nat) : Int) != 0) = false := by rw [hu0]; rfl
    have hu1 := HU.out.trans (Fq.n_eq_zero.1 hu0)
    have HU1 := Lib.hid hu1
    have vz : (((v.n : Nat) : Int) == 0) = decide (v = 0) := by
      by_cases h : v = 0
      · rw [h]; rfl
      · rw [decide_eq_false h]
        have : v.n ≠ 0 := fun e => h (Fq.n_eq_zero.1 e)
        simp; omega
    have VZ := Lib.hid vz
    clear hu1 hu0 vz
    go_enter Try.func11, Try.ntmps11
    go_wp2_with (first
      | (go_at_call 13; refine (awake_any _).mono ?_; rintro e w1 ⟨rfl, b1⟩)
      | (go_at_call 18; refine (many2 a b n m c d _ _ rfl).mono ?_; rintro e w' ⟨rfl, rfl⟩; rw [MB.out])
      | (go_at_call 40; refine (deriv_any _ _ _ _ _ (by repeat (first | assumption | apply Rd.alloc | (apply Rd.fw2; assumption))) (by first | assumption | exact Poly.out_byt _) (by omega)).mono ?_; rintro e w2 ⟨a2, n2, c2, rfl, r2, l2, b2⟩; try simp only [Poly.of_out, Poly.deriv_mul, Poly.deriv_add] at r2)
      | (go_at_call 31; refine (lmul_s _ _ _ _ _ _ _ _ _ (by repeat (first | assumption | apply Rd.alloc | (apply Rd.fw2; assumption))) (by repeat (first | assumption | apply Rd.alloc | (apply Rd.fw2; assumption))) (by first | assumption | exact Poly.out_byt _) (by first | assumption | exact Poly.out_byt _) (by omega)).mono ?_; rintro e w2 ⟨a2, n2, c2, rfl, r2, l2, b2⟩; try simp only [Poly.of_out] at r2)
      | (go_at_call 25; refine (padd_s _ _ _ _ _ _ _ _ _ (by repeat (first | assumption | apply Rd.alloc | (apply Rd.fw2; assumption))) (by repeat (first | assumption | apply Rd.alloc | (apply Rd.fw2; assumption))) (by first | assumption | exact Poly.out_byt _) (by first | assumption | exact Poly.out_byt _) (by omega)).mono ?_; rintro e w2 ⟨a2, n2, c2, rfl, r2, l2, b2⟩; try simp only [Poly.of_out] at r2)
      | (go_at_call 16; refine (lsame_eq _ _ _ _ _ _ _ _ _ (by repeat (first | assumption | apply Rd.alloc | (apply Rd.fw2; assumption))) (by repeat (first | assumption | apply Rd.alloc | (apply Rd.fw2; assumption))) (Poly.out_byt _) (Poly.out_byt _) rfl).mono ?_; rintro e w' ⟨rfl, rfl⟩)
      | (go_at_call 21; refine (degree_any _ _ _ p _ (by repeat (first | assumption | apply Rd.alloc | (apply Rd.fw2; assumption))) bp).mono ?_; rintro e w' ⟨rfl, rfl⟩; rw [HS.out])
      | (go_at_call_of 20 a; have _t := tok; refine (eval_any _ _ _ p x _ (by repeat (first | assumption | apply Rd.alloc | (apply Rd.fw2; assumption))) bp hx0 hx1).mono ?_; rintro e w2 ⟨rfl, hd⟩; have b2 := hd.fw; clear hd; rw [HU.out]; clear _t tok)
      | (go_at_call 38; refine (mult_any _ _ _ p x _ (by repeat (first | assumption | apply Rd.alloc | (apply Rd.fw2; assumption))) bp hx0 hx1 (by omega) (by rw [HS.out]; omega)).mono ?_; rintro e w2 ⟨k, hk, lk, rfl, b2⟩; have HK := Lib.hid hk; clear hk)
      | (go_at_call 20; refine (eval_any _ _ _ (Poly.out (Poly.of p).deriv) x _ (by repeat (first | assumption | apply Rd.alloc | (apply Rd.fw2; assumption))) (Poly.out_byt _) hx0 hx1).mono ?_; rintro e w2 ⟨rfl, hd⟩; have b2 := hd.fw; clear hd; rw [Poly.of_out, HV.out]))
    go_ret
    refine ⟨ret_bool ?_, (by repeat (first | assumption | apply below_alloc | (apply bt'; assumption)))⟩
    rw [VZ.out]
    have h9 := Poly.deriv_root HK.out HU1.out
    rw [HV.out] at h9
    by_cases h : v = 0
    · have := h9.1 h
      rw [decide_eq_true h]
      simp; omega
    · have : ¬ 1 < k := fun e => h (h9.2 e)
      rw [decide_eq_false h]
      simp; omega
  · have e2 : (((u.n : Nat) : Int) != 0) = true := by simp; omega
    clear hu0
    go_enter Try.func11, Try.ntmps11
    go_wp2_with (first
      | (go_at_call 13; refine (awake_any _).mono ?_; rintro e w1 ⟨rfl, b1⟩)
      | (go_at_call 18; refine (many2 a b n m c d _ _ rfl).mono ?_; rintro e w' ⟨rfl, rfl⟩; rw [MB.out])
      | (go_at_call 40; refine (deriv_any _ _ _ _ _ (by repeat (first | assumption | apply Rd.alloc | (apply Rd.fw2; assumption))) (by first | assumption | exact Poly.out_byt _) (by omega)).mono ?_; rintro e w2 ⟨a2, n2, c2, rfl, r2, l2, b2⟩; try simp only [Poly.of_out, Poly.deriv_mul, Poly.deriv_add] at r2)
      | (go_at_call 31; refine (lmul_s _ _ _ _ _ _ _ _ _ (by repeat (first | assumption | apply Rd.alloc | (apply Rd.fw2; assumption))) (by repeat (first | assumption | apply Rd.alloc | (apply Rd.fw2; assumption))) (by first | assumption | exact Poly.out_byt _) (by first | assumption | exact Poly.out_byt _) (by omega)).mono ?_; rintro e w2 ⟨a2, n2, c2, rfl, r2, l2, b2⟩; try simp only [Poly.of_out] at r2)
      | (go_at_call 25; refine (padd_s _ _ _ _ _ _ _ _ _ (by repeat (first | assumption | apply Rd.alloc | (apply Rd.fw2; assumption))) (by repeat (first | assumption | apply Rd.alloc | (apply Rd.fw2; assumption))) (by first | assumption | exact Poly.out_byt _) (by first | assumption | exact Poly.out_byt _) (by omega)).mono ?_; rintro e w2 ⟨a2, n2, c2, rfl, r2, l2, b2⟩; try simp only [Poly.of_out] at r2)
      | (go_at_call 16; refine (lsame_eq _ _ _ _ _ _ _ _ _ (by repeat (first | assumption | apply Rd.alloc | (apply Rd.fw2; assumption))) (by repeat (first | assumption | apply Rd.alloc | (apply Rd.fw2; assumption))) (Poly.out_byt _) (Poly.out_byt _) rfl).mono ?_; rintro e w' ⟨rfl, rfl⟩)
      | (go_at_call 21; refine (degree_any _ _ _ p _ (by repeat (first | assumption | apply Rd.alloc | (apply Rd.fw2; assumption))) bp).mono ?_; rintro e w' ⟨rfl, rfl⟩; rw [HS.out])
      | (go_at_call 20; refine (eval_any _ _ _ p x _ (by repeat (first | assumption | apply Rd.alloc | (apply Rd.fw2; assumption))) bp hx0 hx1).mono ?_; rintro e w2 ⟨rfl, hd⟩; have b2 := hd.fw; clear hd; rw [HU.out]))
    go_ret
    exact ⟨rfl, (by repeat (first | assumption | apply below_alloc | (apply bt'; assumption)))⟩
end Go.Proofs.Ytkbcingibgnnpaa
