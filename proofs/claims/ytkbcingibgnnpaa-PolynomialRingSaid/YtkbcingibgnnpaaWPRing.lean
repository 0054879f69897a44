/- PolynomialRing: the walk. -/
import Derived.Test.YtkbcingibgnnpaaPolyT
namespace Go.Proofs.Ytkbcingibgnnpaa
open Go.RowKit Go.Kin
set_option maxRecDepth 100000

set_option maxHeartbeats 800000 in
theorem walk_PolynomialRing (a : Option Addr) (n c : Nat) (p : List Nat) (b : Option Addr) (m d : Nat) (q : List Nat) (g : Option Addr) (k f : Nat) (r : List Nat) (x : Int) (w : World) (h1 : Rd vb w a n c p) (hp : ∀ x ∈ p, x < 256) (h2 : Rd vb w b m d q) (hq : ∀ x ∈ q, x < 256) (h3 : Rd vb w g k f r) (hr : ∀ x ∈ r, x < 256) (hx : 0 ≤ x ∧ x < 256) :
    Calls Try.prog 7 #[.slice a n c, .slice b m d, .slice g k f, .int .u8 x] w fun e w' => e = .returned (.bool true) ∧ Below w.heap.size w w' := by
  have bp : Gf.Byt p := hp
  have bq : Gf.Byt q := hq
  have br : Gf.Byt r := hr
  obtain ⟨hx0, hx1⟩ := hx
  clear hp hq hr
  by_cases hbig : 30 < n ∨ 30 < m ∨ 30 < k
  · have mb : (decide (30 < n) || (decide (30 < m) || decide (30 < k))) = true := by simpa using hbig
    have MB := Lib.hid mb
    clear mb hbig
    go_enter Try.func7, Try.ntmps7
    go_wp2_with (first
      | (go_at_call 13; refine (awake_any _).mono ?_; rintro e w1 ⟨rfl, b1⟩)
      | (go_at_call 18; refine (many3 a b g n m k c d f _ _ rfl).mono ?_; rintro e w' ⟨rfl, rfl⟩; rw [MB.out]))
    go_ret
    exact ⟨rfl, below_alloc _ b1⟩
  · have mb : (decide (30 < n) || (decide (30 < m) || decide (30 < k))) = false := by simp; omega
    have MB := Lib.hid mb
    have hn : n ≤ 30 := by omega
    have hm : m ≤ 30 := by omega
    have hk : k ≤ 30 := by omega
    clear mb hbig
    obtain ⟨u, HU⟩ : ∃ u, Hid (Poly.eval (Poly.of p) (Fq.of x.toNat) = u) := ⟨_, rfl⟩
    obtain ⟨v, HV⟩ : ∃ v, Hid (Poly.eval (Poly.of q) (Fq.of x.toNat) = v) := ⟨_, rfl⟩
    have bu := u.h
    have bv := v.h
    have GA : ∀ w, Calls Try.prog 32 #[.int .u8 ((u.n : Nat) : Int), .int .u8 ((v.n : Nat) : Int)] w fun e w' => e = .returned (.int .u8 (((u + v).n : Nat) : Int)) ∧ w = w' := fun w => by
      have := add_any ((u.n : Nat) : Int) ((v.n : Nat) : Int) w (by omega) (by omega) (by omega) (by omega)
      rwa [Int.toNat_natCast, Int.toNat_natCast] at this
    have GM : ∀ w, Calls Try.prog 33 #[.int .u8 ((u.n : Nat) : Int), .int .u8 ((v.n : Nat) : Int)] w fun e w' => e = .returned (.int .u8 (((u * v).n : Nat) : Int)) ∧ w = w' := fun w => by
      have := mul_any ((u.n : Nat) : Int) ((v.n : Nat) : Int) w (by omega) (by omega) (by omega) (by omega)
      rwa [Int.toNat_natCast, Int.toNat_natCast] at this
    go_enter Try.func7, Try.ntmps7
    go_wp2_with (first
      | (go_at_call 13; refine (awake_any _).mono ?_; rintro e w1 ⟨rfl, b1⟩)
      | (go_at_call 18; refine (many3 a b g n m k c d f _ _ rfl).mono ?_; rintro e w' ⟨rfl, rfl⟩; rw [MB.out])
      | (go_at_call 31; refine (lmul_s _ _ _ _ _ _ _ _ _ (by repeat (first | assumption | exact rd_newe vb 5 _ [1] (n := 1) rfl (by omega) rfl | apply Rd.alloc | (apply Rd.fw2; assumption))) (by repeat (first | assumption | exact rd_newe vb 5 _ [1] (n := 1) rfl (by omega) rfl | apply Rd.alloc | (apply Rd.fw2; assumption))) (by first | assumption | exact Poly.out_byt _ | exact byt1 (by omega)) (by first | assumption | exact Poly.out_byt _ | exact byt1 (by omega)) (by omega)).mono ?_; rintro e w2 ⟨a2, n2, c2, rfl, r2, l2, b2⟩; try simp only [Poly.of_out] at r2)
      | (go_at_call_of 25 b; refine (padd_s _ _ _ _ _ _ _ _ _ (by repeat (first | assumption | apply Rd.alloc | (apply Rd.fw2; assumption))) (by repeat (first | assumption | apply Rd.alloc | (apply Rd.fw2; assumption))) (by first | assumption | exact Poly.out_byt _) (by first | assumption | exact Poly.out_byt _) (by omega)).mono ?_; rintro e w2 ⟨a2, n2, c2, rfl, r2, l2, b2⟩; try simp only [Poly.of_out] at r2)
      | (go_at_call_of 25 a; refine (padd_self a n c p _ (by repeat (first | assumption | apply Rd.alloc | (apply Rd.fw2; assumption))) bp (by omega)).mono ?_; rintro e w2 ⟨a2, c2, rfl, b2⟩)
      | (go_at_call 25; refine (padd_s _ _ _ _ _ _ _ _ _ (by repeat (first | assumption | apply Rd.alloc | (apply Rd.fw2; assumption))) (by repeat (first | assumption | apply Rd.alloc | (apply Rd.fw2; assumption))) (by first | assumption | exact Poly.out_byt _) (by first | assumption | exact Poly.out_byt _) (by omega)).mono ?_; rintro e w2 ⟨a2, n2, c2, rfl, r2, l2, b2⟩; try simp only [Poly.of_out] at r2)
      | (go_at_call 22; refine (trim_s _ _ _ _ _ (by repeat (first | assumption | apply Rd.alloc | (apply Rd.fw2; assumption))) (by first | assumption | exact Poly.out_byt _) (by omega)).mono ?_; rintro e w2 ⟨a2, n2, c2, rfl, r2, l2, b2⟩)
      | (go_at_call 16; refine (lsame_eq _ _ _ _ _ _ _ _ _ (by repeat (first | assumption | apply Rd.alloc | (apply Rd.fw2; assumption))) (by repeat (first | assumption | apply Rd.alloc | (apply Rd.fw2; assumption))) (Poly.out_byt _) (Poly.out_byt _) (by first | (apply congrArg Poly.out; ac_rfl) | rw [Poly.mul_add] | rw [one_of, Poly.mul_one])).mono ?_; rintro e w' ⟨rfl, rfl⟩)
      | (go_at_call 20; refine (eval_any _ _ _ _ x _ (by repeat (first | assumption | apply Rd.alloc | (apply Rd.fw2; assumption))) (by first | assumption | exact Poly.out_byt _) hx0 hx1).mono ?_; rintro e w2 ⟨rfl, hd⟩; have b2 := hd.fw; clear hd; simp only [Poly.of_out, Poly.eval_add, Poly.eval_mul, HU.out, HV.out])
      | (go_at_call 32; refine (GA _).mono ?_; rintro e w' ⟨rfl, rfl⟩)
      | (go_at_call 33; refine (GM _).mono ?_; rintro e w' ⟨rfl, rfl⟩))
    go_ret
    exact ⟨rfl, by repeat (first | assumption | apply below_alloc | (apply bt'; assumption))⟩
end Go.Proofs.Ytkbcingibgnnpaa
