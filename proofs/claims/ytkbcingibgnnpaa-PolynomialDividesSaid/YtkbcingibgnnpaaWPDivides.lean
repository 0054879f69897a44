/- PolynomialDivides: the walk. -/
import Derived.Test.YtkbcingibgnnpaaMany
namespace Go.Proofs.Ytkbcingibgnnpaa
open Go.RowKit Go.Kin
set_option maxRecDepth 100000

theorem many2 (a b : Option Addr) (n m c d : Nat) (w : World) (g : Nat) (hg : g = w.heap.size) :
    Calls Try.prog 18 #[.slice (some ⟨g, 0, none⟩) 2 2] (w.alloc (.cells #[.slice a n c, .slice b m d] 22 (0, 0))) fun e w' => e = .returned (.bool (decide (30 < n) || decide (30 < m))) ∧ (w.alloc (.cells #[.slice a n c, .slice b m d] 22 (0, 0))) = w' :=
  (many_any (some ⟨g, 0, none⟩) 2 2 [(a, n, c), (b, m, d)] _ (rd_newe vs 22 w [(a, n, c), (b, m, d)] rfl (by omega) hg)).mono fun _ _ ⟨he, hw⟩ => ⟨by rw [he]; simp, hw⟩

set_option maxHeartbeats 1000000 in
theorem walk_PolynomialDivides (a : Option Addr) (n c : Nat) (p : List Nat) (b : Option Addr) (m d : Nat) (q : List Nat) (w : World) (h1 : Rd vb w a n c p) (hp : ∀ x ∈ p, x < 256) (h2 : Rd vb w b m d q) (hq : ∀ x ∈ q, x < 256) :
    Calls Try.prog 6 #[.slice a n c, .slice b m d] w fun e w' => e = .returned (.bool true) ∧ Below w.heap.size w w' := by
  have H1 := Lib.hid h1; have H2 := Lib.hid h2
  have k1 := Poly.sz_of_le p; have k2 := Poly.sz_of_le q
  rw [h1.len] at k1; rw [h2.len] at k2
  clear h1 h2
  obtain ⟨s, HS⟩ : ∃ s, Hid ((Poly.of p).sz = s) := ⟨_, rfl⟩
  obtain ⟨t, HT⟩ : ∃ t, Hid ((Poly.of q).sz = t) := ⟨_, rfl⟩
  rw [HS.out] at k1; rw [HT.out] at k2
  by_cases hbig : 30 < n ∨ 30 < m
  · have mb : (decide (30 < n) || decide (30 < m)) = true := by simpa using hbig
    have MB := Lib.hid mb
    clear mb hbig
    go_enter Try.func6, Try.ntmps6
    go_wp2_with (first
      | (go_at_call 13; refine (awake_any _).mono ?_; rintro e w1 ⟨rfl, b1⟩)
      | (go_at_call 18; refine (many2 a b n m c d _ _ rfl).mono ?_; rintro e w' ⟨rfl, rfl⟩; rw [MB.out]))
    go_ret
    exact ⟨rfl, below_alloc _ b1⟩
  · have mb : (decide (30 < n) || decide (30 < m)) = false := by simp; omega
    have MB := Lib.hid mb
    have hn : n ≤ 30 := by omega
    have hm : m ≤ 30 := by omega
    clear mb hbig
    by_cases ht : t = 0
    · have t1 : decide (((t : Nat) : Int) - 1 < 0) = true := by simp; omega
      go_enter Try.func6, Try.ntmps6
      go_wp2_with (first
        | (go_at_call 13; refine (awake_any _).mono ?_; rintro e w1 ⟨rfl, b1⟩)
        | (go_at_call 18; refine (many2 a b n m c d _ _ rfl).mono ?_; rintro e w' ⟨rfl, rfl⟩; rw [MB.out])
        | (go_at_call 21; refine (degree_any _ _ _ q _ (by repeat (first | exact H2.out | apply Rd.alloc | refine Rd.fw ?_ (by assumption))) hq).mono ?_; rintro e w' ⟨rfl, rfl⟩; rw [HT.out]))
      go_ret
      exact ⟨rfl, below_alloc _ b1⟩
    · have t1 : decide (((t : Nat) : Int) - 1 < 0) = false := by simp; omega
      go_enter Try.func6, Try.ntmps6
      go_wp2_with (first
        | (go_at_call 13; refine (awake_any _).mono ?_; rintro e w1 ⟨rfl, b1⟩)
        | (go_at_call 18; refine (many2 a b n m c d _ _ rfl).mono ?_; rintro e w' ⟨rfl, rfl⟩; rw [MB.out])
        | (go_at_call_of 21 b; refine (degree_any _ _ _ q _ (by repeat (first | exact H2.out | apply Rd.alloc | refine Rd.fw ?_ (by assumption))) hq).mono ?_; rintro e w' ⟨rfl, rfl⟩; rw [HT.out])
        | (go_at_call 30; refine (divmod_g _ _ _ _ _ _ p q _ (by repeat (first | exact H1.out | apply Rd.alloc | refine Rd.fw ?_ (by assumption))) (by repeat (first | exact H2.out | apply Rd.alloc | refine Rd.fw ?_ (by assumption))) hp hq (by omega) (by omega) (by rw [HT.out]; omega)).mono ?_; rintro e w2 ⟨D, R, a2, n2, c2, a3, n3, c3, hv, hr, rfl, r2, r3, b2⟩;
            have HV := Lib.hid hv; have HR := Lib.hid hr; have R2 := Lib.hid r2; have R3 := Lib.hid r3; have hds := Poly.div_sz hv hr; rw [HS.out] at hds; have l2 := r2.len; rw [Poly.out_length] at l2; have hr2 := hr; rw [HT.out] at hr2; have BD := Lib.hid (Poly.out_byt D); have BR := Lib.hid (Poly.out_byt R);
            have n2l : n2 ≤ 30 := (by omega); have l3 := r3.len; rw [Poly.out_length] at l3; have n3l : n3 ≤ 30 := (by omega); have LT : Hid (n3 < t) := (by show _ < _; omega); have L3 := Lib.hid l3; clear hds hv hr r2 r3 l2 hr2 l3)
        | (go_at_call 31; refine (lmul_any _ _ _ _ _ _ (Poly.out D) q _ R2.out (by repeat (first | exact H2.out | apply Rd.alloc | refine Rd.fw ?_ (by assumption))) BD.out hq (by omega)).mono ?_; rintro e w3 ⟨a4, n4, c4, rfl, r4, b3⟩; have R4 := Lib.hid r4; have l4 := r4.len; have k4 := Poly.sz_mul_le (Poly.of (Poly.out D)) (Poly.of q); rw [Poly.out_length] at l4; rw [HT.out, Poly.of_out, ← Poly.out_length D, R2.out.len] at k4; rw [Poly.of_out] at l4; have n4l : n4 ≤ 60 := (by omega); clear r4 l4 k4)
        | (go_at_call 25; refine (padd_g _ _ _ _ _ _ _ (Poly.out R) _ R4.out (R3.out.fw b3) (Poly.out_byt _) BR.out (by omega) (by omega)).mono ?_; rintro e w4 ⟨a5, n5, c5, rfl, r5, b4⟩; rw [Poly.of_out, Poly.of_out, Poly.of_out, ← HV.out] at r5; have R5 := Lib.hid r5; clear r5)
        | (go_at_call 22; refine (trim_g _ _ _ p _ (by repeat (first | exact H1.out | apply Rd.alloc | refine Rd.fw ?_ (by assumption))) hp (by omega)).mono ?_; rintro e w5 ⟨a6, n6, c6, rfl, r6, b5⟩; have R6 := Lib.hid r6; clear r6)
        | (go_at_call 16; refine (lsame_eq _ _ _ _ _ _ _ _ _ (R5.out.fw b5) R6.out (Poly.out_byt _) (Poly.out_byt _) rfl).mono ?_; rintro e w' ⟨rfl, rfl⟩)
        | (go_at_call 21; refine (degree_any _ _ _ (Poly.out R) _ (by repeat (first | exact R3.out | refine Rd.fw ?_ (by assumption))) BR.out).mono ?_; rintro e w' ⟨rfl, rfl⟩; rw [Poly.of_out, L3.out]))
      go_ret
      exact ⟨ret_bool (decide_eq_true LT.out), by repeat (first | assumption | apply below_alloc | (apply bt'; assumption))⟩
end Go.Proofs.Ytkbcingibgnnpaa
