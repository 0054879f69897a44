/- PolynomialInterpolates: the walk. -/
import Derived.Test.YtkbcingibgnnpaaRefJ
namespace Go.Proofs.Ytkbcingibgnnpaa
open Go.RowKit Go.Kin
set_option maxRecDepth 100000

theorem interp_dup (a b : Option Addr) (n c d : Nat) (xs ys : List Nat) (w : World) (h1 : Rd vb w a n c xs) (h2 : Rd vb w b n d ys) (hx : Gf.Byt xs) (hy : Gf.Byt ys) (hn : n ≤ 140737488355000) (hd : ¬ xs.Nodup) :
    Calls Try.prog 14 #[.slice a n c, .slice b n d] w fun e w' => e = .returned (.tuple #[.slice none 0 0, .int .i64 1]) ∧ Below w.heap.size w w' :=
  (interp_any a b n c d xs ys w h1 h2 hx hy hn).mono fun _ _ hr => hr.1 hd

set_option maxHeartbeats 1000000 in
theorem walk_PolynomialInterpolates (a : Option Addr) (n c : Nat) (xs : List Nat) (b : Option Addr) (m d : Nat) (ys : List Nat) (w : World) (h1 : Rd vb w a n c xs) (hp : ∀ x ∈ xs, x < 256) (h2 : Rd vb w b m d ys) (hq : ∀ x ∈ ys, x < 256) :
    Calls Try.prog 3 #[.slice a n c, .slice b m d] w fun e w' => e = .returned (.bool true) ∧ Below w.heap.size w w' := by
  have bx : Gf.Byt xs := hp
  have byy : Gf.Byt ys := hq
  clear hp hq
  have m1 : n ≤ 9223372036854775807 := by have := h1.cap; have := h1.max; unfold maxLen at *; omega
  have m2 : m ≤ 9223372036854775807 := by have := h2.cap; have := h2.max; unfold maxLen at *; omega
  by_cases hbig : 20 < n ∨ 20 < m
  · rcases Nat.lt_or_ge 20 n with hc | hc
    all_goals
      go_enter Try.func3, Try.ntmps3
      go_wp2_with (go_at_call 13; refine (awake_any _).mono ?_; rintro e w1 ⟨rfl, b1⟩)
      try (exfalso; omega)
    all_goals
      go_ret
      exact ⟨rfl, b1⟩
  have hn : n ≤ 20 := by omega
  have hm : m ≤ 20 := by omega
  clear hbig
  by_cases hnm : n = m
  · subst hnm
    have kx := h1.len
    have ky := h2.len
    have KX := Lib.hid kx; have KY := Lib.hid ky
    clear kx ky
    by_cases hnd : xs.Nodup
    · have hf : decide xs.Nodup = true := decide_eq_true hnd
      have ND := Lib.hid hnd
      have HF := Lib.hid hf
      clear hnd hf
      go_enter Try.func3, Try.ntmps3
      go_wp2_with (first
        | (go_at_call 13; refine (awake_any _).mono ?_; rintro e w1 ⟨rfl, b1⟩)
        | (go_at_call 14; refine (interp_g _ _ _ _ _ xs ys _ (h1.fw b1) (h2.fw b1) bx byy (by omega) ND.out).mono ?_; rintro e w2 ⟨P1, hs1, ht1, a2, n2, c2, rfl, r2, b2⟩; have HT1 := Lib.hid ht1; have HS1 := Lib.hid hs1; have R2 := Lib.hid r2; clear ht1 hs1 r2)
        | (go_at_call 15; refine (rdistinct_any _ _ _ xs _ ((h1.fw b1).fw b2) bx).mono ?_; rintro e w3 ⟨rfl, hd3⟩; have b3 := hd3.fw; clear hd3; rw [HF.out])
        | (go_at_call 17; refine (rinterp_any _ _ _ _ _ xs ys _ (((h1.fw b1).fw b2).fw b3) (((h2.fw b1).fw b2).fw b3) bx byy (by omega) ND.out).mono ?_; rintro e w4 ⟨P2, hs2, ht2, a4, n4, c4, rfl, r4, l4, b4⟩; have HT2 := Lib.hid ht2; have HS2 := Lib.hid hs2; have R4 := Lib.hid r4; clear ht2 hs2 r4)
        | (go_at_call 16; refine (lsame_eq _ _ _ _ _ _ _ _ _ ((R2.out.fw b3).fw b4) R4.out (Poly.out_byt _) (Poly.out_byt _) (congrArg Poly.out (Poly.takes_unique bx ND.out (by rw [KX.out, KY.out]) HT1.out HT2.out (by rw [KX.out]; exact HS1.out) (by rw [KX.out]; exact HS2.out)))).mono ?_; rintro e w' ⟨rfl, rfl⟩))
      go_ret
      exact ⟨rfl, by repeat (first | assumption | apply below_alloc | (apply bt'; assumption))⟩
    · have hf : decide xs.Nodup = false := decide_eq_false hnd
      have ND := Lib.hid hnd
      have HF := Lib.hid hf
      clear hnd hf
      go_enter Try.func3, Try.ntmps3
      go_wp2_with (first
        | (go_at_call 13; refine (awake_any _).mono ?_; rintro e w1 ⟨rfl, b1⟩)
        | (go_at_call 14; refine (interp_dup _ _ _ _ _ xs ys _ (h1.fw b1) (h2.fw b1) bx byy (by omega) ND.out).mono ?_; rintro e w2 ⟨rfl, b2⟩)
        | (go_at_call 15; refine (rdistinct_any _ _ _ xs _ ((h1.fw b1).fw b2) bx).mono ?_; rintro e w3 ⟨rfl, hd3⟩; have b3 := hd3.fw; clear hd3; rw [HF.out]))
      go_ret
      exact ⟨rfl, by repeat (first | assumption | apply below_alloc | (apply bt'; assumption))⟩
  · go_enter Try.func3, Try.ntmps3
    go_wp2_with (first
      | (go_at_call 13; refine (awake_any _).mono ?_; rintro e w1 ⟨rfl, b1⟩)
      | (go_at_call 14; refine (interp_len _ _ _ _ _ _ _ hnm).mono ?_; rintro e w2 ⟨rfl, rfl⟩))
    go_ret
    exact ⟨rfl, b1⟩
end Go.Proofs.Ytkbcingibgnnpaa
