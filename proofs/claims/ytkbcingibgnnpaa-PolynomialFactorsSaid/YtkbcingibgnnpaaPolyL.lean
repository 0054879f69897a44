/- polynomial.GCD. -/
import Derived.Test.YtkbcingibgnnpaaPolyK
import Derived.Test.YtkbcingibgnnpaaPolyT
namespace Go.Proofs.Ytkbcingibgnnpaa
open Go.RowKit Go.Kin
set_option maxRecDepth 100000

/-- A slice's length. -/
def lenV : Value → Nat
  | .slice _ n _ => n
  | _ => 0

set_option maxHeartbeats 1000000 in
theorem pgcd_any (a b : Option Addr) (n m c d : Nat) (p q : List Nat) (w : World) (h1 : Rd vb w a n c p) (h2 : Rd vb w b m d q) (hp : Gf.Byt p) (hq : Gf.Byt q) (hn : n + m ≤ 140737488355000) :
    Calls Try.prog 34 #[.slice a n c, .slice b m d] w fun e w' => ∃ g : Poly, Poly.IsGcd g (Poly.of p) (Poly.of q) ∧ GivesS w (n + m) (Poly.out g) e w' := by
  have H1 := Lib.hid h1; have H2 := Lib.hid h2; clear h1 h2
  go_enter Try.func34, Try.ntmps34
  go_wp2_with fail
  refine (trim_s _ _ _ p _ H1.out hp (by omega)).mono ?_
  rintro e w1 ⟨a1, n1, c1, rfl, r1, l1, b1⟩
  go_wp2_with fail
  refine (trim_s _ _ _ q _ (H2.out.fw b1) hq (by omega)).mono ?_
  rintro e w2 ⟨a2, n2, c2, rfl, r2, l2, b2⟩
  have R1 := Lib.hid (r1.fw b2); have R2 := Lib.hid r2
  have b0 := bt b1 b2
  clear r1 r2
  go_wp2_with fail
  go_loopw [0, 1, 5, 6, 7] (fun x y _ _ _ wr => ∃ (P Q : Poly) (xa : Option Addr) (xn xc : Nat) (ya : Option Addr) (yn yc : Nat), x = .slice xa xn xc ∧ y = .slice ya yn yc ∧ xn ≤ n + m ∧ yn ≤ n + m ∧ Hid (Rd vb wr xa xn xc (Poly.out P)) ∧ Hid (Rd vb wr ya yn yc (Poly.out Q)) ∧
      Hid (∀ g, Poly.IsGcd g P Q → Poly.IsGcd g (Poly.of p) (Poly.of q)) ∧ Below w.heap.size w wr) (fun _ y _ _ _ _ => lenV y)
  case atStart => exact ⟨_, _, a1, n1, c1, a2, n2, c2, rfl, rfl, by omega, by omega, R1.out, R2.out, fun g h => h, b0⟩
  case round =>
    obtain ⟨P, Q, xa, xn, xc, ya, yn, yc, rfl, rfl, hxn, hyn, hx, hy, hg, hbe⟩ := hrel
    have lx := hx.out.len
    have ly := hy.out.len
    rw [Poly.out_length] at lx ly
    have LX := Lib.hid lx; have LY := Lib.hid ly
    by_cases h0 : yn = 0
    · have hQ : Q = 0 := Poly.sz_eq_zero.1 (by rw [ly]; exact h0)
      subst h0
      by_cases h1 : xn = 0
      · have hP : P = 0 := Poly.sz_eq_zero.1 (by rw [lx]; exact h1)
        have hG := hg.out 0 (by rw [hP, hQ]; exact .none)
        have HG := Lib.hid hG
        subst h1
        clear lx ly hP hQ hG
        go_wp2
        go_ret
        exact ⟨0, HG.out, none, 0, 0, rfl, Rd.nil _ _, by omega, hbe⟩
      · have hP : P ≠ 0 := Poly.sz_pos.1 (by rw [lx]; omega)
        have hG := hg.out _ (by rw [hQ]; exact .base hP)
        have HG := Lib.hid hG
        have ht := Poly.top_ne hP
        obtain ⟨t, HT⟩ : ∃ t, Hid (Poly.top P = t) := ⟨_, rfl⟩
        rw [HT.out] at ht
        have bt9 := t.h
        have t0 : 0 < t.n := by
          rcases Nat.eq_zero_or_pos t.n with e | e
          · exact absurd (Fq.n_eq_zero.1 e) ht
          · exact e
        have hcell : (Poly.out P)[xn - 1]? = some t.n := by rw [Poly.out_get (by rw [lx]; omega), ← HT.out, Poly.top, lx]
        obtain ⟨o1, o2, rfl, c9⟩ := hx.out.cell _ _ hcell
        unfold vb at c9
        have i1 : ((xn : Int) - 1) < (xn : Int) := by omega
        have i2 : 0 ≤ ((xn : Int) - 1) := by omega
        have biv := Gf.inv_lt t.n bt9
        clear lx ly hG hcell ht hP hQ
        go_wp2_with (first
          | (go_at_call 52; refine (inv_any _ _ (by omega) (by omega)).mono ?_; rintro e w' ⟨rfl, rfl⟩)
          | (go_at_call 54; refine (scale_any _ _ _ (Poly.out P) _ _ hx.out (Poly.out_byt _) (by omega) (by omega) (by omega)).mono ?_; rintro e w5 ⟨g5, rfl, hg5, hB5, hb5⟩; have HB5 := Lib.hid hB5; rw [List.length_map, Poly.out_length, LX.out]; clear hB5))
        go_ret
        refine ⟨_, HG.out, some ⟨g5, 0, none⟩, xn, xn, rfl, ?_, hxn, bt hbe hb5⟩
        have hl : (Poly.out P).map (Gf.mul (Gf.inv t.n)) = Poly.out (Poly.C (Fq.inv (Poly.top P)) * P) := by
          refine Poly.eq_out (Gf.scale_byt _ _ biv) ?_ ?_
          · rw [Poly.of_scale (Poly.out_byt _) biv, Poly.of_out, HT.out, Fq.of_inv bt9, Fq.of_val]
          · rw [List.length_map, Poly.out_length]
            refine ((Poly.top_C_mul ?_ P).1).symm
            rw [HT.out]
            exact Fq.inv_ne_zero (fun e => by rw [e] at t0; exact absurd t0 (by decide))
        have := HB5.out
        rw [Int.toNat_natCast, hl] at this
        exact this.rdn (by rw [← hl, List.length_map, Poly.out_length, LX.out]) (Nat.le_refl _) (by omega)
    · have e0 : decide ((0 : Int) < (yn : Int)) = true := by simp; omega
      clear lx ly
      go_wp2_with (go_at_call 30; refine (divmod_g _ _ _ _ _ _ (Poly.out P) (Poly.out Q) _ hx.out hy.out (Poly.out_byt _) (Poly.out_byt _) (by omega) (by omega) (by rw [Poly.of_out, LY.out]; omega)).mono ?_; rintro e w5 ⟨D, R, a5, n5, c5, a6, n6, c6, hv, hr, rfl, r5, r6, b5⟩; rw [Poly.of_out, Poly.of_out] at hv; rw [Poly.of_out, LY.out] at hr; have HV := Lib.hid hv; have l6 := r6.len; rw [Poly.out_length] at l6; rw [l6] at hr; have R6 := Lib.hid r6; clear r5 r6 hv l6)
      go_roundw
      case rel =>
        exact ⟨Q, R, ya, yn, yc, a6, n6, c6, rfl, rfl, hyn, by omega, hy.out.fw b5, R6.out, fun g h => hg.out g (.step HV.out h), bt hbe b5⟩
      case measure => simp [lenV]; omega
end Go.Proofs.Ytkbcingibgnnpaa
