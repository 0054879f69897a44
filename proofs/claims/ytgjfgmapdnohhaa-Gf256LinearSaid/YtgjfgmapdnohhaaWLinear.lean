/- kinkeeplaw02.Gf256Linear returns true for every input. -/
import Derived.Test.YtgjfgmapdnohhaaRefB
namespace Gf
theorem mulAdd_twice (p q : List Nat) (x y : Nat) (hx : x < 256) (hy : y < 256) (h : p.length = q.length) : mulAdd (mulAdd p q x) q y = mulAdd p q (x ^^^ y) := by
  have hl : (mulAdd p q x).length = q.length := by rw [mulAdd_length p q x h, h]
  refine Go.Kin.list_ext_of (n := p.length) (by rw [mulAdd_length _ _ _ hl, hl, h]) (mulAdd_length p q _ h) (l0 := p) rfl fun j u hu => ?_
  have hj := (List.getElem?_eq_some_iff.1 hu).1
  obtain ⟨v, hv⟩ : ∃ v, q[j]? = some v := ⟨_, List.getElem?_eq_getElem (by omega)⟩
  rw [mulAdd_get _ q y j _ v (mulAdd_get p q x j u v hu hv) hv, mulAdd_get p q _ j u v hu hv, xor_mul x y v hx hy, ← Nat.xor_assoc, Nat.xor_comm (mul y v)]

theorem dot_mulAdd (p q r : List Nat) (x : Nat) (hp : Byt p) (hq : Byt q) (hr : Byt r) (hx : x < 256) (h : p.length = q.length) (h2 : q.length = r.length) : dot (mulAdd p q x) r = dot p r ^^^ mul x (dot q r) := by
  unfold dot
  rw [mulAdd_length p q x h, h]
  have key : ∀ k, k ≤ q.length → dotTo (mulAdd p q x) r k = dotTo p r k ^^^ mul x (dotTo q r k) := by
    intro k
    induction k with
    | zero => intro _; simp [dotTo, mul_zero]
    | succ k ih =>
      intro hk
      obtain ⟨u, hu⟩ : ∃ u, p[k]? = some u := ⟨_, List.getElem?_eq_getElem (by omega)⟩
      obtain ⟨v, hv⟩ : ∃ v, q[k]? = some v := ⟨_, List.getElem?_eq_getElem (by omega)⟩
      obtain ⟨t, ht⟩ : ∃ t, r[k]? = some t := ⟨_, List.getElem?_eq_getElem (by omega)⟩
      have bu := hp.at hu
      have bv := hq.at hv
      have bt := hr.at ht
      rw [dotTo, dotTo, dotTo, ih (by omega), List.getD_eq_getElem?_getD, List.getD_eq_getElem?_getD, List.getD_eq_getElem?_getD, List.getD_eq_getElem?_getD, mulAdd_get p q x k u v hu hv, hu, hv, ht]
      simp only [Option.getD_some]
      rw [xor_mul _ _ _ (mul_lt x v hx) bu, mul_xor, mul_assoc x v t hx bv bt, Nat.xor_comm (mul x (mul v t)), xor_swap]
  exact key _ (Nat.le_refl _)
end Gf
namespace Go.Proofs.Ytgjfgmapdnohhaa
open Go.RowKit Go.Kin
set_option maxRecDepth 100000

set_option maxHeartbeats 1000000 in
theorem walk_Gf256Linear (a0 : Option Addr) (n0 c0 : Nat) (p : List Nat) (a1 : Option Addr) (n1 c1 : Nat) (q : List Nat) (a2 : Option Addr) (n2 c2 : Nat) (r : List Nat) (x y : Int) (w : World) (h0 : Rd vb w a0 n0 c0 p) (hp : Gf.Byt p) (h1 : Rd vb w a1 n1 c1 q) (hq : Gf.Byt q) (h2 : Rd vb w a2 n2 c2 r) (hr : Gf.Byt r) (hx : 0 ≤ x ∧ x < 256) (hy : 0 ≤ y ∧ y < 256) :
    Calls Try.prog 10 #[.slice a0 n0 c0, .slice a1 n1 c1, .slice a2 n2 c2, .int .u8 x, .int .u8 y] w fun e w' => e = .returned (.bool true) ∧ Below w.heap.size w w' := by
  obtain ⟨hx0, hx1⟩ := hx
  obtain ⟨x, rfl⟩ := Int.eq_ofNat_of_zero_le hx0
  have hxx : x < 256 := by omega
  obtain ⟨hy0, hy1⟩ := hy
  obtain ⟨y, rfl⟩ := Int.eq_ofNat_of_zero_le hy0
  have hyy : y < 256 := by omega
  have H0 := Lib.hid h0; have H1 := Lib.hid h1; have H2 := Lib.hid h2; clear h0 h1 h2
  have HP := Lib.hid hp; have HQ := Lib.hid hq; have HR := Lib.hid hr; clear hp hq hr
  by_cases d1 : n0 = n1
  rotate_left
  · have e1 : (((n0 : Nat) : Int) != ((n1 : Nat) : Int)) = true := by simp; omega
    go_enter Try.func10, Try.ntmps10
    go_wp2_with (go_at_call 11; refine (awake_any _).mono ?_; rintro e w1 ⟨rfl, hb1⟩)
    go_ret
    exact ⟨rfl, by assumption⟩
  subst d1
  by_cases d2 : n0 = n2
  rotate_left
  · have e1 : (((n0 : Nat) : Int) != ((n2 : Nat) : Int)) = true := by simp; omega
    go_enter Try.func10, Try.ntmps10
    go_wp2_with (go_at_call 11; refine (awake_any _).mono ?_; rintro e w1 ⟨rfl, hb1⟩)
    go_ret
    exact ⟨rfl, by assumption⟩
  subst d2
  by_cases d0 : 200 < n0
  · go_enter Try.func10, Try.ntmps10
    go_wp2_with (go_at_call 11; refine (awake_any _).mono ?_; rintro e w1 ⟨rfl, hb1⟩)
    go_ret
    exact ⟨rfl, by assumption⟩
  have l1 : (Gf.mulAdd p q x).length = n0 := by rw [Gf.mulAdd_length _ _ _ (by rw [H0.out.len, H1.out.len]), H0.out.len]
  have l2 : (Gf.mulAdd (Gf.mulAdd p q x) q y).length = n0 := by rw [Gf.mulAdd_length _ _ _ (by rw [l1, H1.out.len]), l1]
  have l3 : (Gf.mulAdd p q (x ^^^ y)).length = n0 := by rw [Gf.mulAdd_length _ _ _ (by rw [H0.out.len, H1.out.len]), H0.out.len]
  have b1 := Lib.hid (Gf.mulAdd_byt p q x HP.out hxx)
  have b2 := Lib.hid (Gf.mulAdd_byt (Gf.mulAdd p q x) q y b1.out hyy)
  have e2 := Lib.hid (Gf.mulAdd_twice p q x y hxx hyy (by rw [H0.out.len, H1.out.len]))
  have e3 := Lib.hid (Gf.dot_mulAdd p q r x HP.out HQ.out HR.out hxx (by rw [H0.out.len, H1.out.len]) (by rw [H1.out.len, H2.out.len]))
  have lx := Gf.xor_lt hxx hyy
  have ld : Gf.dot q r < 256 := Gf.dotTo_lt HQ.out _
  have ld2 : Gf.dot p r < 256 := Gf.dotTo_lt HP.out _
  have lm := Gf.mul_lt x (Gf.dot q r) hxx
  have E4 : (((Gf.dot (Gf.mulAdd p q x) r : Nat) : Int) == ((Gf.dot p r ^^^ Gf.mul x (Gf.dot q r) : Nat) : Int)) = true := by rw [e3.out]; simp
  go_enter Try.func10, Try.ntmps10
  go_wp2_with fail
  refine (awake_any _).mono ?_
  rintro e w1 ⟨rfl, hb1⟩
  have A0 := Lib.hid (H0.out.fw hb1); have A1 := Lib.hid (H1.out.fw hb1); have A2 := Lib.hid (H2.out.fw hb1)
  go_wp2_with fail
  refine (muladd_any _ _ _ _ _ p q _ _ A0.out A1.out HP.out HQ.out (by omega) (by omega) (by omega)).mono ?_
  rintro e w2 ⟨g, rfl, hg, hG, hb2⟩
  rw [Int.toNat_natCast] at hG ⊢
  have HG := Lib.hid (hG.rdn l1 (Nat.le_refl _) (by omega)); clear hG
  have B0 := Lib.hid (A0.out.fw hb2); have B1 := Lib.hid (A1.out.fw hb2); have B2 := Lib.hid (A2.out.fw hb2)
  go_wp2_with fail
  refine (muladd_any _ _ _ _ _ (Gf.mulAdd p q x) q _ _ HG.out B1.out b1.out HQ.out (by omega) (by omega) (by omega)).mono ?_
  rintro e w3 ⟨g2, rfl, hg2, hG2, hb3⟩
  rw [Int.toNat_natCast] at hG2 ⊢
  have HG2 := Lib.hid (hG2.rdn l2 (Nat.le_refl _) (by omega)); clear hG2
  have HG' := Lib.hid (HG.out.fw hb3)
  have C0 := Lib.hid (B0.out.fw hb3); have C1 := Lib.hid (B1.out.fw hb3); have C2 := Lib.hid (B2.out.fw hb3)
  go_wp2_with fail
  refine (add_any _ _ _ (by omega) (by omega) (by omega) (by omega)).mono ?_
  rintro e w' ⟨rfl, rfl⟩
  go_wp2_with fail
  refine (muladd_any _ _ _ _ _ p q _ _ C0.out C1.out HP.out HQ.out (by omega) (by omega) (by omega)).mono ?_
  rintro e w4 ⟨g3, rfl, hg3, hG3, hb4⟩
  simp only [Int.toNat_natCast] at hG3 ⊢
  have HG3 := Lib.hid (hG3.rdn l3 (Nat.le_refl _) (by omega)); clear hG3
  rw [← e2.out] at HG3
  have HG2' := Lib.hid (HG2.out.fw hb4)
  have HG'' := Lib.hid (HG'.out.fw hb4)
  have D0 := Lib.hid (C0.out.fw hb4); have D1 := Lib.hid (C1.out.fw hb4); have D2 := Lib.hid (C2.out.fw hb4)
  have s1 := run_string_rd (P := Try.prog) HG2'.out Try.underlying40 Try.underlying5 Try.underlying9
  have s2 := run_string_rd (P := Try.prog) HG3.out Try.underlying40 Try.underlying5 Try.underlying9
  go_wp2_with fail
  refine (dot_any _ _ _ _ _ (Gf.mulAdd p q x) r _ HG''.out D2.out b1.out HR.out).mono ?_
  rintro e w5 ⟨rfl, hb5⟩
  have E0 := Lib.hid (D0.out.fw hb5); have E1 := Lib.hid (D1.out.fw hb5); have E2 := Lib.hid (D2.out.fw hb5)
  clear s1 s2
  go_wp2_with fail
  refine (dot_any _ _ _ _ _ p r _ E0.out E2.out HP.out HR.out).mono ?_
  rintro e w6 ⟨rfl, hb6⟩
  have F1 := Lib.hid (E1.out.fw hb6); have F2 := Lib.hid (E2.out.fw hb6)
  go_wp2_with fail
  refine (dot_any _ _ _ _ _ q r _ F1.out F2.out HQ.out HR.out).mono ?_
  rintro e w7 ⟨rfl, hb7⟩
  go_wp2_with (first
    | (go_at_call 12; refine (mul_any _ _ _ (by omega) (by omega) (by omega) (by omega)).mono ?_; rintro e w' ⟨rfl, rfl⟩)
    | (go_at_call 13; refine (add_any _ _ _ (by omega) (by omega) (by omega) (by omega)).mono ?_; rintro e w' ⟨rfl, rfl⟩))
  go_ret
  exact ⟨rfl, by repeat (first | assumption | (apply bt'; assumption))⟩
end Go.Proofs.Ytgjfgmapdnohhaa
