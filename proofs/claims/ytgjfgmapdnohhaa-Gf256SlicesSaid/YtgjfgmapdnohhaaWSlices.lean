/- kinkeeplaw02.Gf256Slices returns true for every input. -/
import Derived.Test.YtgjfgmapdnohhaaRefB
namespace Gf
theorem mulAdd_zeros (q : List Nat) (x n : Nat) (h : q.length = n) : mulAdd (List.replicate n 0) q x = q.map (mul x) := by
  apply List.ext_getElem?
  intro j
  rw [List.getElem?_map]
  cases hx : q[j]? with
  | none =>
    have := List.getElem?_eq_none_iff.1 hx
    simp only [Option.map_none]
    rw [List.getElem?_eq_none_iff, mulAdd_length _ _ _ (by simp [h])]
    simp; omega
  | some z =>
    have hj := (List.getElem?_eq_some_iff.1 hx).1
    rw [mulAdd_get _ q x j 0 z (by rw [List.getElem?_replicate, if_pos (by omega)]) hx]
    simp
theorem byt_zeros (n : Nat) : Byt (List.replicate n 0) := by
  intro x hx
  rw [List.eq_of_mem_replicate hx]; omega
end Gf
namespace Go.Proofs.Ytgjfgmapdnohhaa
open Go.RowKit Go.Kin
set_option maxRecDepth 100000

set_option maxHeartbeats 1000000 in
theorem walk_Gf256Slices (a0 : Option Addr) (n0 c0 : Nat) (p : List Nat) (a1 : Option Addr) (n1 c1 : Nat) (q : List Nat) (x : Int) (w : World) (h0 : Rd vb w a0 n0 c0 p) (hp : Gf.Byt p) (h1 : Rd vb w a1 n1 c1 q) (hq : Gf.Byt q) (hx : 0 ≤ x ∧ x < 256) :
    Calls Try.prog 9 #[.slice a0 n0 c0, .slice a1 n1 c1, .int .u8 x] w fun e w' => e = .returned (.bool true) ∧ Below w.heap.size w w' := by
  obtain ⟨hx0, hx1⟩ := hx
  obtain ⟨y, rfl⟩ := Int.eq_ofNat_of_zero_le hx0
  have hy : y < 256 := by omega
  obtain ⟨i0, hi, hz0, hz1, hz2⟩ := info_parts info5
  have H0 := Lib.hid h0; have H1 := Lib.hid h1; clear h0 h1
  have HP := Lib.hid hp; have HQ := Lib.hid hq; clear hp hq
  by_cases d0 : 200 < n0
  · go_enter Try.func9, Try.ntmps9
    go_wp2_with (go_at_call 11; refine (awake_any _).mono ?_; rintro e w1 ⟨rfl, hb1⟩)
    go_ret
    exact ⟨rfl, by assumption⟩
  by_cases d1 : 200 < n1
  · go_enter Try.func9, Try.ntmps9
    go_wp2_with (go_at_call 11; refine (awake_any _).mono ?_; rintro e w1 ⟨rfl, hb1⟩)
    go_ret
    exact ⟨rfl, by assumption⟩
  have t0 : decide ((200 : Int) < (n0 : Int)) = false := by simp; omega
  have t1 : decide ((200 : Int) < (n1 : Int)) = false := by simp; omega
  have bs := Lib.hid (Gf.scale_byt p y hy)
  have bz := Lib.hid (Gf.byt_zeros n0)
  have bm := Lib.hid (Gf.mulAdd_byt (List.replicate n0 0) p y bz.out hy)
  have bm2 := Lib.hid (Gf.mulAdd_byt p q y HP.out hy)
  have HEQ := Lib.hid (Gf.mulAdd_zeros p y n0 H0.out.len).symm
  have HLS : Hid (p.length ≤ 9223372036854775807) := by show _ ≤ _; rw [H0.out.len]; omega
  have tok : True := trivial
  by_cases hn : n0 = n1
  · subst hn
    have HLM : Hid ((Gf.mulAdd p q y).length ≤ 9223372036854775807) := by show _ ≤ _; rw [Gf.mulAdd_length _ _ _ (by rw [H0.out.len, H1.out.len]), H0.out.len]; omega
    have e0 : (((n0 : Nat) : Int) != ((n0 : Nat) : Int)) = false := by simp
    go_enter Try.func9, Try.ntmps9
    go_wp2_with (first
      | (go_at_call 11; refine (awake_any _).mono ?_; rintro e w1 ⟨rfl, hb1⟩; have A1 := Lib.hid (H0.out.fw hb1); have B1 := Lib.hid (H1.out.fw hb1))
      | (go_at_call 27; refine (muladd_any _ _ _ _ _ p q _ _ A1.out B1.out HP.out HQ.out (by omega) (by omega) (by omega)).mono ?_; rintro e w2 ⟨g, rfl, hg, hG, hb2⟩; have A2 := Lib.hid (A1.out.fw hb2); have B2 := Lib.hid (B1.out.fw hb2); have HG := Lib.hid hG; clear hG)
      | (go_at_call 28; refine (dot_any _ _ _ _ _ p q _ A2.out B2.out HP.out HQ.out).mono ?_; rintro e w3 ⟨rfl, hb3⟩; have A3 := Lib.hid (A2.out.fw hb3); have B3 := Lib.hid (B2.out.fw hb3); have HG3 := Lib.hid (HG.out.fw hb3))
      | (at_make; refine wpList_make_blk rfl (.tmp 36) (.tmp 36) 40 rfl vb 0 5 i0 Try.underlying40 hi hz0 hz1 rfl _ _ _ _ n0 rfl rfl rfl rfl (by rw [hz2]; omega) (by omega) ?_; intro w4 hk4 hb4 hs4; have HK4 := Lib.hid hk4; have A4 := Lib.hid (A3.out.fw hb4); have B4 := Lib.hid (B3.out.fw hb4); have HG4 := Lib.hid (HG3.out.fw hb4); clear hk4 hs4)
      | (go_at_call 30; refine (scale_any _ _ _ p _ _ A4.out HP.out (by omega) (by omega) (by omega)).mono ?_; rintro e w5 ⟨s, rfl, hs, hS, hb5⟩; have A5 := Lib.hid (A4.out.fw hb5); have B5 := Lib.hid (B4.out.fw hb5); have HG5 := Lib.hid (HG4.out.fw hb5); have HK5 := Lib.hid ((HK4.out.fw hb5).rdn List.length_replicate (Nat.le_refl _) (by omega)); have HS := Lib.hid hS; clear hS)
      | (have _t := tok; go_at_call 31; refine (rmuladd_any _ _ _ _ _ _ p _ _ HK5.out A5.out bz.out HP.out (by omega) (by omega) (by omega)).mono ?_; rintro e w6 ⟨ra, rc, rfl, hR, hb6⟩; have A6 := Lib.hid (A5.out.fw hb6); have B6 := Lib.hid (B5.out.fw hb6); have HG6 := Lib.hid (HG5.out.fw hb6); have HS6 := Lib.hid ((HS.out.fw hb6).rdn (n := p.length) (by simp) (Nat.le_refl _) HLS.out); have HR := Lib.hid hR.rd; clear hR tok))
    refine (rsame_eq _ _ _ _ _ _ _ _ _ HS6.out HR.out bs.out bm.out HEQ.out).mono ?_
    rintro e w' ⟨rfl, rfl⟩
    have HG6' := Lib.hid (HG6.out.rdn (n := (Gf.mulAdd p q y).length) rfl (Nat.le_refl _) HLM.out)
    go_wp2_with fail
    refine (rmuladd_any _ _ _ _ _ p q _ _ A6.out B6.out HP.out HQ.out (by omega) (by omega) (by omega)).mono ?_
    rintro e w7 ⟨ra2, rc2, rfl, hR2, hb7⟩
    have A7 := Lib.hid (A6.out.fw hb7); have B7 := Lib.hid (B6.out.fw hb7); have HG7 := Lib.hid (HG6'.out.fw hb7); have HR2 := Lib.hid hR2.rd
    clear hR2
    go_wp2_with fail
    refine (rsame_eq _ _ _ _ _ _ _ _ _ HG7.out HR2.out bm2.out bm2.out rfl).mono ?_
    rintro e w' ⟨rfl, rfl⟩
    go_wp2_with fail
    refine (rdot_any _ _ _ _ _ p q _ A7.out B7.out HP.out HQ.out).mono ?_
    rintro e w8 ⟨rfl, hb8⟩
    go_wp2_with fail
    go_ret
    exact ⟨rfl, by repeat (first | assumption | (apply bt'; assumption))⟩
  · have e0 : (((n0 : Nat) : Int) != ((n1 : Nat) : Int)) = true := by simp; omega
    go_enter Try.func9, Try.ntmps9
    go_wp2_with (first
      | (go_at_call 11; refine (awake_any _).mono ?_; rintro e w1 ⟨rfl, hb1⟩; have A1 := Lib.hid (H0.out.fw hb1))
      | (go_at_call 27; refine (muladd_ne _ _ _ _ _ _ _ _ hn).mono ?_; rintro e w' ⟨rfl, rfl⟩)
      | (go_at_call 28; refine (dot_ne _ _ _ _ _ _ _ hn).mono ?_; rintro e w' ⟨rfl, rfl⟩)
      | (at_make; refine wpList_make_blk rfl (.tmp 36) (.tmp 36) 40 rfl vb 0 5 i0 Try.underlying40 hi hz0 hz1 rfl _ _ _ _ n0 rfl rfl rfl rfl (by rw [hz2]; omega) (by omega) ?_; intro w4 hk4 hb4 hs4; have HK4 := Lib.hid hk4; have A4 := Lib.hid (A1.out.fw hb4); clear hk4 hs4)
      | (go_at_call 30; refine (scale_any _ _ _ p _ _ A4.out HP.out (by omega) (by omega) (by omega)).mono ?_; rintro e w5 ⟨s, rfl, hs, hS, hb5⟩; have A5 := Lib.hid (A4.out.fw hb5); have HK5 := Lib.hid ((HK4.out.fw hb5).rdn List.length_replicate (Nat.le_refl _) (by omega)); have HS := Lib.hid hS; clear hS)
      | (have _t := tok; go_at_call 31; refine (rmuladd_any _ _ _ _ _ _ p _ _ HK5.out A5.out bz.out HP.out (by omega) (by omega) (by omega)).mono ?_; rintro e w6 ⟨ra, rc, rfl, hR, hb6⟩; have HS6 := Lib.hid ((HS.out.fw hb6).rdn (n := p.length) (by simp) (Nat.le_refl _) HLS.out); have HR := Lib.hid hR.rd; clear hR tok))
    refine (rsame_eq _ _ _ _ _ _ _ _ _ HS6.out HR.out bs.out bm.out HEQ.out).mono ?_
    rintro e w' ⟨rfl, rfl⟩
    go_wp2_with fail
    go_ret
    exact ⟨rfl, by repeat (first | assumption | (apply bt'; assumption))⟩
end Go.Proofs.Ytgjfgmapdnohhaa
