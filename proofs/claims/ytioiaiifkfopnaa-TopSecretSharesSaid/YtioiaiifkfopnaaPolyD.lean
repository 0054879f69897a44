/- polynomial.Eval and DivMod. -/
import Derived.Test.YtioiaiifkfopnaaPolyM
namespace Poly
theorem of_drop {l : List Nat} {k x : Nat} (hx : l[k]? = some x) : of (l.drop k) = C (Fq.of x) + mon 1 1 * of (l.drop (k + 1)) := ext fun i => by
  rw [cf_add, cf_C, cf_of, List.getD_eq_getElem?_getD, List.getElem?_drop]
  cases i with
  | zero => rw [if_pos rfl, cf_x_mul_zero, Fq.add_zero, Nat.add_zero, hx]; rfl
  | succ i =>
    rw [if_neg (by omega), cf_x_mul, cf_of, List.getD_eq_getElem?_getD, List.getElem?_drop, Fq.zero_add, show k + (i + 1) = k + 1 + i from by omega]
theorem eval_drop {l : List Nat} {k x : Nat} (hx : l[k]? = some x) (y : Fq) : eval (of (l.drop k)) y = Fq.of x + y * eval (of (l.drop (k + 1))) y := by
  rw [of_drop hx, eval_add, eval_C, eval_x_mul]
end Poly
namespace Go.Proofs.Ytioiaiifkfopnaa
open Go.RowKit Go.Kin
set_option maxRecDepth 100000

theorem eval_any (a : Option Addr) (n c : Nat) (l : List Nat) (x : Int) (w : World) (h : Rd vb w a n c l) (hl : Gf.Byt l) (hx0 : 0 ≤ x) (hx1 : x < 256) :
    Calls Try.prog 49 #[.slice a n c, .int .u8 x] w fun e w' => e = .returned (.int .u8 ((Poly.eval (Poly.of l) (Fq.of x.toNat)).n : Nat)) ∧ Drw w w' := by
  obtain ⟨y, rfl⟩ := Int.eq_ofNat_of_zero_le hx0
  have hy : y < 256 := by omega
  have hm : n ≤ 9223372036854775807 := by have := h.cap; have := h.max; unfold maxLen at *; omega
  have H := Lib.hid h; clear h
  go_enter Try.func49, Try.ntmps49
  go_wp2
  go_loopw [5, 6] (fun s i wr => ∃ (k v : Nat), k ≤ n ∧ v < 256 ∧ i = .int .i64 ((k : Int) - 1) ∧ s = .int .u8 (v : Int) ∧ Hid (Fq.of v = Poly.eval (Poly.of (l.drop k)) (Fq.of y)) ∧ Hid (Drw w wr)) (fun _ i _ => (intOf i + 1).toNat)
  case atStart =>
    refine ⟨n, 0, Nat.le_refl _, by omega, rfl, rfl, ?_, Drw.refl w⟩
    show _ = _
    rw [List.drop_of_length_le (by rw [H.out.len]; omega)]; rfl
  case round =>
    obtain ⟨k, v, hk, hv, rfl, rfl, hval, hd⟩ := hrel
    by_cases hk0 : k = 0
    · subst hk0
      have hr : (v : Int) = (((Poly.eval (Poly.of l) (Fq.of y)).n : Nat) : Int) := by
        have := hval.out
        rw [List.drop_zero] at this
        rw [← this, Fq.of_n hv]
      have HR := Lib.hid hr; clear hr
      go_wp2
      go_ret
      exact ⟨ret_int (by rw [HR.out, Int.toNat_natCast]), hd.out⟩
    · have hkp : 0 < k := by omega
      obtain ⟨z, hz⟩ : ∃ z, l[k - 1]? = some z := ⟨_, List.getElem?_eq_getElem (by rw [H.out.len]; omega)⟩
      obtain ⟨b, o, rfl, c1⟩ := (H.out.drw hd.out).cell (k - 1) z hz
      have bz := hl.at hz
      have lm := Gf.mul_lt v y hv
      unfold vb at c1
      have i1 : ((k : Int) - 1) < (n : Int) := by omega
      have i0 : 0 ≤ ((k : Int) - 1) := by omega
      have ex : bits .xor .u8 ((Gf.mul v y : Nat) : Int) ((z : Nat) : Int) = ((Gf.mul v y ^^^ z : Nat) : Int) := by rw [xor8 _ _ (by omega) (by omega) (by omega) (by omega)]; rfl
      have hnew : Hid (Fq.of (Gf.mul v y ^^^ z) = Poly.eval (Poly.of (l.drop (k - 1))) (Fq.of y)) := by
        show _ = _
        rw [Fq.of_add lm bz, Fq.of_mul hv hy, Poly.eval_drop hz, show k - 1 + 1 = k from by omega, ← hval.out, Fq.add_comm, Fq.mul_comm]
      have EX := Lib.hid ex; clear ex hz hk0
      go_wp2_with fail
      go_quiet ((go_at_call 29; exact qsame (mul_any _ _ _ (by omega) (by omega) (by omega) (by omega))))
      go_wp2
      go_roundw
      case rel => exact ⟨k - 1, _, by omega, Gf.xor_lt lm bz, by rw [show ((k - 1 : Nat) : Int) = (k : Int) - 1 from by omega], by rw [EX.out], hnew, hd.out.step nq⟩
      case measure => simp [intOf]; omega
end Go.Proofs.Ytioiaiifkfopnaa
