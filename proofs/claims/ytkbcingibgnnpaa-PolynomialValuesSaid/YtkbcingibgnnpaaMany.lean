/- kinkeeplaw06.many and mul. -/
import Derived.Test.YtkbcingibgnnpaaAwakeP
namespace Go.Proofs.Ytkbcingibgnnpaa
open Go.RowKit Go.Kin
set_option maxRecDepth 100000

/-- A slice's header as a value. -/
def vs (t : Option Addr × Nat × Nat) : Value := .slice t.1 t.2.1 t.2.2

theorem many_any (a : Option Addr) (n c : Nat) (L : List (Option Addr × Nat × Nat)) (w : World) (h : Rd vs w a n c L) :
    Calls Try.prog 18 #[.slice a n c] w fun e w' => e = .returned (.bool (L.any fun t => decide (30 < t.2.1))) ∧ w = w' := by
  have hm : n ≤ 9223372036854775807 := by have := h.cap; have := h.max; unfold maxLen at *; omega
  have H := Lib.hid h; clear h
  go_enter Try.func18, Try.ntmps18
  go_wp2
  go_loop [4, 7] (fun _ i => ∃ k : Nat, k ≤ n ∧ i = .int .i64 (k : Int) ∧ Hid (L.any (fun t => decide (30 < t.2.1)) = (L.drop k).any fun t => decide (30 < t.2.1))) (fun _ i => n - (intOf i).toNat)
  case atStart => exact ⟨0, by omega, rfl, by show _ = _; rw [List.drop_zero]⟩
  case round =>
    obtain ⟨k, hk, rfl, hv⟩ := hrel
    by_cases hlt : k < n
    · obtain ⟨⟨x, xn, xc⟩, hx⟩ : ∃ x, L[k]? = some x := ⟨_, List.getElem?_eq_getElem (by rw [H.out.len]; omega)⟩
      obtain ⟨o1, o2, rfl, c1⟩ := H.out.cell k _ hx
      have hd : (L.drop k).any (fun t => decide (30 < t.2.1)) = (decide (30 < xn) || (L.drop (k + 1)).any fun t => decide (30 < t.2.1)) := by
        rw [List.drop_eq_getElem?_toList_append, hx]; rfl
      have HD := Lib.hid hd; clear hd hx
      unfold vs at c1
      simp only at c1
      have i1 : (k : Int) < (n : Int) := by omega
      by_cases hx0 : 30 < xn
      · have t1 : decide ((30 : Int) < (xn : Int)) = true := by simp; omega
        have hr : L.any (fun t => decide (30 < t.2.1)) = true := by rw [hv.out, HD.out, decide_eq_true hx0]; rfl
        have HR := Lib.hid hr; clear hr
        go_wp2
        go_ret
        exact ⟨ret_bool HR.out.symm, rfl⟩
      · have t1 : decide ((30 : Int) < (xn : Int)) = false := by simp; omega
        have hr : Hid (L.any (fun t => decide (30 < t.2.1)) = (L.drop (k + 1)).any fun t => decide (30 < t.2.1)) := by
          show _ = _
          rw [hv.out, HD.out, decide_eq_false hx0]; rfl
        clear hx0
        go_wp2
        go_round
        case rel => exact ⟨k + 1, by omega, by go_num, hr⟩
        case measure => simp [intOf]; omega
    · have hr : L.any (fun t => decide (30 < t.2.1)) = false := by
        rw [hv.out, List.drop_of_length_le (by rw [H.out.len]; omega)]; rfl
      have HR := Lib.hid hr; clear hr
      go_wp2
      go_ret
      exact ⟨ret_bool HR.out.symm, rfl⟩

theorem lmul_any (a b : Option Addr) (n m c d : Nat) (p q : List Nat) (w : World) (h1 : Rd vb w a n c p) (h2 : Rd vb w b m d q) (hp : Gf.Byt p) (hq : Gf.Byt q) (hn : n + m ≤ 1025) :
    Calls Try.prog 31 #[.slice a n c, .slice b m d] w (Gives vb w (Poly.out (Poly.of p * Poly.of q))) := by
  have H1 := Lib.hid h1; have H2 := Lib.hid h2; clear h1 h2
  go_enter Try.func31, Try.ntmps31
  go_wp2_with (go_at_call 27; refine (pmul_g _ _ _ _ _ _ p q _ H1.out H2.out hp hq hn).mono ?_; rintro e w1 ⟨a1, n1, c1, rfl, r1, b1⟩)
  go_ret
  exact ⟨_, _, _, rfl, r1, b1⟩
end Go.Proofs.Ytkbcingibgnnpaa
