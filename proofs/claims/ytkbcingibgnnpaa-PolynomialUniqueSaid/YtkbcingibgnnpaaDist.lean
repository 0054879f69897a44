/- kinkeeplaw06.distinct. -/
import Derived.Test.YtkbcingibgnnpaaPolyT
namespace Go.Proofs.Ytkbcingibgnnpaa
open Go.RowKit Go.Kin
set_option maxRecDepth 100000

theorem ldistinct_any (a : Option Addr) (n c : Nat) (xs : List Nat) (w : World) (h1 : Rd vb w a n c xs) (hx : Gf.Byt xs) :
    Calls Try.prog 19 #[.slice a n c] w fun e w' => e = .returned (.bool (decide xs.Nodup)) ∧ Below w.heap.size w w' := by
  have hm : n ≤ 9223372036854775807 := by have := h1.cap; have := h1.max; unfold maxLen at *; omega
  have H1 := Lib.hid h1; clear h1
  have z0 := seen_zero
  have hb1 : Below w.heap.size w (w.alloc (.cells (seenA []) 50 (0, 0))) := (Below.refl _ _).alloc (Nat.le_refl _) _
  have S1 := Lib.hid (Seen.new w)
  go_enter Try.func19, Try.ntmps19
  go_wp2_with fail
  go_loopw [5, 8] (fun _ i wr => ∃ k : Nat, k ≤ n ∧ i = .int .i64 (k : Int) ∧ Hid ((xs.take k).Nodup) ∧ Hid (Seen wr w.heap.size (xs.take k)) ∧ Below w.heap.size w wr) (fun _ i _ => n - (intOf i).toNat)
  case atStart => exact ⟨0, by omega, rfl, List.nodup_nil, S1.out, hb1⟩
  case round =>
    obtain ⟨k, hk, rfl, hnd, hS, hbe⟩ := hrel
    by_cases hlt : k < n
    · obtain ⟨x, hxx⟩ : ∃ x, xs[k]? = some x := ⟨_, List.getElem?_eq_getElem (by rw [H1.out.len]; omega)⟩
      obtain ⟨o1, o2, rfl, c1⟩ := (H1.out.fw hbe).cell k x hxx
      have bx := hx.at hxx
      have c2 := hS.out.cell bx
      have f2 := hS.out.frozen x
      have HX := Lib.hid hxx; clear hxx
      unfold vb at c1
      have i1 : (k : Int) < (n : Int) := by omega
      have i2 : ((x : Nat) : Int) < 256 := by omega
      by_cases hm : x ∈ xs.take k
      · have hf : decide xs.Nodup = false := decide_eq_false (not_nodup_take HX.out hm)
        have HF := Lib.hid hf
        rw [decide_eq_true hm] at c2
        clear hm hf
        go_wp2
        go_ret
        exact ⟨ret_bool HF.out.symm, hbe⟩
      · have hM := Lib.hid hm
        rw [decide_eq_false hm] at c2
        clear hm
        go_wp2
        go_roundw
        case rel =>
          refine ⟨k + 1, by omega, by go_num, ?_, ?_, hbe.setCell (Nat.le_refl _) _⟩
          · show (xs.take (k + 1)).Nodup
            rw [take_succ_get HX.out]
            exact nodup_snoc hnd.out hM.out
          · show Seen _ _ (xs.take (k + 1))
            rw [take_succ_get HX.out]
            exact hS.out.set x
        case measure => simp [intOf]; omega
    · have hkn : k = n := by omega
      subst hkn
      have hnd2 := hnd.out
      rw [List.take_of_length_le (by rw [H1.out.len]; omega)] at hnd2
      have hf : decide xs.Nodup = true := decide_eq_true hnd2
      have HF := Lib.hid hf
      clear hnd2 hf hnd hS hlt
      go_wp2
      go_ret
      exact ⟨ret_bool HF.out.symm, hbe⟩
end Go.Proofs.Ytkbcingibgnnpaa
