/- shamir.validX, validXs, validLists, where they hold. -/
import Derived.Test.YtioiaiifkfopnaaEv
import Derived.Test.YtioiaiifkfopnaaMx
import Derived.Test.YtioiaiifkfopnaaSeen
namespace Go.Proofs.Ytioiaiifkfopnaa
open Go.RowKit Go.Kin
set_option maxRecDepth 100000
set_option maxHeartbeats 1000000
/-- A natural number as an int. -/
def vn (x : Nat) : Value := .int .i64 (x : Int)
theorem validX_any (x : Nat) (h1 : 1 ≤ x) (h2 : x ≤ 255) (w : World) : Calls Try.prog 63 #[.int .i64 (x : Int)] w fun e w' => e = .returned (.bool true) ∧ w' = w := by
  have i1 : (1 : Int) ≤ (x : Int) := by omega
  have i2 : (x : Int) ≤ 255 := by omega
  go_enter Try.func63, Try.ntmps63
  go_wp2
  go_ret
  exact ⟨rfl, rfl⟩
theorem validXs_any (a : Option Addr) (n c : Nat) (xs : List Nat) (w : World) (h1 : Rd vn w a n c xs) (hn : n ≤ 64) (hx : ∀ x ∈ xs, 1 ≤ x ∧ x ≤ 255) (hnd : xs.Nodup) :
    Calls Try.prog 45 #[.slice a n c] w fun e w' => e = .returned (.bool true) ∧ Below w.heap.size w w' := by
  have H1 := Lib.hid h1; clear h1
  have ND := Lib.hid hnd; clear hnd
  have z0 := seen_zero
  have hb1 : Below w.heap.size w (w.alloc (.cells (seenA []) 83 (0, 0))) := (Below.refl _ _).alloc (Nat.le_refl _) _
  have A1 := Lib.hid (H1.out.fw hb1)
  have S1 := Lib.hid (Seen.new w)
  go_enter Try.func45, Try.ntmps45
  go_wp2_with fail
  go_loopw [5, 11] (fun _ i wr => ∃ k : Nat, k ≤ n ∧ i = .int .i64 (k : Int) ∧ Hid (Seen wr w.heap.size (xs.take k)) ∧ Below w.heap.size w wr) (fun _ i _ => n - (intOf i).toNat)
  case atStart => exact ⟨0, by omega, rfl, S1.out, hb1⟩
  case round =>
    obtain ⟨k, hk, rfl, hS, hbe⟩ := hrel
    by_cases hlt : k < n
    · obtain ⟨x, hxx⟩ : ∃ x, xs[k]? = some x := ⟨_, List.getElem?_eq_getElem (by rw [H1.out.len]; omega)⟩
      obtain ⟨o1, o2, rfl, c1⟩ := (H1.out.fw hbe).cell k x hxx
      obtain ⟨bx1, bx2⟩ := hx x (List.mem_of_getElem? hxx)
      have c2 := hS.out.cell (y := x) (by omega)
      have f2 := hS.out.frozen x
      have HX := Lib.hid hxx; clear hxx
      unfold vn at c1
      have i1 : (k : Int) < (n : Int) := by omega
      have i2 : ((x : Nat) : Int) < 256 := by omega
      have hm : x ∉ xs.take k := fun hm => not_nodup_take HX.out hm ND.out
      rw [decide_eq_false hm] at c2
      clear hm
      go_wp2_with (go_at_call 63; refine (validX_any x bx1 bx2 _).mono ?_; rintro e w' ⟨rfl, rfl⟩)
      go_roundw
      case rel =>
        refine ⟨k + 1, by omega, by go_num, ?_, hbe.setCell (Nat.le_refl _) _⟩
        show Seen _ _ (xs.take (k + 1))
        rw [take_succ_get HX.out]
        exact hS.out.set x
      case measure => simp [intOf]; omega
    · have hkn : k = n := by omega
      subst hkn
      go_wp2
      go_ret
      exact ⟨rfl, hbe⟩
theorem validLists_any (a : Option Addr) (m c n : Nat) (M : List (List Nat)) (w : World) (h1 : RdM w a m c M) (hm : m < 16) (hn : n ≤ 1024) (hM : ∀ l ∈ M, l.length = n) :
    Calls Try.prog 44 #[.slice a m c, .int .i64 (n : Int)] w fun e w' => e = .returned (.bool true) ∧ w' = w := by
  have H1 := Lib.hid h1; clear h1
  go_enter Try.func44, Try.ntmps44
  go_wp2_with fail
  go_loopw [6, 9] (fun _ i wr => ∃ k : Nat, k ≤ m ∧ i = .int .i64 (k : Int) ∧ wr = w) (fun _ i _ => m - (intOf i).toNat)
  case atStart => exact ⟨0, by omega, rfl, rfl⟩
  case round =>
    obtain ⟨k, hk, rfl, rfl⟩ := hrel
    by_cases hlt : k < m
    · obtain ⟨r, ra, rn, rc, b, o, hr1, rfl, hr3, hr4⟩ := H1.out.row hlt
      obtain rfl : rn = n := by rw [← hr4.len]; exact hM r (List.mem_of_getElem? hr1)
      have i1 : (k : Int) < (m : Int) := by omega
      go_wp2
      go_roundw
      case rel => exact ⟨k + 1, by omega, by go_num, trivial⟩
      case measure => simp [intOf]; omega
    · have hkn : k = m := by omega
      subst hkn
      have i3 : (k : Int) < 16 := by omega
      go_wp2
      go_ret
      exact ⟨rfl, rfl⟩
end Go.Proofs.Ytioiaiifkfopnaa
