/- quota: total, held, balance. -/
import Derived.Test.YtpecepfnmkpmmaaQb
namespace Go.Proofs.Ytpecepfnmkpmmaa
open Go.RowKit Go.Kin Quo
set_option maxRecDepth 100000
set_option linter.unusedVariables false

theorem itself_any (x : Int) (w : World) : Calls Try.prog 55 #[.int .i64 x] w fun e w' => e = .returned (.int .i64 x) ∧ w = w' := by
  go_enter Try.func55, Try.ntmps55
  go_wp2
  go_ret
  exact ⟨rfl, rfl⟩

theorem total_any (a : Option Addr) (n c : Nat) (l : List Int) (w : World) (h : Rd vi w a n c l) (hc : Cnt l) (hn : n ≤ 12) :
    Calls Try.prog 54 #[.slice a n c, .func (.func 55) #[] #[]] w fun e w' => e = .returned (.int .i64 l.sum) ∧ w = w' := by
  have H := Lib.hid h
  have hlen := Lib.hid h.len
  have HC := Lib.hid hc
  clear h hc
  go_enter Try.func54, Try.ntmps54
  go_wp2_with fail
  go_loopw [5, 10] (fun s i wr => ∃ j : Nat, j ≤ n ∧ i = .int .i64 (j : Int) ∧ s = .int .i64 (l.take j).sum ∧ wr = w) (fun _ i _ => n - (intOf i).toNat)
  case atStart => exact ⟨0, by omega, rfl, rfl, by trivial⟩
  case round =>
    obtain ⟨j, hj, rfl, rfl, rfl⟩ := hrel
    by_cases hlt : j < n
    · have i2 : (j : Int) < (n : Int) := by omega
      obtain ⟨x, hx⟩ : ∃ x, l[j]? = some x := ⟨_, List.getElem?_eq_getElem (by rw [hlen.out]; exact hlt)⟩
      obtain ⟨b1, o1, rfl, c1⟩ := H.out.cell j x hx
      change wr.cell? _ = some (.int .i64 x) at c1
      have b0 := cnt_sum (cnt_take HC.out (j + 1))
      have b2 := cnt_sum (cnt_take HC.out j)
      have bx := HC.out x (List.mem_of_getElem? hx)
      have bl : (l.take (j + 1)).length ≤ 12 := by rw [List.length_take]; omega
      have e1 := sum_snoc hx
      have hw : wrap64 ((l.take j).sum + x) = (l.take (j + 1)).sum := by
        rw [← e1]; unfold wrap64; unfold maxC at b0
        have : ((l.take (j + 1)).length : Int) * 1099511627776 ≤ 12 * 1099511627776 := by omega
        omega
      clear hx e1 b0 b2 bx bl
      go_wp2_with (go_at_call 55; refine (itself_any x _).mono ?_; rintro e w' ⟨rfl, rfl⟩)
      go_roundw
      case rel => exact ⟨j + 1, by omega, by go_num, by rw [hw], by trivial⟩
      case measure => simp [intOf]; omega
    · have hjn : j = n := by omega
      subst hjn
      have e1 : l.take j = l := List.take_of_length_le (by rw [hlen.out]; exact Nat.le_refl _)
      rw [e1]
      go_wp2_with fail
      go_ret
      exact ⟨rfl, rfl⟩

/-- The closure of 'balance'. -/
theorem colc_any (ra : Option Addr) (rn rc : Nat) (l : List Int) (g i : Nat) (w : World) (h : Rd vi w ra rn rc l) (hi : i < rn) (hg : w.cell? ⟨g, 0, none⟩ = some (.int .i64 (i : Int))) :
    Calls Try.prog 53 #[.slice ra rn rc, .pointer (some ⟨g, 0, none⟩)] w fun e w' => e = .returned (.int .i64 (l.getD i 0)) ∧ w = w' := by
  have hlim : rn ≤ 9223372036854775807 := by have := h.cap; have := h.max; unfold maxLen at *; omega
  obtain ⟨x, hx⟩ : ∃ x, l[i]? = some x := ⟨_, List.getElem?_eq_getElem (by rw [h.len]; exact hi)⟩
  obtain ⟨b1, o1, rfl, c1⟩ := h.cell i x hx
  change w.cell? _ = some (.int .i64 x) at c1
  rw [getD_of hx]
  have i2 : (i : Int) < (rn : Int) := by omega
  clear h hx
  go_enter Try.func53, Try.ntmps53
  go_wp2
  go_ret
  exact ⟨rfl, rfl⟩

theorem totalc_any (a : Option Addr) (n c : Nat) (T : Tab) (g i : Nat) (w : World) (h : RdT w a n c T) (hT : VT T) (hi : i < n) (hg : w.cell? ⟨g, 0, none⟩ = some (.int .i64 (i : Int))) :
    Calls Try.prog 52 #[.slice a n c, .func (.func 53) #[] #[.pointer (some ⟨g, 0, none⟩)]] w fun e w' => e = .returned (.int .i64 (col T i).sum) ∧ w = w' := by
  have H := Lib.hid h
  have hlen := Lib.hid h.len
  have HV := Lib.hid hT
  have hn : n ≤ 12 := by have := hT.1; rw [h.len] at this; exact this
  have HC := Lib.hid (hT.col (i := i) (by rw [h.len]; exact hi))
  have HG := Lib.hid hg
  clear h hT hg
  go_enter Try.func52, Try.ntmps52
  go_wp2_with fail
  go_loopw [5, 10] (fun s z wr => ∃ j : Nat, j ≤ n ∧ z = .int .i64 (j : Int) ∧ s = .int .i64 ((col T i).take j).sum ∧ wr = w) (fun _ z _ => n - (intOf z).toNat)
  case atStart => exact ⟨0, by omega, rfl, rfl, by trivial⟩
  case round =>
    obtain ⟨j, hj, rfl, rfl, rfl⟩ := hrel
    by_cases hlt : j < n
    · have i2 : (j : Int) < (n : Int) := by omega
      obtain ⟨m, ra, rn, rc, b1, o1, hm, rfl, c1, hr⟩ := H.out.row hlt
      have hml := (HV.out.row hm).1
      rw [hr.len, hlen.out] at hml
      obtain rfl := hml
      have hx : (col T i)[j]? = some (m.getD i 0) := by unfold col; rw [List.getElem?_map, hm]; rfl
      have HR := Lib.hid hr
      have b0 := cnt_sum (cnt_take HC.out (j + 1))
      have bl : ((col T i).take (j + 1)).length ≤ 12 := by rw [List.length_take]; omega
      have e1 := sum_snoc hx
      have hw : wrap64 (((col T i).take j).sum + m.getD i 0) = ((col T i).take (j + 1)).sum := by
        rw [← e1]; unfold wrap64; unfold maxC at b0
        have : (((col T i).take (j + 1)).length : Int) * 1099511627776 ≤ 12 * 1099511627776 := by omega
        omega
      rw [List.getD_eq_getElem?_getD] at hw
      clear hx e1 b0 bl hr hm
      go_wp2_with (go_at_call 53; refine (colc_any _ _ _ m g i _ HR.out hi HG.out).mono ?_; rintro e w' ⟨rfl, rfl⟩)
      go_roundw
      case rel => exact ⟨j + 1, by omega, by go_num, by rw [hw], by trivial⟩
      case measure => simp [intOf]; omega
    · have hjn : j = n := by omega
      subst hjn
      have e1 : (col T i).take j = col T i := List.take_of_length_le (by unfold col; rw [List.length_map, hlen.out]; exact Nat.le_refl _)
      rw [e1]
      go_wp2_with fail
      go_ret
      exact ⟨rfl, rfl⟩
end Go.Proofs.Ytpecepfnmkpmmaa
