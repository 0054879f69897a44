/- quota: counts, Valid, fitting. -/
import Derived.Test.YtpecepfnmkpmmaaQa
namespace Go.Proofs.Ytpecepfnmkpmmaa
open Go.RowKit Go.Kin Quo
set_option maxRecDepth 100000
set_option linter.unusedVariables false

theorem Cnt.snoc {l : List Int} {j : Nat} {x : Int} (h : Cnt (l.take j)) (hx : l[j]? = some x) (h0 : 0 ≤ x) (h1 : x ≤ maxC) : Cnt (l.take (j + 1)) := by
  rw [List.take_add_one, hx]
  intro y hy
  rcases List.mem_append.1 hy with hy | hy
  · exact h y hy
  · have : y = x := by simpa using hy
    subst this; exact ⟨h0, h1⟩

theorem counts_any (a : Option Addr) (n c : Nat) (l : List Int) (w : World) (h : Rd vi w a n c l) :
    Calls Try.prog 37 #[.slice a n c] w fun e w' => e = .returned (.bool (decide (Cnt l))) ∧ w = w' := by
  have hlim : n ≤ 9223372036854775807 := by have := h.cap; have := h.max; unfold maxLen at *; omega
  have H := Lib.hid h
  have hlen := Lib.hid h.len
  clear h
  go_enter Try.func37, Try.ntmps37
  go_wp2
  go_loopw [7] (fun i wr => ∃ j : Nat, j ≤ n ∧ i = .int .i64 (j : Int) ∧ Hid (Cnt (l.take j)) ∧ wr = w) (fun i _ => n - (intOf i).toNat)
  case atStart => exact ⟨0, by omega, rfl, fun x hx => by simp at hx, rfl⟩
  case round =>
    obtain ⟨j, hj, rfl, hv, rfl⟩ := hrel
    by_cases hlt : j < n
    · have i2 : (j : Int) < (n : Int) := by omega
      obtain ⟨x, hx⟩ : ∃ x, l[j]? = some x := ⟨_, List.getElem?_eq_getElem (by rw [hlen.out]; exact hlt)⟩
      obtain ⟨b1, o1, rfl, c1⟩ := H.out.cell j x hx
      change wr.cell? _ = some (.int .i64 x) at c1
      have HX := Lib.hid hx
      clear hx
      by_cases h0 : x < 0
      · go_wp2_with fail
        go_ret
        refine ⟨ret_bool (Eq.symm (decide_eq_false fun hc => ?_)), rfl⟩
        have := (hc x (List.mem_of_getElem? HX.out)).1
        omega
      · by_cases h1 : 1099511627776 < x
        · go_wp2_with fail
          go_ret
          refine ⟨ret_bool (Eq.symm (decide_eq_false fun hc => ?_)), rfl⟩
          have := (hc x (List.mem_of_getElem? HX.out)).2
          unfold maxC at this
          omega
        · have hv2 : Hid (Cnt (l.take (j + 1))) := Cnt.snoc hv.out HX.out (by omega) (by unfold maxC; omega)
          go_wp2_with fail
          go_roundw
          case rel => exact ⟨j + 1, by omega, by go_num, hv2, by trivial⟩
          case measure => simp [intOf]; omega
    · have hjn : j = n := by omega
      subst hjn
      have hg : Hid (Cnt l) := by have := hv.out; rwa [List.take_of_length_le (by rw [hlen.out]; exact Nat.le_refl _)] at this
      go_wp2_with fail
      go_ret
      exact ⟨ret_bool (Eq.symm (decide_eq_true hg.out)), rfl⟩

theorem valid_any (a : Option Addr) (n c : Nat) (T : Tab) (w : World) (h : RdT w a n c T) :
    Calls Try.prog 15 #[.slice a n c] w fun e w' => e = .returned (.bool (decide (VT T))) ∧ w = w' := by
  have hlim := h.lim
  have H := Lib.hid h
  have hlen := Lib.hid h.len
  clear h
  by_cases h12 : (12 : Int) < (n : Int)
  · go_enter Try.func15, Try.ntmps15
    go_wp2_with fail
    go_ret
    refine ⟨ret_bool (Eq.symm (decide_eq_false fun hc => ?_)), rfl⟩
    have := hc.1
    rw [hlen.out] at this
    omega
  · go_enter Try.func15, Try.ntmps15
    go_wp2_with fail
    go_loopw [12] (fun i wr => ∃ j : Nat, j ≤ n ∧ i = .int .i64 (j : Int) ∧ Hid (∀ i, i < j → rowOk T.length i (T.getD i [])) ∧ wr = w) (fun i _ => n - (intOf i).toNat)
    case atStart => exact ⟨0, by omega, rfl, fun i hi => by omega, rfl⟩
    case round =>
      obtain ⟨j, hj, rfl, hv, rfl⟩ := hrel
      by_cases hlt : j < n
      · have i2 : (j : Int) < (n : Int) := by omega
        obtain ⟨m, ra, rn, rc, b1, o1, hm, rfl, c1, hr⟩ := H.out.row hlt
        have HR := Lib.hid hr
        have HM := Lib.hid hm
        have hrlim : rn ≤ 9223372036854775807 := by have := hr.cap; have := hr.max; unfold maxLen at *; omega
        have bad : ¬ rowOk n j m → Hid (decide (VT T) = false) := by
          intro hb
          refine decide_eq_false fun hc => hb ?_
          have := hc.2 j (by rw [hlen.out]; exact hlt)
          rw [getD_of hm, hlen.out] at this
          exact this
        by_cases hl : rn = n
        · subst hl
          obtain ⟨x, hx⟩ : ∃ x, m[j]? = some x := ⟨_, List.getElem?_eq_getElem (by rw [hr.len]; exact hlt)⟩
          obtain ⟨b2, o2, rfl, c2⟩ := hr.cell j x hx
          change wr.cell? _ = some (.int .i64 x) at c2
          have HX := Lib.hid hx
          have hml := Lib.hid hr.len
          clear hx hm hr
          by_cases hx0 : x = 0
          · subst hx0
            by_cases hc : Cnt m
            · have hd := decide_eq_true hc
              have hv2 : Hid (∀ i, i < j + 1 → rowOk T.length i (T.getD i [])) := by
                intro i hi
                by_cases e : i = j
                · subst e
                  rw [getD_of HM.out, hlen.out]
                  exact ⟨hml.out, HX.out, hc⟩
                · exact hv.out i (by omega)
              clear bad hc
              go_wp2_with (go_at_call 37; refine (counts_any _ _ _ m _ HR.out).mono ?_; rw [hd]; rintro e w' ⟨rfl, rfl⟩)
              go_roundw
              case rel => exact ⟨j + 1, by omega, by go_num, hv2, by trivial⟩
              case measure => simp [intOf]; omega
            · have hd := decide_eq_false hc
              have hb := bad fun h => hc h.2.2
              clear bad hc
              go_wp2_with (go_at_call 37; refine (counts_any _ _ _ m _ HR.out).mono ?_; rw [hd]; rintro e w' ⟨rfl, rfl⟩)
              go_ret
              exact ⟨ret_bool hb.out.symm, rfl⟩
          · have hb := bad fun h => by
              have := h.2.1
              rw [HX.out] at this
              exact hx0 (by simpa using this)
            have hx1 : (x != 0) = true := by simpa using hx0
            clear bad
            go_wp2_with fail
            go_ret
            exact ⟨ret_bool hb.out.symm, rfl⟩
        · have hb := bad fun h => hl (hr.len ▸ h.1)
          have hx1 : ((rn : Int) != (n : Int)) = true := by simp; omega
          clear bad hr hm
          go_wp2_with fail
          go_ret
          exact ⟨ret_bool hb.out.symm, rfl⟩
      · have hjn : j = n := by omega
        subst hjn
        have hg : Hid (VT T) := ⟨by rw [hlen.out]; omega, fun i hi => hv.out i (by rw [hlen.out] at hi; exact hi)⟩
        go_wp2_with fail
        go_ret
        exact ⟨ret_bool (Eq.symm (decide_eq_true hg.out)), rfl⟩
end Go.Proofs.Ytpecepfnmkpmmaa
