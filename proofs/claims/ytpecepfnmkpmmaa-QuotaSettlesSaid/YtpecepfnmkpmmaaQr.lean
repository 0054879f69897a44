/- The reference's Valid, Quotas, Held, Balance. -/
import Derived.Test.YtpecepfnmkpmmaaQm
namespace Go.Proofs.Ytpecepfnmkpmmaa
open Go.RowKit Go.Kin Quo
set_option maxRecDepth 100000
set_option linter.unusedVariables false
theorem within_any (x : Int) (w : World) : Calls Try.prog 41 #[.int .i64 x] w fun e w' => e = .returned (.bool (decide (0 ≤ x ∧ x ≤ maxC))) ∧ w = w' := by
  unfold maxC
  by_cases h0 : x < 0
  · have hf : Hid (decide (0 ≤ x ∧ x ≤ 1099511627776) = false) := decide_eq_false fun h => by omega
    go_enter Try.func41, Try.ntmps41
    go_wp2_with fail
    go_ret
    exact ⟨ret_bool (by first | rfl | (simp <;> omega)), rfl⟩
  · by_cases h1 : 1099511627776 < x
    · have hf : Hid (decide (0 ≤ x ∧ x ≤ 1099511627776) = false) := decide_eq_false fun h => by omega
      go_enter Try.func41, Try.ntmps41
      go_wp2_with fail
      go_ret
      exact ⟨ret_bool (by first | rfl | (simp <;> omega)), rfl⟩
    · have hf : Hid (decide (0 ≤ x ∧ x ≤ 1099511627776) = true) := decide_eq_true ⟨by omega, by omega⟩
      go_enter Try.func41, Try.ntmps41
      go_wp2_with fail
      go_ret
      exact ⟨ret_bool (by first | rfl | (simp <;> omega)), rfl⟩

theorem rquotas_any (ta b : Option Addr) (n tc m d : Nat) (q : List Int) (w : World) (h2 : Rd vi w b m d q) (hn : n ≤ 9223372036854775807) :
    Calls Try.prog 20 #[.slice ta n tc, .slice b m d] w fun e w' => e = .returned (.bool (decide (q.length = n ∧ Cnt q))) ∧ w = w' := by
  have H2 := Lib.hid h2
  have hlen := Lib.hid h2.len
  have hlim : m ≤ 9223372036854775807 := by have := h2.cap; have := h2.max; unfold maxLen at *; omega
  clear h2
  go_enter Try.func20, Try.ntmps20
  go_wp2
  go_loopw [5] (fun i wr => ∃ j : Nat, j ≤ m ∧ i = .int .i64 (j : Int) ∧ Hid (Cnt (q.take j)) ∧ wr = w) (fun i _ => m - (intOf i).toNat)
  case atStart => exact ⟨0, by omega, rfl, fun x hx => by simp at hx, rfl⟩
  case round =>
    obtain ⟨j, hj, rfl, hv, rfl⟩ := hrel
    by_cases hlt : j < m
    · have i2 : (j : Int) < (m : Int) := by omega
      obtain ⟨x, hx⟩ : ∃ x, q[j]? = some x := ⟨_, List.getElem?_eq_getElem (by rw [hlen.out]; exact hlt)⟩
      obtain ⟨b1, o1, rfl, c1⟩ := H2.out.cell j x hx
      change wr.cell? _ = some (.int .i64 x) at c1
      have HX := Lib.hid hx
      clear hx
      by_cases hc : 0 ≤ x ∧ x ≤ maxC
      · have hd := decide_eq_true hc
        have hv2 : Hid (Cnt (q.take (j + 1))) := Cnt.snoc hv.out HX.out hc.1 hc.2
        clear hc
        go_wp2_with (go_at_call 41; refine (within_any _ _).mono ?_; rw [hd]; rintro e w' ⟨rfl, rfl⟩)
        go_roundw
        case rel => exact ⟨j + 1, by omega, by go_num, hv2, by trivial⟩
        case measure => simp [intOf]; omega
      · have hd := decide_eq_false hc
        have hf : Hid (decide (q.length = n ∧ Cnt q) = false) := decide_eq_false fun h => hc (h.2 _ (List.mem_of_getElem? HX.out))
        clear hc
        go_wp2_with (go_at_call 41; refine (within_any _ _).mono ?_; rw [hd]; rintro e w' ⟨rfl, rfl⟩)
        go_ret
        exact ⟨ret_bool hf.out.symm, rfl⟩
    · have hjm : j = m := by omega
      subst hjm
      have hg : Cnt q := by have := hv.out; rwa [List.take_of_length_le (by rw [hlen.out]; exact Nat.le_refl _)] at this
      by_cases e : j = n
      · subst e
        have hf : Hid (decide (q.length = j ∧ Cnt q) = true) := decide_eq_true ⟨hlen.out, hg⟩
        clear hg
        go_wp2_with fail
        go_ret
        exact ⟨ret_bool (by first | exact hf.out.symm | (rw [hf.out]; simp)), rfl⟩
      · have hf : Hid (decide (q.length = n ∧ Cnt q) = false) := decide_eq_false fun h => e (by rw [← h.1, hlen.out])
        have e2 : ((j : Int) == (n : Int)) = false := by simp; omega
        clear hg e
        go_wp2_with fail
        go_ret
        exact ⟨ret_bool hf.out.symm, rfl⟩

theorem vt_false {T : Tab} {j : Nat} {m : List Int} (hm : T[j]? = some m) (h : ¬ rowOk T.length j m) : decide (VT T) = false := by
  refine decide_eq_false fun hc => h ?_
  have := hc.2 j (List.getElem?_eq_some_iff.1 hm).1
  rwa [getD_of hm] at this
theorem rvalid_any (a : Option Addr) (n c : Nat) (T : Tab) (w : World) (h : RdT w a n c T) :
    Calls Try.prog 19 #[.slice a n c] w fun e w' => e = .returned (.bool (decide (VT T))) ∧ w = w' := by
  have hlim := h.lim
  have H := Lib.hid h
  have hlen := Lib.hid h.len
  clear h
  go_enter Try.func19, Try.ntmps19
  go_wp2
  go_loopw [3] (fun i wr => ∃ j : Nat, j ≤ n ∧ i = .int .i64 (j : Int) ∧ Hid (∀ i, i < j → rowOk T.length i (T.getD i [])) ∧ wr = w) (fun i _ => n - (intOf i).toNat)
  case atStart => exact ⟨0, by omega, rfl, fun i hi => by omega, rfl⟩
  case round =>
    obtain ⟨j, hj, rfl, hv, rfl⟩ := hrel
    rename World => wo
    by_cases hlt : j < n
    · have i2 : (j : Int) < (n : Int) := by omega
      obtain ⟨m, ra, rn, rc, b1, o1, hm, rfl, c1, hr⟩ := H.out.row hlt
      have HR := Lib.hid hr
      have HM := Lib.hid hm
      have hml := Lib.hid hr.len
      have hrlim : rn ≤ 9223372036854775807 := by have := hr.cap; have := hr.max; unfold maxLen at *; omega
      clear hr hm
      by_cases hl : rn = n
      · subst hl
        have e1 : ((rn : Int) != (rn : Int)) = false := by simp
        go_wp2_with fail
        clear c1
        go_loopw [4] (fun i wr => ∃ u : Nat, u ≤ rn ∧ i = .int .i64 (u : Int) ∧ Hid (Cnt (m.take u) ∧ (j < u → m[j]? = some 0)) ∧ wr = wo) (fun i _ => rn - (intOf i).toNat)
        case atStart => exact ⟨0, by omega, rfl, ⟨fun x hx => by simp at hx, fun h => by omega⟩, by trivial⟩
        case round =>
          obtain ⟨u, hu, rfl, hv2, rfl⟩ := hrel
          by_cases hlt2 : u < rn
          · have i3 : (u : Int) < (rn : Int) := by omega
            obtain ⟨m', ra', rn', rc', b1', o1', hm', e', c1, hr'⟩ := H.out.row hlt
            cases e'
            rw [HM.out] at hm'
            cases hm'
            obtain ⟨x, hx⟩ : ∃ x, m[u]? = some x := ⟨_, List.getElem?_eq_getElem (by rw [hml.out]; exact hlt2)⟩
            obtain ⟨b2, o2, rfl, c2⟩ := hr'.cell u x hx
            obtain rfl : rn' = rn := by rw [← hr'.len, hml.out]
            unfold vi at c2
            have HX := Lib.hid hx
            clear hx hr'
            by_cases hc : 0 ≤ x ∧ x ≤ maxC
            · have hdd := decide_eq_true hc
              by_cases hju : j = u
              · subst hju
                by_cases hx0 : x = 0
                · subst hx0
                  have hv3 : Hid (Cnt (m.take (j + 1)) ∧ (j < j + 1 → m[j]? = some 0)) := ⟨Cnt.snoc hv2.out.1 HX.out hc.1 hc.2, fun _ => HX.out⟩
                  have e2 : ((j : Int) == (j : Int)) = true := by simp
                  clear hc
                  go_wp2_with (go_at_call 41; refine (within_any _ _).mono ?_; rw [hdd]; rintro e w' ⟨rfl, rfl⟩)
                  go_roundw
                  case rel => exact ⟨j + 1, by omega, by go_num, hv3, by trivial⟩
                  case measure => simp [intOf]; omega
                · have hf := Lib.hid (vt_false HM.out fun h => hx0 (by have := h.2.1; rw [HX.out] at this; simpa using this))
                  have e2 : ((j : Int) == (j : Int)) = true := by simp
                  have e3 : (x != 0) = true := by simpa using hx0
                  clear hc
                  go_wp2_with (go_at_call 41; refine (within_any _ _).mono ?_; rw [hdd]; rintro e w' ⟨rfl, rfl⟩)
                  go_ret
                  exact ⟨ret_bool hf.out.symm, by trivial⟩
              · have hv3 : Hid (Cnt (m.take (u + 1)) ∧ (j < u + 1 → m[j]? = some 0)) := ⟨Cnt.snoc hv2.out.1 HX.out hc.1 hc.2, fun h => hv2.out.2 (by omega)⟩
                have e2 : ((j : Int) == (u : Int)) = false := by simp; omega
                clear hc
                go_wp2_with (go_at_call 41; refine (within_any _ _).mono ?_; rw [hdd]; rintro e w' ⟨rfl, rfl⟩)
                go_roundw
                case rel => exact ⟨u + 1, by omega, by go_num, hv3, by trivial⟩
                case measure => simp [intOf]; omega
            · have hdd := decide_eq_false hc
              have hf := Lib.hid (vt_false HM.out fun h => hc (h.2.2 _ (List.mem_of_getElem? HX.out)))
              clear hc
              go_wp2_with (go_at_call 41; refine (within_any _ _).mono ?_; rw [hdd]; rintro e w' ⟨rfl, rfl⟩)
              go_ret
              exact ⟨ret_bool hf.out.symm, by trivial⟩
          · have hun : u = rn := by omega
            subst hun
            have hv3 : Hid (∀ i, i < j + 1 → rowOk T.length i (T.getD i [])) := by
              intro i hi
              by_cases e : i = j
              · subst e
                rw [getD_of HM.out, hlen.out]
                exact ⟨hml.out, hv2.out.2 hlt, by have := hv2.out.1; rwa [List.take_of_length_le (by rw [hml.out]; exact Nat.le_refl _)] at this⟩
              · exact hv.out i (by omega)
            go_wp2_with fail
            go_roundw
            case rel => exact ⟨j + 1, by omega, by go_num, hv3, by trivial⟩
            case measure => simp [intOf]; omega
      · have hb := Lib.hid (vt_false HM.out fun h => hl (by rw [← hml.out, h.1, hlen.out]))
        have hx1 : ((rn : Int) != (n : Int)) = true := by simp; omega
        go_wp2_with fail
        go_ret
        exact ⟨ret_bool hb.out.symm, by trivial⟩
    · have hjn : j = n := by omega
      subst hjn
      by_cases h12 : j ≤ 12
      · have hg : Hid (decide (VT T) = true) := decide_eq_true ⟨by rw [hlen.out]; omega, fun i hi => hv.out i (by rw [hlen.out] at hi; exact hi)⟩
        go_wp2_with fail
        go_ret
        exact ⟨ret_bool (by rw [hg.out]; simp; omega), by trivial⟩
      · have hg : Hid (decide (VT T) = false) := decide_eq_false fun h => h12 (by rw [← hlen.out]; exact h.1)
        go_wp2_with fail
        go_ret
        exact ⟨ret_bool (by rw [hg.out]; simp; omega), by trivial⟩
end Go.Proofs.Ytpecepfnmkpmmaa
