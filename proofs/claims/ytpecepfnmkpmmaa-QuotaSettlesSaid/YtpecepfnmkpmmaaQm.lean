/- The reference's comparison of lists and of tables. -/
import Derived.Test.YtpecepfnmkpmmaaQd
namespace Go.Proofs.Ytpecepfnmkpmmaa
open Go.RowKit Go.Kin Quo
set_option maxRecDepth 100000
set_option linter.unusedVariables false
theorem sints_any (a b : Option Addr) (n m c d : Nat) (p q : List Int) (w : World) (h1 : Rd vi w a n c p) (h2 : Rd vi w b m d q) :
    Calls Try.prog 26 #[.slice a n c, .slice b m d] w fun e w' => e = .returned (.bool (decide (p = q))) ∧ Drw w w' := by
  have H1 := Lib.hid h1; have H2 := Lib.hid h2
  have l1 := Lib.hid h1.len; have l2 := Lib.hid h2.len
  have x1 : n ≤ 9223372036854775807 := by have := h1.cap; have := h1.max; unfold maxLen at *; omega
  clear h1 h2
  by_cases hnm : n = m
  · subst hnm
    have e0 : (((n : Nat) : Int) != ((n : Nat) : Int)) = false := by simp
    go_enter Try.func26, Try.ntmps26
    go_wp2
    go_loopw [5] (fun i wr => ∃ j : Nat, j ≤ n ∧ i = .int .i64 (j : Int) ∧ Hid (∀ t : Nat, t < j → p[t]? = q[t]?) ∧ Hid (Drw w wr)) (fun i _ => n - (intOf i).toNat)
    case atStart => exact ⟨0, by omega, rfl, fun t ht => by omega, Drw.refl w⟩
    case round =>
      obtain ⟨j, hj, rfl, hv, hd⟩ := hrel
      by_cases hlt : j < n
      · obtain ⟨x, hx⟩ : ∃ x, p[j]? = some x := ⟨_, List.getElem?_eq_getElem (by rw [l1.out]; omega)⟩
        obtain ⟨y, hy⟩ : ∃ y, q[j]? = some y := ⟨_, List.getElem?_eq_getElem (by rw [l2.out]; omega)⟩
        obtain ⟨b1, o1, rfl, c1⟩ := (H1.out.drw hd.out).cell j x hx
        obtain ⟨b2, o2, rfl, c2⟩ := (H2.out.drw hd.out).cell j y hy
        unfold vi at c1 c2
        have i1 : (j : Int) < (n : Int) := by omega
        by_cases hxy : x = y
        · subst hxy
          have e2 : (x != x) = false := by simp
          have hv2 : Hid (∀ t : Nat, t < j + 1 → p[t]? = q[t]?) := by
            intro t ht
            by_cases e : t = j
            · rw [e, hx, hy]
            · exact hv.out t (by omega)
          clear hx hy
          go_wp2_with fail
          go_quiet (fail)
          go_wp2
          go_roundw
          case rel => exact ⟨j + 1, by omega, by go_num, hv2, hd.out.step nq⟩
          case measure => simp [intOf]; omega
        · have hf : Hid (decide (p = q) = false) := decide_eq_false fun e => hxy (by rw [e, hy] at hx; cases hx; rfl)
          have e2 : (x != y) = true := by simp [hxy]
          clear hx hy hxy
          go_wp2_with fail
          go_quiet (fail)
          go_wp2
          go_ret
          exact ⟨ret_bool hf.out.symm, hd.out.step nq⟩
      · have hf : Hid (decide (p = q) = true) := by
          refine decide_eq_true (List.ext_getElem? fun t => ?_)
          by_cases ht : t < n
          · exact hv.out t (by omega)
          · rw [List.getElem?_eq_none (by rw [l1.out]; omega), List.getElem?_eq_none (by rw [l2.out]; omega)]
        go_wp2
        go_ret
        exact ⟨ret_bool hf.out.symm, hd.out⟩
  · have e0 : (((n : Nat) : Int) != ((m : Nat) : Int)) = true := by simp; omega
    have hf : Hid (decide (p = q) = false) := decide_eq_false fun e => hnm (by rw [← l1.out, ← l2.out, e])
    go_enter Try.func26, Try.ntmps26
    go_wp2
    go_ret
    exact ⟨ret_bool hf.out.symm, Drw.refl w⟩

theorem tsame_any (a b : Option Addr) (n m c d : Nat) (M N : Tab) (w : World) (h1 : RdT w a n c M) (h2 : RdT w b m d N) :
    Calls Try.prog 24 #[.slice a n c, .slice b m d] w fun e w' => e = .returned (.bool (decide (M = N))) ∧ Drw w w' := by
  have H1 := Lib.hid h1; have H2 := Lib.hid h2
  have l1 := Lib.hid h1.len; have l2 := Lib.hid h2.len
  have x1 := h1.lim
  clear h1 h2
  by_cases hnm : n = m
  · subst hnm
    have e0 : (((n : Nat) : Int) != ((n : Nat) : Int)) = false := by simp
    go_enter Try.func24, Try.ntmps24
    go_wp2
    go_loopw [5] (fun i wr => ∃ j : Nat, j ≤ n ∧ i = .int .i64 (j : Int) ∧ Hid (∀ t : Nat, t < j → M[t]? = N[t]?) ∧ Hid (Drw w wr)) (fun i _ => n - (intOf i).toNat)
    case atStart => exact ⟨0, by omega, rfl, fun t ht => by omega, Drw.refl w⟩
    case round =>
      obtain ⟨j, hj, rfl, hv, hd⟩ := hrel
      by_cases hlt : j < n
      · obtain ⟨x, ra, rn, rc, b1, o1, hx, rfl, c1, hr1⟩ := (H1.out.fw hd.out.fw).row (i := j) hlt
        obtain ⟨y, rb, rm, rd, b2, o2, hy, rfl, c2, hr2⟩ := (H2.out.fw hd.out.fw).row (i := j) hlt
        have HR1 := Lib.hid hr1; have HR2 := Lib.hid hr2
        have i1 : (j : Int) < (n : Int) := by omega
        by_cases hxy : x = y
        · subst hxy
          have hv2 : Hid (∀ t : Nat, t < j + 1 → M[t]? = N[t]?) := by
            intro t ht
            by_cases e : t = j
            · rw [e, hx, hy]
            · exact hv.out t (by omega)
          have hdx : decide (x = x) = true := by simp
          have E1 : Hid (∀ k, Calls Try.prog 26 #[.slice ra rn rc, .slice rb rm rd] (wr.drewN k) fun e w' => e = .returned (.bool true) ∧ Drw (wr.drewN k) w') := fun k => by
            have := sints_any _ _ _ _ _ _ _ _ _ (HR1.out.fw (fdrewN (below_refl wr) k)) (HR2.out.fw (fdrewN (below_refl wr) k))
            rwa [hdx] at this
          clear hdx
          clear hx hy hr1 hr2
          go_wp2_with fail
          go_quiet ((go_at_call 26; exact qdrw (E1.out _)))
          go_wp2
          go_roundw
          case rel => exact ⟨j + 1, by omega, by go_num, hv2, hd.out.step nq⟩
          case measure => simp [intOf]; omega
        · have hf : Hid (decide (M = N) = false) := decide_eq_false fun e => hxy (by rw [e, hy] at hx; cases hx; rfl)
          have hdx := decide_eq_false hxy
          have E1 : Hid (∀ k, Calls Try.prog 26 #[.slice ra rn rc, .slice rb rm rd] (wr.drewN k) fun e w' => e = .returned (.bool false) ∧ Drw (wr.drewN k) w') := fun k => by
            have := sints_any _ _ _ _ _ _ _ _ _ (HR1.out.fw (fdrewN (below_refl wr) k)) (HR2.out.fw (fdrewN (below_refl wr) k))
            rwa [hdx] at this
          clear hdx
          clear hx hy hr1 hr2 hxy
          go_wp2_with fail
          go_quiet ((go_at_call 26; exact qdrw (E1.out _)))
          go_wp2
          go_ret
          exact ⟨ret_bool hf.out.symm, hd.out.step nq⟩
      · have hf : Hid (decide (M = N) = true) := by
          refine decide_eq_true (List.ext_getElem? fun t => ?_)
          by_cases ht : t < n
          · exact hv.out t (by omega)
          · rw [List.getElem?_eq_none (by rw [l1.out]; omega), List.getElem?_eq_none (by rw [l2.out]; omega)]
        go_wp2
        go_ret
        exact ⟨ret_bool hf.out.symm, hd.out⟩
  · have e0 : (((n : Nat) : Int) != ((m : Nat) : Int)) = true := by simp; omega
    have hf : Hid (decide (M = N) = false) := decide_eq_false fun e => hnm (by rw [← l1.out, ← l2.out, e])
    go_enter Try.func24, Try.ntmps24
    go_wp2
    go_ret
    exact ⟨ret_bool hf.out.symm, Drw.refl w⟩
theorem sints_same (a b : Option Addr) (n m c d : Nat) (p : List Int) (w : World) (h1 : Rd vi w a n c p) (h2 : Rd vi w b m d p) :
    Calls Try.prog 26 #[.slice a n c, .slice b m d] w fun e w' => e = .returned (.bool true) ∧ Drw w w' := by
  have := sints_any a b n m c d p p w h1 h2
  rwa [decide_eq_true (rfl : p = p)] at this
theorem tsame_same (a b : Option Addr) (n m c d : Nat) (M : Tab) (w : World) (h1 : RdT w a n c M) (h2 : RdT w b m d M) :
    Calls Try.prog 24 #[.slice a n c, .slice b m d] w fun e w' => e = .returned (.bool true) ∧ Drw w w' := by
  have := tsame_any a b n m c d M M w h1 h2
  rwa [decide_eq_true (rfl : M = M)] at this
end Go.Proofs.Ytpecepfnmkpmmaa
