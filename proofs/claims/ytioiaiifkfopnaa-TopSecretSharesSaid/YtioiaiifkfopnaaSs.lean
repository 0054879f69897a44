/- kinkeeptop: a16Same. -/
import Derived.Test.YtioiaiifkfopnaaVs
import Derived.BigQuiet
import Derived.Deep.QuietTactic
namespace Go.Proofs.Ytioiaiifkfopnaa
open Go.RowKit Go.Kin
set_option maxRecDepth 100000
set_option linter.unusedVariables false
set_option maxHeartbeats 4000000
/-- The slice at a holds the shares with these x and these data. -/
def RdSh (w : World) (a : Option Addr) (n c : Nat) (xs : List Nat) (D : List (List Nat)) : Prop :=
  ∃ T, RdA vsh 2 w a n c T ∧ T.map Prod.fst = xs ∧ D.length = n ∧ ∀ (i : Nat) (x : Nat × Option Addr × Nat × Nat) (d : List Nat), T[i]? = some x → D[i]? = some d → Rd vb w x.2.1 x.2.2.1 x.2.2.2 d
theorem RdSh.fw {w w' : World} {a : Option Addr} {n c : Nat} {xs : List Nat} {D : List (List Nat)} (h : RdSh w a n c xs D) (hb : Below w.heap.size w w') : RdSh w' a n c xs D := by
  obtain ⟨T, h1, h2, h3, h4⟩ := h
  exact ⟨T, h1.fw hb, h2, h3, fun i x d hx hd => (h4 i x d hx hd).fw hb⟩
theorem RdSh.len {w : World} {a : Option Addr} {n c : Nat} {xs : List Nat} {D : List (List Nat)} (h : RdSh w a n c xs D) : xs.length = n := by
  obtain ⟨T, h1, h2, h3, h4⟩ := h
  rw [← h2, List.length_map, h1.1]
theorem RdSh.lim {w : World} {a : Option Addr} {n c : Nat} {xs : List Nat} {D : List (List Nat)} (h : RdSh w a n c xs D) : n ≤ c ∧ c ≤ 9223372036854775807 := by
  obtain ⟨T, h1, h2, h3, h4⟩ := h
  have := h1.2.2.1
  unfold maxLen at this
  exact ⟨h1.2.1, by omega⟩
theorem RdSh.at {w : World} {a : Option Addr} {n c : Nat} {xs : List Nat} {D : List (List Nat)} (h : RdSh w a n c xs D) {i : Nat} (hi : i < n) :
    ∃ (b o x : Nat) (d : List Nat) (da : Option Addr) (dn dc : Nat), a = some ⟨b, o, none⟩ ∧ xs[i]? = some x ∧ D[i]? = some d ∧ w.cell? ⟨b, o + i * 2, none⟩ = some (.int .i64 (x : Int)) ∧ w.cell? ⟨b, o + i * 2 + 1, none⟩ = some (.slice da dn dc) ∧ Rd vb w da dn dc d := by
  obtain ⟨T, h1, h2, h3, h4⟩ := h
  obtain ⟨t, ht⟩ : ∃ t, T[i]? = some t := ⟨_, List.getElem?_eq_getElem (by rw [h1.1]; exact hi)⟩
  obtain ⟨d, hd⟩ : ∃ d, D[i]? = some d := ⟨_, List.getElem?_eq_getElem (by rw [h3]; exact hi)⟩
  obtain ⟨b, o, ha, c0, c1⟩ := RdA.sh h1 ht
  exact ⟨b, o, t.1, d, _, _, _, ha, by rw [← h2, List.getElem?_map, ht]; rfl, hd, c0, c1, h4 i t d ht hd⟩
/-- A first part. -/
theorem RdSh.take {w : World} {a : Option Addr} {n c : Nat} {xs : List Nat} {D : List (List Nat)} (h : RdSh w a n c xs D) {k : Nat} (hk : k ≤ n) : RdSh w a k c (xs.take k) (D.take k) := by
  obtain ⟨T, h1, h2, h3, h4⟩ := h
  refine ⟨T.take k, ⟨by rw [List.length_take, h1.1]; omega, by have := h1.2.1; omega, h1.2.2.1, fun i x hx => ?_⟩, by rw [List.map_take, h2], by rw [List.length_take, h3]; omega, fun i x d hx hd => ?_⟩
  · rw [List.getElem?_take] at hx
    split at hx
    · exact h1.2.2.2 i x hx
    · cases hx
  · rw [List.getElem?_take] at hx hd
    split at hx
    · rename_i hi
      rw [if_pos hi] at hd
      exact h4 i x d hx hd
    · cases hx
theorem ret_boolS {x y : Bool} (h : x = y) : (Ending.returned (.bool x)) = .returned (.bool y) := by rw [h]
theorem same16 (a b : Option Addr) (n c d : Nat) (xs : List Nat) (D E : List (List Nat)) (w : World) (h1 : RdSh w a n c xs D) (h2 : RdSh w b n d xs E) (hM : ∀ x ∈ D, Gf.Byt x) (hN : ∀ x ∈ E, Gf.Byt x) :
    Calls Try.prog 8 #[.slice a n c, .slice b n d] w fun e w' => e = .returned (.bool (decide (D = E))) ∧ Drw w w' := by
  have H1 := Lib.hid h1; have H2 := Lib.hid h2
  have l1 : Hid (D.length = n) := h1.choose_spec.2.2.1
  have l2 : Hid (E.length = n) := h2.choose_spec.2.2.1
  obtain ⟨x1, x2⟩ := h1.lim
  obtain ⟨x3, x4⟩ := h2.lim
  clear h1 h2
  have e0 : (((n : Nat) : Int) != ((n : Nat) : Int)) = false := by simp
  go_enter Try.func8, Try.ntmps8
  go_wp2
  go_loopw [13] (fun i wr => ∃ j : Nat, j ≤ n ∧ i = .int .i64 (j : Int) ∧ Hid (∀ t : Nat, t < j → D[t]? = E[t]?) ∧ Hid (Drw w wr)) (fun i _ => n - (intOf i).toNat)
  case atStart => exact ⟨0, by omega, rfl, fun t ht => by omega, Drw.refl w⟩
  case round =>
    obtain ⟨j, hj, rfl, hv, hd⟩ := hrel
    by_cases hlt : j < n
    · obtain ⟨b1, o1, X, x, ra, rn, rc, rfl, hX, hx, c0, c1, hr1⟩ := (H1.out.fw hd.out.fw).at hlt
      obtain ⟨b2, o2, X', y, rb, rm, rd, rfl, hX', hy, d0, d1, hr2⟩ := (H2.out.fw hd.out.fw).at hlt
      obtain rfl : X = X' := by rw [hX] at hX'; cases hX'; rfl
      have s1 := fun k => run_string_rd (P := Try.prog) (hr1.drw ((Drw.refl _).step k)) Try.underlying23 Try.underlying5 Try.underlying9
      have s2 := fun k => run_string_rd (P := Try.prog) (hr2.drw ((Drw.refl _).step k)) Try.underlying23 Try.underlying5 Try.underlying9
      have e1 := strB_toList (hM x (List.mem_of_getElem? hx)) (hN y (List.mem_of_getElem? hy))
      have i1 : (j : Int) < (n : Int) := by omega
      have i2 : (j : Int) ≤ (n : Int) := by omega
      have e9 : (((X : Nat) : Int) != ((X : Nat) : Int)) = false := by simp
      by_cases hxy : x = y
      · subst hxy
        have hv2 : Hid (∀ t : Nat, t < j + 1 → D[t]? = E[t]?) := by
          intro t ht
          by_cases e : t = j
          · rw [e, hx, hy]
          · exact hv.out t (by omega)
        rw [decide_eq_true rfl] at e1
        have e2 : ((strB x).toList != (strB x).toList) = false := by simp
        clear hx hy hr1 hr2 hX hX'
        go_wp2_with fail
        go_quiet (fail)
        go_wp2
        go_roundw
        case rel => exact ⟨j + 1, by omega, by go_num, hv2, hd.out.step nq⟩
        case measure => simp [intOf]; omega
      · have hf : Hid (decide (D = E) = false) := decide_eq_false fun e => hxy (by rw [e, hy] at hx; cases hx; rfl)
        rw [decide_eq_false hxy] at e1
        have e2 : ((strB x).toList != (strB y).toList) = true := by rw [bne, e1]; rfl
        clear hx hy hr1 hr2 hxy hX hX'
        go_wp2_with fail
        go_quiet (fail)
        go_wp2
        go_ret
        exact ⟨ret_boolS hf.out.symm, hd.out.step nq⟩
    · have hf : Hid (decide (D = E) = true) := by
        refine decide_eq_true (List.ext_getElem? fun t => ?_)
        by_cases ht : t < n
        · exact hv.out t (by omega)
        · rw [List.getElem?_eq_none (by rw [l1.out]; omega), List.getElem?_eq_none (by rw [l2.out]; omega)]
      go_wp2
      go_ret
      exact ⟨ret_boolS hf.out.symm, hd.out⟩
end Go.Proofs.Ytioiaiifkfopnaa
