/- kinkeeptop: a04Awake, a04Blocks, a04Same. -/
import Derived.Test.YtioiaiifkfopnaaRse
import Derived.BigQuiet
import Derived.Deep.QuietTactic
namespace Go.Proofs.Ytioiaiifkfopnaa
open Go.RowKit Go.Kin Mat
open Fq (sum)
set_option maxRecDepth 100000
set_option linter.unusedVariables false

theorem tsame_any (a b : Option Addr) (n m c d : Nat) (M N : List (List Nat)) (w : World) (h1 : RdM w a n c M) (h2 : RdM w b m d N) (hM : ∀ x ∈ M, Gf.Byt x) (hN : ∀ x ∈ N, Gf.Byt x) :
    Calls Try.prog 19 #[.slice a n c, .slice b m d] w fun e w' => e = .returned (.bool (decide (M = N))) ∧ Drw w w' := by
  have H1 := Lib.hid h1; have H2 := Lib.hid h2
  have l1 := Lib.hid h1.len; have l2 := Lib.hid h2.len
  have x1 := h1.lim
  clear h1 h2
  by_cases hnm : n = m
  · subst hnm
    have e0 : (((n : Nat) : Int) != ((n : Nat) : Int)) = false := by simp
    go_enter Try.func19, Try.ntmps19
    go_wp2
    go_loopw [13] (fun i wr => ∃ j : Nat, j ≤ n ∧ i = .int .i64 (j : Int) ∧ Hid (∀ t : Nat, t < j → M[t]? = N[t]?) ∧ Hid (Drw w wr)) (fun i _ => n - (intOf i).toNat)
    case atStart => exact ⟨0, by omega, rfl, fun t ht => by omega, Drw.refl w⟩
    case round =>
      obtain ⟨j, hj, rfl, hv, hd⟩ := hrel
      by_cases hlt : j < n
      · obtain ⟨x, ra, rn, rc, b1, o1, hx, rfl, c1, hr1⟩ := (H1.out.fw hd.out.fw).row (i := j) hlt
        obtain ⟨y, rb, rm, rd, b2, o2, hy, rfl, c2, hr2⟩ := (H2.out.fw hd.out.fw).row (i := j) hlt
        have s1 := fun k => run_string_rd (P := Try.prog) (hr1.drw ((Drw.refl _).step k)) Try.underlying23 Try.underlying5 Try.underlying9
        have s2 := fun k => run_string_rd (P := Try.prog) (hr2.drw ((Drw.refl _).step k)) Try.underlying23 Try.underlying5 Try.underlying9
        have e1 := strB_toList (hM x (List.mem_of_getElem? hx)) (hN y (List.mem_of_getElem? hy))
        have i1 : (j : Int) < (n : Int) := by omega
        by_cases hxy : x = y
        · subst hxy
          have hv2 : Hid (∀ t : Nat, t < j + 1 → M[t]? = N[t]?) := by
            intro t ht
            by_cases e : t = j
            · rw [e, hx, hy]
            · exact hv.out t (by omega)
          rw [decide_eq_true rfl] at e1
          have e2 : ((strB x).toList != (strB x).toList) = false := by simp
          clear hx hy hr1 hr2
          go_wp2_with fail
          go_quiet (fail)
          go_wp2
          go_roundw
          case rel => exact ⟨j + 1, by omega, by go_num, hv2, hd.out.step nq⟩
          case measure => simp [intOf]; omega
        · have hf : Hid (decide (M = N) = false) := decide_eq_false fun e => hxy (by rw [e, hy] at hx; cases hx; rfl)
          rw [decide_eq_false hxy] at e1
          have e2 : ((strB x).toList != (strB y).toList) = true := by rw [bne, e1]; rfl
          clear hx hy hr1 hr2 hxy
          go_wp2_with fail
          go_quiet (fail)
          go_wp2
          go_ret
          exact ⟨ret_bool hf.out.symm, hd.out.step nq⟩
      · have hf : Hid (decide (M = N) = true) := by
          refine decide_eq_true (List.ext_getElem? fun t => ?_)
          by_cases ht : t < n
          · exact hv.out t (by omega)
          · rw [List.getElem?_eq_none (by rw [l1.out]; omega), List.getElem?_eq_none (by rw [l2.out]; omega)]
        go_wp2
        go_ret
        exact ⟨ret_bool hf.out.symm, hd.out⟩
  · have e0 : (((n : Nat) : Int) != ((m : Nat) : Int)) = true := by simp; omega
    have hf : Hid (decide (M = N) = false) := decide_eq_false fun e => hnm (by rw [← l1.out, ← l2.out, e])
    go_enter Try.func19, Try.ntmps19
    go_wp2
    go_ret
    exact ⟨ret_bool hf.out.symm, Drw.refl w⟩
theorem tsame_eq (a b : Option Addr) (n m c d : Nat) (M N : List (List Nat)) (w : World) (h1 : RdM w a n c M) (h2 : RdM w b m d N) (hM : ∀ x ∈ M, Gf.Byt x) (h : M = N) :
    Calls Try.prog 19 #[.slice a n c, .slice b m d] w fun e w' => e = .returned (.bool true) ∧ Drw w w' :=
  (tsame_any a b n m c d M N w h1 h2 hM (h ▸ hM)).mono fun _ _ ⟨he, hw⟩ => ⟨by rw [he, decide_eq_true h], hw⟩

theorem aw_row : mrow 2 (allM 2 2) = [142, 244] := by decide +kernel
theorem aw_rank : (elimE 3 idm 3).piv.length = 3 := by decide +kernel
theorem aw_mul : Gf.mul 2 128 = 29 := by decide +kernel
theorem t04awake (w : World) :
    Calls Try.prog 9 #[] w fun e w' => e = .returned (.bool true) ∧ Below w.heap.size w w' := by
  have m1 := Lib.hid aw_mul
  go_enter Try.func9, Try.ntmps9
  go_wp2_with (first
    | (go_at_call 13; refine (row_ok 2 4 2 _ (by omega) (by omega) (by omega) (by omega) (by omega)).mono ?_; rintro e w1 ⟨a1, c1, rfl, hO1, hb1⟩; rw [aw_row] at hO1; have r1 := hO1.rd; obtain ⟨g1, o1, rfl, k0⟩ := r1.cell 0 142 rfl; obtain ⟨g2, o2, hg2, k1⟩ := r1.cell 1 244 rfl; cases hg2; rw [Nat.add_zero] at k0; unfold vb at k0 k1; have HB1 := Lib.hid hb1; clear hO1 hb1 r1)
    | (go_at_call 28; refine (ident_any 3 _ (by omega)).mono ?_; rintro e w2 ⟨o2, rfl, hM2, hb2⟩; have HM2 := Lib.hid (hM2.rdm (by omega)); have HB2 := Lib.hid (bt HB1.out hb2); clear hM2 hb2)
    | (go_at_call 16; refine (rank_ok _ 3 3 3 idm _ HM2.out ⟨by omega, by omega, fun e => by omega⟩).mono ?_; rw [aw_rank]; rintro e w3 ⟨rfl, hb3⟩; have HB3 := Lib.hid (bt HB2.out hb3); clear hb3)
    | (go_at_call 29; refine (mul_any 2 128 _ (by omega) (by omega) (by omega) (by omega)).mono ?_; rw [show (2 : Int).toNat = 2 from rfl, show (128 : Int).toNat = 128 from rfl, m1.out]; rintro e w4 ⟨rfl, rfl⟩))
  go_ret
  exact ⟨rfl, HB3.out⟩

/-- Blocks of one length from 1 to q. -/
def GoodB (M : List (List Nat)) (q : Nat) : Prop := ∀ m ∈ M, 1 ≤ m.length ∧ m.length ≤ q ∧ m.length = colsL M
instance (M : List (List Nat)) (q : Nat) : Decidable (GoodB M q) := by unfold GoodB; infer_instance
set_option maxHeartbeats 1000000 in
theorem blocks_any (x : Int) (a : Option Addr) (n c q : Nat) (M : List (List Nat)) (w : World) (h : RdM w a n c M) (hq : q ≤ 1000) :
    Calls Try.prog 11 #[.int .i64 x, .slice a n c, .int .i64 (q : Int)] w fun e w' => e = .returned (.bool (decide (GoodB M q ∧ (n : Int) = x))) ∧ Below w.heap.size w w' := by
  have hlim := h.lim
  have hlen := Lib.hid h.len
  have H := Lib.hid h
  clear h
  go_enter Try.func11, Try.ntmps11
  go_wp2
  go_loopw [11] (fun i wr => ∃ j : Nat, j ≤ n ∧ i = .int .i64 (j : Int) ∧ Hid (∀ t m, t < j → M[t]? = some m → 1 ≤ m.length ∧ m.length ≤ q ∧ m.length = colsL M) ∧ Hid (Below w.heap.size w wr)) (fun i _ => n - (intOf i).toNat)
  case atStart => exact ⟨0, by omega, rfl, fun t m ht => by omega, below_refl _⟩
  case round =>
    obtain ⟨j, hj, rfl, hv, hbe⟩ := hrel
    by_cases hlt : j < n
    · have i2 : (j : Int) < (n : Int) := by omega
      obtain ⟨m, ra, rn, rc, ba, ob, hm, rfl, c0, hrow⟩ := H.out.row hlt
      obtain ⟨m2, ra2, rn2, rc2, ba2, ob2, hm2, ho2, c2, hrow2⟩ := H.out.row (show 0 < n by omega)
      cases ho2
      have d0 := (cellBelow hbe.out (lt_of_cell c0)).trans c0
      have d2 := (cellBelow hbe.out (lt_of_cell c2)).trans c2
      rw [Nat.add_zero] at d2
      have hr1 := Lib.hid hrow.len
      have hr2 : Hid (colsL M = rn2) := by show (M.getD 0 []).length = rn2; rw [List.getD_eq_getElem?_getD, hm2]; exact hrow2.len
      have HMJ := Lib.hid hm
      clear c0 c2 hm hm2 hrow hrow2
      have bad : ¬ (1 ≤ rn ∧ rn ≤ q ∧ rn = rn2) → Hid (decide (GoodB M q ∧ (n : Int) = x) = false) := by
        intro hb
        refine decide_eq_false fun h => hb ?_
        have := h.1 m (List.mem_of_getElem? HMJ.out)
        rwa [hr1.out, hr2.out] at this
      by_cases h1 : 1 ≤ rn
      · have e1 : decide ((rn : Int) < 1) = false := by simp; omega
        by_cases h2 : rn ≤ q
        · have e2 : decide ((q : Int) < (rn : Int)) = false := by simp; omega
          by_cases h3 : rn = rn2
          · subst h3
            have e3 : ((rn : Int) != (rn : Int)) = false := by simp
            have hv2 : Hid (∀ t m, t < j + 1 → M[t]? = some m → 1 ≤ m.length ∧ m.length ≤ q ∧ m.length = colsL M) := by
              intro t m' ht hm'
              by_cases e : t = j
              · subst e
                rw [HMJ.out] at hm'
                cases hm'
                rw [hr1.out, hr2.out]
                exact ⟨h1, h2, rfl⟩
              · exact hv.out t m' (by omega) hm'
            clear bad
            go_wp2_with fail
            go_roundw
            case rel => exact ⟨j + 1, by omega, by go_num, hv2, hbe⟩
            case measure => simp [intOf]; omega
          · have e3 : ((rn : Int) != (rn2 : Int)) = true := by simp; omega
            have hb := bad fun h => h3 h.2.2
            clear bad
            go_wp2_with fail
            go_ret
            exact ⟨ret_bool hb.out.symm, hbe.out⟩
        · have e2 : (q : Int) < (rn : Int) := by omega
          have hb := bad fun h => h2 h.2.1
          clear bad
          go_wp2_with fail
          go_ret
          exact ⟨ret_bool hb.out.symm, hbe.out⟩
      · have e1 : (rn : Int) < 1 := by omega
        have hb := bad fun h => h1 h.1
        clear bad
        go_wp2_with fail
        go_ret
        exact ⟨ret_bool hb.out.symm, hbe.out⟩
    · have hjn : j = n := by omega
      subst hjn
      have hg : Hid (GoodB M q) := fun m hm => by
        obtain ⟨t, ht⟩ := List.mem_iff_getElem?.1 hm
        exact hv.out t m (by have := (List.getElem?_eq_some_iff.1 ht).1; rw [hlen.out] at this; exact this) ht
      go_wp2_with fail
      go_ret
      refine ⟨ret_bool ?_, hbe.out⟩
      by_cases e : (j : Int) = x
      · rw [decide_eq_true ⟨hg.out, e⟩]; simp [e]
      · rw [decide_eq_false fun h => e h.2]; simp [e]
end Go.Proofs.Ytioiaiifkfopnaa
