/- matrix: combine, Mul, Apply. -/
import Derived.Test.YtioiaiifkfopnaaMj
namespace Go.Proofs.Ytioiaiifkfopnaa
open Go.RowKit Go.Kin Mat
open Fq (sum)
set_option maxRecDepth 100000

/-- The product, row r of it summed up to column j of f. -/
def part (q : Nat) (f g : Mat) (r j : Nat) : Mat := fun i c => if i < r then mul q f g i c else if i = r then sum (fun t => f i t * g t c) j else 0
theorem part_row (q : Nat) (f g : Mat) (r j : Nat) : part q f g r j r = fun c => sum (fun t => f r t * g t c) j := by
  funext c; unfold part; rw [if_neg (by omega), if_pos rfl]

set_option maxHeartbeats 4000000 in
theorem combine_any (a b : Option Addr) (n c q cb L : Nat) (f g : Mat) (w : World) (h1 : RdM w a n c (mlist n q f)) (h2 : RdM w b q cb (mlist q L g)) (hn : n ≤ 1000) (hq : q ≤ 1000) (hL : L ≤ 1000) :
    Calls Try.prog 39 #[.slice a n c, .slice b q cb, .int .i64 (L : Int)] w fun e w' => ∃ o, e = .returned (.slice (some ⟨o, 0, none⟩) n n) ∧ MatR w' w.heap.size (some ⟨o, 0, none⟩) n n L (mul q f g) ∧ Below w.heap.size w w' := by
  have H1 := Lib.hid h1; have H2 := Lib.hid h2
  clear h1 h2
  go_enter Try.func39, Try.ntmps39
  go_wp2_with (go_at_call 54; refine (zeros_any n L _ hn hL).mono ?_; rintro e w1 ⟨o, rfl, hM1, hb1⟩; have HM1 := Lib.hid (hM1.r (by omega)); have HB1 := Lib.hid hb1; clear hM1 hb1)
  go_loopw [8, 9, 10, 11, 18] (fun _ _ _ _ i wr => ∃ r : Nat, r ≤ n ∧ i = .int .i64 (r : Int) ∧ Hid (MatR wr w.heap.size (some ⟨o, 0, none⟩) n n L (part q f g r 0)) ∧ Hid (Below w.heap.size w wr)) (fun _ _ _ _ i _ => n - (intOf i).toNat)
  case atStart =>
    refine ⟨0, by omega, rfl, HM1.out.congr fun i c _ _ => ?_, HB1.out⟩
    unfold part
    rw [if_neg (by omega)]
    split <;> rfl
  case round =>
    obtain ⟨r, hr, rfl, hM, hbe⟩ := hrel
    by_cases hlt : r < n
    · have i2 : (r : Int) < (n : Int) := by omega
      obtain ⟨m, ra, rn, rc, ba, oa, hm, rfl, c0, hrow⟩ := H1.out.row hlt
      have c1 := (cellBelow hbe.out (lt_of_cell c0)).trans c0
      obtain rfl := mlist_row hm
      obtain rfl : q = rn := by have := hrow.len; rwa [mrow_length] at this
      have HROW := Lib.hid hrow
      clear hrow hm c0
      go_wp2_with fail
      go_loopw [10, 11, 25] (fun _ _ i wr => ∃ j : Nat, j ≤ q ∧ i = .int .i64 (j : Int) ∧ Hid (MatR wr w.heap.size (some ⟨o, 0, none⟩) n n L (part q f g r j)) ∧ Hid (Below w.heap.size w wr)) (fun _ _ i _ => q - (intOf i).toNat)
      case atStart => exact ⟨0, by omega, rfl, hM.out, hbe.out⟩
      case round =>
        obtain ⟨j, hj, rfl, hM2, hbe2⟩ := hrel
        by_cases hlj : j < q
        · have i3 : (j : Int) < (q : Int) := by omega
          obtain ⟨o', ra4, rc4, ho', hBo, q4, f4, ow4, cur, hcur⟩ := hM2.out.at hlt
          cases ho'
          rw [part_row] at ow4
          obtain ⟨bx, ox, rfl, d1⟩ := (HROW.out.fw hbe2.out).cell j _ (mrow_get _ hlj)
          obtain ⟨m2, rb, rbn, rbc, bb, ob, hm2, rfl, c2, hrow2⟩ := (H2.out.fw hbe2.out).row hlj
          obtain rfl := mlist_row hm2
          obtain rfl : L = rbn := by have := hrow2.len; rwa [mrow_length] at this
          obtain ⟨y, hy⟩ : ∃ y, y = (f r j).n := ⟨_, rfl⟩
          have by' : y < 256 := by rw [hy]; exact (f r j).h
          have hyq : Hid (Fq.of y = f r j) := by show _ = _; rw [hy, Fq.of_val]
          rw [← hy] at d1
          unfold vb at d1
          have OW4 := Lib.hid ow4; have HROW2 := Lib.hid hrow2
          clear ow4 hrow2 hm2 hy
          by_cases hy0 : y = 0
          · have e2 : (((y : Nat) : Int) != 0) = false := by rw [hy0]; rfl
            have hM3 : Hid (MatR wr w.heap.size (some ⟨o, 0, none⟩) n n L (part q f g r (j + 1))) := by
              refine hM2.out.congr fun i c _ _ => ?_
              unfold part
              by_cases h : i < r
              · rw [if_pos h, if_pos h]
              · rw [if_neg h, if_neg h]
                by_cases h2 : i = r
                · subst h2
                  have : f i j = 0 := by rw [← hyq.out, hy0]; rfl
                  rw [if_pos rfl, if_pos rfl, Fq.sum_succ, this, Fq.zero_mul, Fq.add_zero]
                · rw [if_neg h2, if_neg h2]
            clear hcur hy0 q4 f4 c2
            go_wp2_with fail
            go_roundw
            case rel => exact ⟨j + 1, by omega, by go_num, hM3, hbe2.out⟩
            case measure => simp [intOf]; omega
          · have e2 : (((y : Nat) : Int) != 0) = true := by simp; omega
            have HCUR := Lib.hid hcur
            clear hcur hy0
            go_wp2_with fail
            go_region_with (go_at_call 59; refine (muladd_m _ _ L _ _ (fun c => sum (fun t => f r t * g t c) j) (g j) _ _ (OW4.out.rd.fw (fdrewN (below_refl wr) 1)) (HROW2.out.fw (fdrewN (below_refl wr) 1)) by' hL).mono ?_; rintro e w7 ⟨g7, rfl, hg7, hB7, hb7⟩; obtain ⟨o8, ra8, rc8, e8, _, q8, f8, _, _⟩ := ((hM2.out.fw (fdrewN (below_refl wr) 1)).fw hb7).at hlt; cases e8)
            all_goals
              go_wp2_with fail
              go_roundw
              case rel =>
                have hb6 := fdrewN (below_refl wr) 1
                have hown7 := hB7.own (B := 0) (Nat.zero_le _) (by rw [mrow_length]; unfold maxLen; omega)
                rw [mrow_length] at hown7
                have hM7 := ((hM2.out.fw hb6).fw hb7).set hlt hown7
                refine ⟨j + 1, by omega, by go_num, hM7.congr fun i c _ _ => ?_, ((hbe2.out.trans (hb6.mono hbe2.out.size)).trans (hb7.mono hbe2.out.size)).setCell (p := ⟨o, r, none⟩) hBo _⟩
                by_cases h2 : i = r
                · subst h2
                  rw [Mat.setRow_same, part_row, hyq.out]; rfl
                · rw [Mat.setRow_other _ _ h2]
                  unfold part
                  by_cases h : i < r
                  · rw [if_pos h, if_pos h]
                  · rw [if_neg h, if_neg h, if_neg h2, if_neg h2]
              case measure => simp [intOf]; omega
        · have hjq : j = q := by omega
          subst hjq
          go_wp2_with fail
          go_roundw
          case rel =>
            refine ⟨r + 1, by omega, by go_num, hM2.out.congr fun i c _ _ => ?_, hbe2.out⟩
            unfold part
            by_cases h : i < r
            · rw [if_pos h, if_pos (by omega)]
            · rw [if_neg h]
              by_cases h2 : i = r
              · subst h2
                rw [if_pos rfl, if_pos (by omega)]; rfl
              · rw [if_neg h2, if_neg (by omega)]
                split <;> rfl
          case measure => simp [intOf]; omega
    · have hrn : r = n := by omega
      subst hrn
      go_wp2_with fail
      go_ret
      refine ⟨o, rfl, hM.out.congr fun i c hi _ => ?_, hbe.out⟩
      unfold part
      rw [if_pos hi]

def MulOk (A B : List (List Nat)) : Prop := ValidL A ∧ ValidL B ∧ colsL A = B.length
set_option maxHeartbeats 1000000 in
theorem mul_bad (a b : Option Addr) (n m c d : Nat) (A B : List (List Nat)) (w : World) (h1 : RdM w a n c A) (h2 : RdM w b m d B) (hv : ¬ MulOk A B) :
    Calls Try.prog 62 #[.slice a n c, .slice b m d] w fun e w' => e = .returned (.tuple #[.slice none 0 0, .int .i64 1]) ∧ w = w' := by
  have hl := h2.len
  by_cases hA : ValidL A
  · have dA := decide_eq_true hA
    by_cases hB : ValidL B
    · have dB := decide_eq_true hB
      have e1 : (((colsL A : Nat) : Int) != (m : Int)) = true := by
        have : colsL A ≠ B.length := fun e => hv ⟨hA, hB, e⟩
        simp; omega
      go_enter Try.func62, Try.ntmps62
      go_wp2_with (first
        | (go_at_call 36; refine (valid_any _ _ _ _ _ (by assumption)).mono ?_; rintro e w' ⟨rfl, rfl⟩)
        | (go_at_call 37; refine (columns_any _ _ _ _ _ (by assumption)).mono ?_; rintro e w' ⟨rfl, rfl⟩))
      go_ret2
      exact ⟨rfl, rfl⟩
    · have dB := decide_eq_false hB
      go_enter Try.func62, Try.ntmps62
      go_wp2_with (first
        | (go_at_call 36; refine (valid_any _ _ _ _ _ (by assumption)).mono ?_; rintro e w' ⟨rfl, rfl⟩))
      go_ret2
      exact ⟨rfl, rfl⟩
  · have dA := decide_eq_false hA
    go_enter Try.func62, Try.ntmps62
    go_wp2_with (go_at_call 36; refine (valid_any _ _ _ _ _ (by assumption)).mono ?_; rintro e w' ⟨rfl, rfl⟩)
    go_ret2
    exact ⟨rfl, rfl⟩
set_option maxHeartbeats 1000000 in
theorem mul_ok (a b : Option Addr) (n c q d L : Nat) (f g : Mat) (w : World) (h1 : RdM w a n c (mlist n q f)) (h2 : RdM w b q d (mlist q L g)) (v1 : VM n q) (v2 : VM q L) :
    Calls Try.prog 62 #[.slice a n c, .slice b q d] w fun e w' => ∃ o, e = .returned (.tuple #[.slice (some ⟨o, 0, none⟩) n n, .int .i64 0]) ∧ MatR w' w.heap.size (some ⟨o, 0, none⟩) n n L (mul q f g) ∧ Below w.heap.size w w' := by
  have dA := decide_eq_true (v1.valid f)
  have dB := decide_eq_true (v2.valid g)
  have cA := v1.cols f
  have cB := v2.cols g
  have e1 : ((q : Int) != (q : Int)) = false := by simp
  have x1 := v1.hn; have x2 := v1.hk; have x3 := v2.hk
  go_enter Try.func62, Try.ntmps62
  go_wp2_with (first
    | (go_at_call 36; refine (valid_any _ _ _ _ _ (by assumption)).mono ?_; rintro e w' ⟨rfl, rfl⟩)
    | (go_at_call 37; refine (columns_any _ _ _ _ _ (by assumption)).mono ?_; rintro e w' ⟨rfl, rfl⟩)
    | (go_at_call 39; refine (combine_any _ _ _ _ _ _ _ f g _ h1 h2 (by omega) (by omega) (by omega)).mono ?_; rintro e w' ⟨o, rfl, hM, hb⟩))
  go_ret2
  exact ⟨o, rfl, hM, hb⟩

end Go.Proofs.Ytioiaiifkfopnaa
