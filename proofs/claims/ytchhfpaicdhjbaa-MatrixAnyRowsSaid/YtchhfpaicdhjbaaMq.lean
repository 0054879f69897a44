/- matrix.Solve, Kernel. -/
import Derived.Test.YtchhfpaicdhjbaaMp
namespace Go.Proofs.Ytchhfpaicdhjbaa
open Go.RowKit Go.Kin Mat
open Fq (sum)
set_option maxRecDepth 100000
set_option linter.unusedVariables false

theorem solve_bad (a b : Option Addr) (n c m d : Nat) (M : List (List Nat)) (w : World) (h : RdM w a n c M) (hv : ¬ (ValidL M ∧ m = M.length)) :
    Calls Try.prog 31 #[.slice a n c, .slice b m d] w fun e w' => e = .returned (.tuple #[.slice none 0 0, .int .i64 1]) ∧ w = w' := by
  have hl := h.len
  by_cases hd : ValidL M
  · have hd' := decide_eq_true hd
    have e1 : ((m : Int) != (n : Int)) = true := by
      have : m ≠ M.length := fun e => hv ⟨hd, e⟩
      simp; omega
    go_enter Try.func31, Try.ntmps31
    go_wp2_with (go_at_call 15; refine (valid_any _ _ _ _ _ h).mono ?_; rw [hd']; rintro e w' ⟨rfl, rfl⟩)
    go_ret2
    exact ⟨rfl, rfl⟩
  · have hd' := decide_eq_false hd
    go_enter Try.func31, Try.ntmps31
    go_wp2_with (go_at_call 15; refine (valid_any _ _ _ _ _ h).mono ?_; rw [hd']; rintro e w' ⟨rfl, rfl⟩)
    go_ret2
    exact ⟨rfl, rfl⟩

/-- What Solve tells. -/
def SolveRet (w : World) (n k : Nat) (s : EState) (e : Ending) (w' : World) : Prop :=
  ((∀ i, s.piv.length ≤ i → i < n → s.R i k = 0) ∧ ∃ g, e = .returned (.tuple #[.slice (some ⟨g, 0, none⟩) k k, .int .i64 0]) ∧ Blk vb 5 w' g (mrow k (solV s k s.piv.length)) ∧ Below w.heap.size w w') ∨
  ((∃ i, s.piv.length ≤ i ∧ i < n ∧ s.R i k ≠ 0) ∧ e = .returned (.tuple #[.slice none 0 0, .int .i64 4]) ∧ Below w.heap.size w w')

set_option maxHeartbeats 2000000 in
theorem solve_any (a b : Option Addr) (n c d k : Nat) (f : Mat) (v : List Nat) (w : World) (h : RdM w a n c (mlist n k f)) (h2 : Rd vb w b n d v) (hb : Gf.Byt v) (hv : VM n k) :
    Calls Try.prog 31 #[.slice a n c, .slice b n d] w (SolveRet w n k (elimE n (aug k f (colM v)) k)) := by
  have hd := decide_eq_true (hv.valid f)
  have hc := hv.cols f
  have hn := hv.hn; have hk := hv.hk
  have e1 : ((n : Int) != (n : Int)) = false := by simp
  obtain ⟨s, hss⟩ : ∃ s, s = elimE n (aug k f (colM v)) k := ⟨_, rfl⟩
  have hech : Ech n k s := by rw [hss]; exact ech_elim n _ k
  have hpl := hech.len
  obtain ⟨t, ht⟩ : ∃ t, t = s.piv.length := ⟨_, rfl⟩
  rw [← ht] at hpl
  rw [← hss]
  have HSS := Lib.hid hss; have HT := Lib.hid ht; have HECH := Lib.hid hech
  obtain ⟨i0, hi, hz0, hz1, hz2⟩ := info_parts info5
  obtain ⟨i1, hi1, hy0, hy1, hy2⟩ := info_parts infoB
  have u0 := Try.underlying34
  have u1 := Try.underlying22
  have H := Lib.hid h; have H2 := Lib.hid h2
  clear h h2 hv hss ht hech
  go_enter Try.func31, Try.ntmps31
  go_wp2_with (first
    | (go_at_call 15; refine (valid_any _ _ _ _ _ H.out).mono ?_; rw [hd]; rintro e w' ⟨rfl, rfl⟩)
    | (go_at_call 45; refine (columns_any _ _ _ _ _ H.out).mono ?_; rw [hc]; rintro e w' ⟨rfl, rfl⟩)
    | (at_make; refine wpList_make_blk rfl (.tmp 27) (.tmp 27) 22 rfl vh (none, 0, 0) 34 i1 u1 hi1 hy0 hy1 rfl _ _ _ _ n rfl rfl rfl rfl (by rw [hy2]; omega) (by omega) ?_; intro w1 hk1 hb1 hs1; have HP1 := Lib.hid (PartR.start (k := 1) (f := colM v) hk1); have HB1 := Lib.hid hb1; clear hk1 hb1 hs1))
  go_loopw [8, 9, 31] (fun _ _ i wr => ∃ j : Nat, j ≤ n ∧ i = .int .i64 (j : Int) ∧ Hid (PartR wr w.heap.size n 1 (colM v) j) ∧ Hid (Below w.heap.size w wr)) (fun _ _ i _ => n - (intOf i).toNat)
  case atStart => exact ⟨0, by omega, rfl, HP1.out, HB1.out⟩
  case round =>
    obtain ⟨j, hj, rfl, hP, hbe⟩ := hrel
    by_cases hlt : j < n
    · have i2 : (j : Int) < (n : Int) := by omega
      obtain ⟨x, hx⟩ : ∃ x, v[j]? = some x := ⟨_, List.getElem?_eq_getElem (by rw [H2.out.len]; omega)⟩
      obtain ⟨b1, o1, rfl, c1⟩ := (H2.out.fw hbe.out).cell j x hx
      have bx := hb.at hx
      unfold vb at c1
      have hb5 := below_alloc (.cells (row vb [x]) 5 (0, 0)) (below_refl wr)
      have P5 := Lib.hid (hP.out.fw hb5)
      have O5 : Hid (Own vb 0 5 (wr.alloc (.cells (row vb [x]) 5 (0, 0))) (some ⟨wr.heap.size, 0, none⟩) 1 1 (mrow 1 (colM v j))) := by
        have := (blk_new vb 5 wr [x]).own (B := 0) (Nat.zero_le _) (by simp [maxLen])
        rw [mrow_one]
        unfold colM
        rw [List.getD_eq_getElem?_getD, hx]
        show Own _ _ _ _ _ _ _ [(Fq.of x).n]
        rw [Fq.of_n bx]; exact this
      have B5 := Lib.hid hb5
      have v1 := (P5.out.cell hlt).1; have v2 := (P5.out.cell hlt).2.1
      have v1' : (wr.alloc (.cells #[.int .u8 (x : Int)] 5 (0, 0))).cell? ⟨w.heap.size, j, none⟩ = some (.slice none 0 0) := v1
      have v2' : (wr.alloc (.cells #[.int .u8 (x : Int)] 5 (0, 0))).frozen? ⟨w.heap.size, j, none⟩ = false := v2
      clear hb5 hx v1 v2
      go_wp2_with fail
      go_roundw
      case rel => exact ⟨j + 1, by omega, by go_num, P5.out.next hlt O5.out, (bt hbe.out B5.out).setCell (p := ⟨w.heap.size, j, none⟩) (Nat.le_refl _) _⟩
      case measure => simp [intOf]; omega
    · have hjn : j = n := by omega
      subst hjn
      have HM1 := Lib.hid (hP.out.done (Nat.le_refl _) (by omega)).rdm
      clear hP
      go_wp2_with (first
        | (go_at_call 46; refine (eliminate_two _ _ _ _ _ k 1 f (colM v) _ (H.out.fw hbe.out) HM1.out (by omega) (by omega)).mono ?_; rw [← HSS.out]; rintro e w2 ⟨rfl, ⟨ra, rc, pa, pc, h1, h2, h3⟩, h4⟩; rw [← HT.out] at h1 h3; have HE := Lib.hid h1; have HM2 := Lib.hid h2; have HO2 := Lib.hid h3; have HB2 := Lib.hid (bt hbe.out h4); clear h1 h2 h3 h4)
        | (at_make; refine wpList_make_blk rfl (.tmp 45) (.tmp 45) 34 rfl vb 0 5 i0 u0 hi hz0 hz1 rfl _ _ _ _ k rfl rfl rfl rfl (by rw [hz2]; omega) (by omega) ?_; intro w3 hk3 hb3 hs3; rw [mrow_zero] at hk3; have HX3 := Lib.hid hk3; have HB3 := Lib.hid hb3; have d0 := (HE.out.fw hb3).c0; have d1 := (HE.out.fw hb3).c1; have hle := HE.out.lt; clear hk3 hb3 hs3))
      clear i0 hi hz0 hz1 hz2 i1 hi1 hy0 hy1 hy2 u0 u1
      go_loopw [12, 13, 52] (fun _ _ i wr => ∃ q : Nat, q ≤ j ∧ i = .int .i64 (q : Int) ∧ Hid (Blk vb 5 wr w2.heap.size (mrow k (solV s k (min q t)))) ∧ Hid (∀ r, t ≤ r → r < q → s.R r k = 0) ∧ Hid (Below w2.heap.size w2 wr)) (fun _ _ i _ => j - (intOf i).toNat)
      case atStart => exact ⟨0, by omega, rfl, by rw [Nat.zero_min]; exact HX3.out, fun r h1 h2 => by omega, HB3.out⟩
      case round =>
        clear d0 d1
        obtain ⟨q, hq, rfl, hX, hZ, hb2⟩ := hrel
        have d1 := (HE.out.fw hb2.out).c1
        by_cases hlt : q < j
        · have i2 : (q : Int) < (j : Int) := by omega
          obtain ⟨o, rra, rrc, rfl, hBo, q1, _, how, _⟩ := HM2.out.at hlt
          have q2 := (cellBelow hb2.out (lt_of_cell q1)).trans q1
          obtain ⟨g, rfl, _, y1, _, cur, hcur⟩ := how.cell (mrow_get _ (show k < k + 1 by omega))
          have y2 := (cellBelow hb2.out (lt_of_cell y1)).trans y1
          obtain ⟨y, hy⟩ : ∃ y, y = (s.R q k).n := ⟨_, rfl⟩
          have by' : y < 256 := by rw [hy]; exact (s.R q k).h
          have HY : Hid (Fq.of y = s.R q k) := by show _ = _; rw [hy, Fq.of_val]
          rw [← hy] at y2
          unfold vb at y2
          have i3 : (k : Int) < (k : Int) + 1 := by omega
          clear how hcur q1 y1 hy
          by_cases hqt : q < t
          · have i4 : (q : Int) < (t : Int) := by omega
            obtain ⟨p, hp⟩ : ∃ p, s.piv[q]? = some p := ⟨_, List.getElem?_eq_getElem (by rw [← HT.out]; omega)⟩
            have hpk := HECH.out.lt p (List.mem_of_getElem? hp)
            obtain ⟨gp, rfl, _, z1, _, curp, hcurp⟩ := HO2.out.cell (i := q) (x := (p : Int)) (by rw [List.getElem?_map, hp]; rfl)
            have z2 := (cellBelow hb2.out (lt_of_cell z1)).trans z1
            unfold vi at z2
            have i5 : (p : Int) < (k : Int) := by omega
            obtain ⟨xv, x1⟩ : ∃ xv, wr.cell? ⟨w2.heap.size, p, none⟩ = some xv := ⟨_, hX.out.cell (mrow_get _ hpk)⟩
            have x2 := hX.out.frozen p
            have HX2 : Hid (Blk vb 5 (wr.setCell ⟨w2.heap.size, p, none⟩ (.int .u8 (y : Int))) w2.heap.size (mrow k (solV s k (min (q + 1) t)))) := by
              have := hX.out.set p y
              rw [mrow_set _ _ by'] at this
              rw [Nat.min_eq_left (show q + 1 ≤ t by omega)]
              rw [Nat.min_eq_left (show q ≤ t by omega)] at this
              rw [mrow_congr (g := fun c => if c = p then Fq.of y else solV s k q c) fun c _ => ?_]
              · exact this
              · show (if s.piv[q]? = some c then s.R q k else solV s k q c) = _
                rw [hp, HY.out]
                by_cases e : c = p
                · rw [if_pos e, e, if_pos rfl]
                · rw [if_neg e, if_neg (fun h => e (by cases h; rfl))]
            have hZ2 : Hid (∀ r, t ≤ r → r < q + 1 → s.R r k = 0) := fun r h1 h2 => by omega
            clear hp z1 hcurp hX
            go_wp2_with fail
            go_still_tail 13, (by kernel_rfl)
            change wpList _ _ _ _ _ wr.drew
            go_wp2_with fail
            go_roundw
            case rel => exact ⟨q + 1, by omega, by go_num, HX2.out.fw (below_refl _).drew, hZ2.out, (hb2.out.setCell (p := ⟨w2.heap.size, p, none⟩) (Nat.le_refl _) _).drew⟩
            case measure => simp [intOf]; omega
          · have i4 : decide ((q : Int) < (t : Int)) = false := by simp; omega
            by_cases hy0 : y = 0
            · have e2 : (((y : Nat) : Int) != 0) = false := by rw [hy0]; rfl
              have hZ2 : Hid (∀ r, t ≤ r → r < q + 1 → s.R r k = 0) := fun r h1 h2 => by
                by_cases e : r = q
                · rw [e, ← HY.out, hy0]; rfl
                · exact hZ.out r h1 (by omega)
              have hX2 : Hid (Blk vb 5 wr w2.heap.size (mrow k (solV s k (min (q + 1) t)))) := by
                have := hX.out
                rw [Nat.min_eq_right (show t ≤ q by omega)] at this
                rw [Nat.min_eq_right (show t ≤ q + 1 by omega)]; exact this
              clear hy0
              go_wp2_with fail
              go_roundw
              case rel => exact ⟨q + 1, by omega, by go_num, hX2.out, hZ2.out, hb2.out⟩
              case measure => simp [intOf]; omega
            · have e2 : (((y : Nat) : Int) != 0) = true := by simp; omega
              have hne : Hid (∃ i, s.piv.length ≤ i ∧ i < j ∧ s.R i k ≠ 0) := ⟨q, by rw [← HT.out]; omega, hlt, fun e => hy0 (by rw [← HY.out] at e; exact (Fq.of_eq_zero by').1 e)⟩
              clear hy0
              go_wp2_with fail
              go_ret2
              exact .inr ⟨hne.out, rfl, bt HB2.out hb2.out⟩
        · have hqj : q = j := by omega
          subst hqj
          have hX2 : Hid (Blk vb 5 wr w2.heap.size (mrow k (solV s k s.piv.length))) := by
            have := hX.out
            rw [Nat.min_eq_right hpl, HT.out] at this
            exact this
          go_wp2_with fail
          go_ret2
          exact .inl ⟨fun i h1 h2 => hZ.out i (by rw [HT.out]; exact h1) h2, w2.heap.size, rfl, hX2.out, bt HB2.out hb2.out⟩
end Go.Proofs.Ytchhfpaicdhjbaa
