/- matrix.Identity, Cauchy, Vandermonde, Transpose, Apply. -/
import Derived.Test.YtchhfpaicdhjbaaMt
import Derived.Test.YtchhfpaicdhjbaaMk
namespace Go.Proofs.Ytchhfpaicdhjbaa
open Go.RowKit Go.Kin Mat
open Fq (sum)
set_option maxRecDepth 100000
set_option linter.unusedVariables false

theorem inr_ok (n : Int) (w : World) (h0 : 0 ≤ n) (h1 : n ≤ 64) :
    Calls Try.prog 49 #[.int .i64 n] w fun e w' => e = .returned (.bool true) ∧ w = w' := by
  go_enter Try.func49, Try.ntmps49
  go_wp2
  go_ret
  exact ⟨rfl, rfl⟩
theorem inr_bad (n : Int) (w : World) (h : ¬ (0 ≤ n ∧ n ≤ 64)) :
    Calls Try.prog 49 #[.int .i64 n] w fun e w' => e = .returned (.bool false) ∧ w = w' := by
  by_cases h0 : 0 ≤ n
  · have h1 : ¬ n ≤ 64 := fun h1 => h ⟨h0, h1⟩
    have e1 : decide (n ≤ 64) = false := by simp; omega
    clear h
    go_enter Try.func49, Try.ntmps49
    go_wp2
    go_ret
    exact ⟨rfl, rfl⟩
  · have e1 : decide (0 ≤ n) = false := by simp; omega
    clear h
    go_enter Try.func49, Try.ntmps49
    go_wp2
    go_ret
    exact ⟨rfl, rfl⟩

def inR (n : Int) : Bool := decide (0 ≤ n ∧ n ≤ 64)
theorem inr_any (n : Int) (w : World) :
    Calls Try.prog 49 #[.int .i64 n] w fun e w' => e = .returned (.bool (inR n)) ∧ w = w' := by
  by_cases h : 0 ≤ n ∧ n ≤ 64
  · refine (inr_ok n w h.1 h.2).mono fun _ _ ⟨he, hw⟩ => ⟨?_, hw⟩
    rw [he]; unfold inR; rw [decide_eq_true h]
  · refine (inr_bad n w h).mono fun _ _ ⟨he, hw⟩ => ⟨?_, hw⟩
    rw [he]; unfold inR; rw [decide_eq_false h]
theorem ident_bad (n : Int) (w : World) (h : ¬ (0 ≤ n ∧ n ≤ 64)) :
    Calls Try.prog 35 #[.int .i64 n] w fun e w' => e = .returned (.slice none 0 0) ∧ w = w' := by
  have H := Lib.hid h
  clear h
  go_enter Try.func35, Try.ntmps35
  go_wp2_with (go_at_call 49; refine (inr_bad _ _ H.out).mono ?_; rintro e w' ⟨rfl, rfl⟩)
  go_ret
  exact ⟨rfl, rfl⟩
theorem ident_any (n : Nat) (w : World) (hn : n ≤ 64) :
    Calls Try.prog 35 #[.int .i64 (n : Int)] w fun e w' => ∃ o, e = .returned (.slice (some ⟨o, 0, none⟩) n n) ∧ MatB w' w.heap.size (some ⟨o, 0, none⟩) n n n idm ∧ Below w.heap.size w w' := by
  go_enter Try.func35, Try.ntmps35
  go_wp2_with (first
    | (go_at_call 49; refine (inr_ok _ _ (by omega) (by omega)).mono ?_; rintro e w' ⟨rfl, rfl⟩)
    | (go_at_call 50; refine (zeros_any n n _ (by omega) (by omega)).mono ?_; rintro e w1 ⟨o, rfl, hM1, hb1⟩; have HM1 := Lib.hid hM1; have HB1 := Lib.hid hb1; clear hM1 hb1))
  go_loopw [4, 13] (fun _ i wr => ∃ j : Nat, j ≤ n ∧ i = .int .i64 (j : Int) ∧ Hid (MatB wr w.heap.size (some ⟨o, 0, none⟩) n n n (fun a b => if a < j ∧ a = b then 1 else 0)) ∧ Hid (Below w.heap.size w wr)) (fun _ i _ => n - (intOf i).toNat)
  case atStart => exact ⟨0, by omega, rfl, HM1.out.congr fun a b _ _ => by rw [if_neg (by omega)], HB1.out⟩
  case round =>
    obtain ⟨j, hj, rfl, hM, hbe⟩ := hrel
    by_cases hlt : j < n
    · have i2 : (j : Int) < (n : Int) := by omega
      obtain ⟨o', g, ho', hBo, hBg, c1, hK, hset⟩ := hM.out.at hlt
      cases ho'
      obtain ⟨z, c2⟩ : ∃ z, wr.cell? ⟨g, j, none⟩ = some z := ⟨_, hK.cell (mrow_get _ hlt)⟩
      have f2 := hK.frozen j
      have HS := Lib.hid (hset j 1 (by omega))
      clear hK hset
      go_wp2_with fail
      go_roundw
      case rel =>
        refine ⟨j + 1, by omega, by go_num, HS.out.congr fun a b _ _ => ?_, hbe.out.setCell (p := ⟨g, j, none⟩) hBg _⟩
        unfold setEl
        by_cases h : a = j ∧ b = j
        · rw [if_pos h, if_pos (by omega)]; rfl
        · rw [if_neg h]
          show (if a < j ∧ a = b then (1 : Fq) else 0) = _
          by_cases h2 : a < j ∧ a = b
          · rw [if_pos h2, if_pos (by omega)]
          · rw [if_neg h2, if_neg (by omega)]
      case measure => simp [intOf]; omega
    · have hjr : j = n := by omega
      subst hjr
      go_wp2_with fail
      go_ret
      refine ⟨o, rfl, hM.out.congr fun a b ha _ => ?_, hbe.out⟩
      unfold idm
      by_cases h : a = b
      · rw [if_pos ⟨ha, h⟩, if_pos h]
      · rw [if_neg (fun h2 => h h2.2), if_neg h]

theorem cauchy_bad (r k : Int) (w : World) (h : ¬ (0 ≤ r ∧ r ≤ 64) ∨ ¬ (0 ≤ k ∧ k ≤ 64)) :
    Calls Try.prog 34 #[.int .i64 r, .int .i64 k] w fun e w' => e = .returned (.tuple #[.slice none 0 0, .int .i64 1]) ∧ w = w' := by
  by_cases h1 : 0 ≤ r ∧ r ≤ 64
  · have h2 : ¬ (0 ≤ k ∧ k ≤ 64) := h.resolve_left (fun h => h h1)
    have H1 : inR r = true := decide_eq_true h1
    have H2 : inR k = false := decide_eq_false h2
    clear h h1 h2
    go_enter Try.func34, Try.ntmps34
    go_wp2_with (go_at_call 49; refine (inr_any _ _).mono ?_; rintro e w' ⟨rfl, rfl⟩)
    go_ret2
    exact ⟨rfl, rfl⟩
  · have H1 : inR r = false := decide_eq_false h1
    clear h h1
    go_enter Try.func34, Try.ntmps34
    go_wp2_with (go_at_call 49; refine (inr_any _ _).mono ?_; rintro e w' ⟨rfl, rfl⟩)
    go_ret2
    exact ⟨rfl, rfl⟩
theorem vander_bad (r k : Int) (w : World) (h : ¬ (0 ≤ r ∧ r ≤ 64) ∨ ¬ (0 ≤ k ∧ k ≤ 64)) :
    Calls Try.prog 42 #[.int .i64 r, .int .i64 k] w fun e w' => e = .returned (.tuple #[.slice none 0 0, .int .i64 1]) ∧ w = w' := by
  by_cases h1 : 0 ≤ r ∧ r ≤ 64
  · have h2 : ¬ (0 ≤ k ∧ k ≤ 64) := h.resolve_left (fun h => h h1)
    have H1 : inR r = true := decide_eq_true h1
    have H2 : inR k = false := decide_eq_false h2
    clear h h1 h2
    go_enter Try.func42, Try.ntmps42
    go_wp2_with (go_at_call 49; refine (inr_any _ _).mono ?_; rintro e w' ⟨rfl, rfl⟩)
    go_ret2
    exact ⟨rfl, rfl⟩
  · have H1 : inR r = false := decide_eq_false h1
    clear h h1
    go_enter Try.func42, Try.ntmps42
    go_wp2_with (go_at_call 49; refine (inr_any _ _).mono ?_; rintro e w' ⟨rfl, rfl⟩)
    go_ret2
    exact ⟨rfl, rfl⟩

set_option maxHeartbeats 1000000 in
theorem cauchy_any (r k : Nat) (w : World) (hr : r ≤ 64) (hk : k ≤ 64) :
    Calls Try.prog 34 #[.int .i64 (r : Int), .int .i64 (k : Int)] w fun e w' => ∃ o, e = .returned (.tuple #[.slice (some ⟨o, 0, none⟩) r r, .int .i64 0]) ∧ MatB w' w.heap.size (some ⟨o, 0, none⟩) r r k (cauchyM k) ∧ Below w.heap.size w w' := by
  go_enter Try.func34, Try.ntmps34
  go_wp2_with (first
    | (go_at_call 49; refine (inr_ok _ _ (by omega) (by omega)).mono ?_; rintro e w' ⟨rfl, rfl⟩)
    | (go_at_call 50; refine (zeros_any r k _ (by omega) (by omega)).mono ?_; rintro e w1 ⟨o, rfl, hM1, hb1⟩; have HM1 := Lib.hid hM1; have HB1 := Lib.hid hb1; clear hM1 hb1))
  go_loopw [7, 8, 9, 23] (fun _ _ _ i wr => ∃ j : Nat, j ≤ r ∧ i = .int .i64 (j : Int) ∧ Hid (MatB wr w.heap.size (some ⟨o, 0, none⟩) r r k (grid (cauchyM k) j 0)) ∧ Hid (Below w.heap.size w wr)) (fun _ _ _ i _ => r - (intOf i).toNat)
  case atStart => exact ⟨0, by omega, rfl, HM1.out.congr fun a b _ _ => by rw [grid_zero], HB1.out⟩
  case round =>
    obtain ⟨j, hj, rfl, hM, hbe⟩ := hrel
    by_cases hlt : j < r
    · have i2 : (j : Int) < (r : Int) := by omega
      obtain ⟨o', g, ho', hBo, hBg, c1, _, _⟩ := hM.out.at hlt
      cases ho'
      go_wp2_with fail
      go_loopw [9, 30] (fun _ i wr => ∃ c : Nat, c ≤ k ∧ i = .int .i64 (c : Int) ∧ Hid (MatB wr w.heap.size (some ⟨o, 0, none⟩) r r k (grid (cauchyM k) j c)) ∧ wr.cell? ⟨o, j, none⟩ = some (.slice (some ⟨g, 0, none⟩) k k) ∧ Hid (Below w.heap.size w wr)) (fun _ i _ => k - (intOf i).toNat)
      case atStart => exact ⟨0, by omega, rfl, hM.out, c1, hbe.out⟩
      case round =>
        clear c1
        obtain ⟨c, hc, rfl, hM2, c1, hbe2⟩ := hrel
        by_cases hlc : c < k
        · have i3 : (c : Int) < (k : Int) := by omega
          obtain ⟨o', g2, ho', hBo2, hBg2, c2, hK, hset⟩ := hM2.out.at hlt
          cases ho'
          rw [c1] at c2
          cases c2
          obtain ⟨z, d2⟩ : ∃ z, wr.cell? ⟨g, c, none⟩ = some z := ⟨_, hK.cell (mrow_get _ hlc)⟩
          have f2 := hK.frozen c
          obtain ⟨x, hx⟩ : ∃ x, x = (k + j) ^^^ c := ⟨_, rfl⟩
          have x1 : x < 256 := by rw [hx]; exact Gf.xor_lt (by omega) (by omega)
          have x0 : 0 < x := by have := xor_ne (a := k + j) (b := c) (by omega); omega
          have X : bits .xor .i64 ((k : Int) + (j : Int)) (c : Int) = ((x : Nat) : Int) := by
            have := i64_xor_nat (k + j) c (by omega) (by omega)
            rw [hx, ← this]; simp
          have HX : Hid (Fq.of (Gf.inv x) = cauchyM k j c) := by show _ = _; rw [Fq.of_inv x1, hx]; rfl
          have HS := Lib.hid (hset c (Gf.inv x) (Gf.inv_lt x x1))
          have hgo : (⟨o, j, none⟩ : Addr) ≠ ⟨g, c, none⟩ := by
            intro e
            cases e
            rw [d2] at c1
            have := hK.cell (mrow_get _ hlc)
            rw [d2, c1] at this
            cases this
          have C1 : Hid ((wr.setCell ⟨g, c, none⟩ (.int .u8 ((Gf.inv x : Nat) : Int))).cell? ⟨o, j, none⟩ = some (.slice (some ⟨g, 0, none⟩) k k)) := by
            show _ = _
            rw [World.cell?_setCell_other _ _ _ _ (Ne.symm hgo)]; exact c1
          clear hK hset hx
          go_wp2_with (go_at_call 51; refine (inv_any _ _ (by omega) (by omega)).mono ?_; rintro e w' ⟨rfl, rfl⟩)
          go_roundw
          case rel =>
            refine ⟨c + 1, by omega, by go_num, HS.out.congr fun a b _ _ => ?_, C1.out, hbe2.out.setCell (p := ⟨g, c, none⟩) hBg2 _⟩
            rw [HX.out, grid_step]
          case measure => simp [intOf]; omega
        · have hck : c = k := by omega
          subst hck
          go_wp2_with fail
          go_roundw
          case rel => exact ⟨j + 1, by omega, by go_num, hM2.out.congr fun a b _ hb => grid_row _ _ _ _ _ hb, hbe2.out⟩
          case measure => simp [intOf]; omega
    · have hjr : j = r := by omega
      subst hjr
      go_wp2_with fail
      go_ret2
      exact ⟨o, rfl, hM.out.congr fun a b ha _ => grid_done _ _ _ _ ha, hbe.out⟩
theorem pow_v (i c x : Nat) (w : World) (hi : i < 256) (hx : x = (vanderM i c).n) :
    Calls Try.prog 52 #[.int .u8 (i : Int), .int .i64 (c : Int)] w fun e w' => e = .returned (.tuple #[.int .u8 (x : Int), .int .i64 0]) ∧ Below w.heap.size w w' := by
  have hp : ∀ c, (Fq.pow (Fq.of i) c).n = Gf.powN i c := by
    intro c
    induction c with
    | zero => rfl
    | succ c ih => show ((Fq.pow (Fq.of i) c) * Fq.of i).n = _; rw [Fq.mul_n, ih, Fq.of_n hi]; rfl
  rcases Nat.eq_zero_or_pos i with e | e
  · subst e
    refine (pow_zero_pos (c : Int) w (by omega)).mono fun e w' ⟨he, hb⟩ => ⟨?_, hb⟩
    rw [he, hx]
    unfold vanderM
    rw [hp]
    cases c with
    | zero => rfl
    | succ c =>
      rw [if_neg (by omega)]
      show _ = Ending.returned (Value.tuple #[.int .u8 ((Gf.mul (Gf.powN 0 c) 0 : Nat) : Int), _])
      rw [Gf.mul_zero]; rfl
  · refine (pow_anyZ (i : Int) (c : Int) w (by omega) (by omega)).mono fun e' w' ⟨he, hb⟩ => ⟨?_, hb⟩
    rw [he, hx, Int.toNat_natCast, Gf.powZ_nat i hi (by omega)]
    unfold vanderM
    rw [hp]

set_option maxHeartbeats 1000000 in
theorem vander_any (r k : Nat) (w : World) (hr : r ≤ 64) (hk : k ≤ 64) :
    Calls Try.prog 42 #[.int .i64 (r : Int), .int .i64 (k : Int)] w fun e w' => ∃ o, e = .returned (.tuple #[.slice (some ⟨o, 0, none⟩) r r, .int .i64 0]) ∧ MatB w' w.heap.size (some ⟨o, 0, none⟩) r r k vanderM ∧ Below w.heap.size w w' := by
  go_enter Try.func42, Try.ntmps42
  go_wp2_with (first
    | (go_at_call 49; refine (inr_ok _ _ (by omega) (by omega)).mono ?_; rintro e w' ⟨rfl, rfl⟩)
    | (go_at_call 50; refine (zeros_any r k _ (by omega) (by omega)).mono ?_; rintro e w1 ⟨o, rfl, hM1, hb1⟩; have HM1 := Lib.hid hM1; have HB1 := Lib.hid hb1; clear hM1 hb1))
  go_loopw [7, 8, 9, 23] (fun _ _ _ i wr => ∃ j : Nat, j ≤ r ∧ i = .int .i64 (j : Int) ∧ Hid (MatB wr w.heap.size (some ⟨o, 0, none⟩) r r k (grid vanderM j 0)) ∧ Hid (Below w.heap.size w wr)) (fun _ _ _ i _ => r - (intOf i).toNat)
  case atStart => exact ⟨0, by omega, rfl, HM1.out.congr fun a b _ _ => by rw [grid_zero], HB1.out⟩
  case round =>
    obtain ⟨j, hj, rfl, hM, hbe⟩ := hrel
    by_cases hlt : j < r
    · have i2 : (j : Int) < (r : Int) := by omega
      obtain ⟨o', g, ho', hBo, hBg, c1, _, _⟩ := hM.out.at hlt
      cases ho'
      go_wp2_with fail
      go_loopw [9, 30] (fun _ i wr => ∃ c : Nat, c ≤ k ∧ i = .int .i64 (c : Int) ∧ Hid (MatB wr w.heap.size (some ⟨o, 0, none⟩) r r k (grid vanderM j c)) ∧ wr.cell? ⟨o, j, none⟩ = some (.slice (some ⟨g, 0, none⟩) k k) ∧ Hid (Below w.heap.size w wr)) (fun _ i _ => k - (intOf i).toNat)
      case atStart => exact ⟨0, by omega, rfl, hM.out, c1, hbe.out⟩
      case round =>
        clear c1
        obtain ⟨c, hc, rfl, hM2, c1, hbe2⟩ := hrel
        by_cases hlc : c < k
        · have i3 : (c : Int) < (k : Int) := by omega
          obtain ⟨o', g2, ho', hBo2, hBg2, c2, hK, hset⟩ := hM2.out.at hlt
          cases ho'
          rw [c1] at c2
          cases c2
          obtain ⟨z, d2⟩ : ∃ z, wr.cell? ⟨g, c, none⟩ = some z := ⟨_, hK.cell (mrow_get _ hlc)⟩
          have f2 := hK.frozen c
          obtain ⟨x, hx⟩ : ∃ x, x = (vanderM j c).n := ⟨_, rfl⟩
          have x1 : x < 256 := by rw [hx]; exact (vanderM j c).h
          have HX : Hid (Fq.of x = vanderM j c) := by show _ = _; rw [hx, Fq.of_val]
          have hgo : (⟨o, j, none⟩ : Addr) ≠ ⟨g, c, none⟩ := by
            intro e
            cases e
            rw [d2] at c1
            have := hK.cell (mrow_get _ hlc)
            rw [d2, c1] at this
            cases this
          have E1 := fun wx => pow_v j c x wx (by omega) hx
          clear hK hset hx
          go_wp2_with (go_at_call 52; refine (E1 _).mono ?_; rintro e w5 ⟨rfl, hb5⟩; have k1 := (cellBelow hb5 (lt_of_cell c1)).trans c1; have k2 := (cellBelow hb5 (lt_of_cell d2)).trans d2; have kf := hb5.frozen (p := ⟨g, c, none⟩) (lt_of_cell d2); rw [f2] at kf)
          have HS := Lib.hid (((hM2.out.fw hb5)).at hlt)
          go_roundw
          case rel =>
            obtain ⟨o', g3, ho', _, _, c3, _, hset3⟩ := HS.out
            cases ho'
            rw [k1] at c3
            cases c3
            refine ⟨c + 1, by omega, by go_num, (hset3 c x x1).congr fun a b _ _ => ?_, ?_, (bt hbe2.out hb5).setCell (p := ⟨g, c, none⟩) hBg2 _⟩
            rotate_left
            · rw [World.cell?_setCell_other _ _ _ _ (Ne.symm hgo)]; exact k1
            · rw [HX.out, grid_step]
          case measure => simp [intOf]; omega
        · have hck : c = k := by omega
          subst hck
          go_wp2_with fail
          go_roundw
          case rel => exact ⟨j + 1, by omega, by go_num, hM2.out.congr fun a b _ hb => grid_row _ _ _ _ _ hb, hbe2.out⟩
          case measure => simp [intOf]; omega
    · have hjr : j = r := by omega
      subst hjr
      go_wp2_with fail
      go_ret2
      exact ⟨o, rfl, hM.out.congr fun a b ha _ => grid_done _ _ _ _ ha, hbe.out⟩
end Go.Proofs.Ytchhfpaicdhjbaa
