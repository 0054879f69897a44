/- QuotaReturns: the walk. -/
import Derived.Test.YtpecepfnmkpmmaaWQApp
import Derived.Test.YtpecepfnmkpmmaaRd
import Derived.Test.YtpecepfnmkpmmaaQl
namespace Go.Proofs.Ytpecepfnmkpmmaa
open Go.RowKit Go.Kin Quo
set_option maxRecDepth 100000
set_option linter.unusedVariables false
theorem rda_one {w : World} {g : Nat} {m : Mz} {T : TypeId} (h : w.heap[g]? = some (.cells #[.int .i64 m.fr, .int .i64 m.dst, .int .i64 m.ow, .int .i64 m.amt] T (0, 0))) : RdA vmz 4 w (some ⟨g, 0, none⟩) 1 1 [m] := by
  refine ⟨rfl, Nat.le_refl _, by simp [maxLen], fun i x hx => ⟨g, 0, rfl, fun k v hk => ?_⟩⟩
  have hi : i = 0 := by have := (List.getElem?_eq_some_iff.1 hx).1; simp at this; omega
  subst hi
  cases hx
  rw [show 0 + 0 * 4 + k = k by omega, cell_of_row w g k _ _ _ h, ← hk]
  exact Array.getElem?_toList.symm
set_option maxHeartbeats 8000000 in
theorem walk_QuotaReturns (ta : Option Addr) (n tc : Nat) (T : Tab) (m : Mz) (w : World) (h : RdT w ta n tc T) (hy : ∀ m ∈ T, ∀ z ∈ m, -9223372036854775808 ≤ z ∧ z ≤ 9223372036854775807) (hb : I64 m.fr ∧ I64 m.dst ∧ I64 m.ow ∧ I64 m.amt) :
    Calls Try.prog 12 #[.slice ta n tc, .agg #[.int .i64 m.fr, .int .i64 m.dst, .int .i64 m.ow, .int .i64 m.amt]] w fun e w' => e = .returned (.bool true) ∧ Below w.heap.size w w' := by
  have hlim := h.lim
  clear hy hb
  have hba := below_alloc (.cells #[.int .i64 m.fr, .int .i64 m.dst, .int .i64 m.ow, .int .i64 m.amt] 48) (below_refl w)
  have HBA := Lib.hid hba
  have hnew : Hid ((w.alloc (.cells #[.int .i64 m.fr, .int .i64 m.dst, .int .i64 m.ow, .int .i64 m.amt] 48)).heap[w.heap.size]? = some (.cells #[.int .i64 m.fr, .int .i64 m.dst, .int .i64 m.ow, .int .i64 m.amt] 48 (0, 0))) := heap_alloc_new w _
  have H0 := Lib.hid (h.fw hba)
  have hlen := Lib.hid h.len
  clear h hba
  go_enter Try.func12, Try.ntmps12
  by_cases h12 : 12 < n
  · go_wp2_with (first
      | (go_at_call 14; refine (awake_any _).mono ?_; rintro e w1 ⟨rfl, b1⟩; have B1 := Lib.hid (bt HBA.out b1); clear b1)
      | fail)
    go_ret
    exact ⟨rfl, B1.out⟩
  · go_upto_region 5 with (first
      | (go_at_call 14; refine (awake_any _).mono ?_; rintro e w1 ⟨rfl, b1⟩; have H1 := Lib.hid (H0.out.fw b1); have B1 := Lib.hid (bt HBA.out b1); have N1 := Lib.hid ((b1.block _ (Array.getElem?_eq_some_iff.1 hnew.out).1).trans hnew.out); clear b1)
      | fail)
    have hgm : ∃ gm, gm = w.heap.size := ⟨_, rfl⟩
    obtain ⟨gm, hgm⟩ := hgm
    rw [← hgm] at N1 ⊢
    have HGM := Lib.hid hgm
    clear hgm
    have f0 : w1.cell? ⟨gm, 0, none⟩ = some (.int .i64 m.fr) := by rw [cell_of_row w1 gm 0 _ _ _ N1.out]; rfl
    have f1 : w1.cell? ⟨gm, 1, none⟩ = some (.int .i64 m.dst) := by rw [cell_of_row w1 gm 1 _ _ _ N1.out]; rfl
    have f2 : w1.cell? ⟨gm, 2, none⟩ = some (.int .i64 m.ow) := by rw [cell_of_row w1 gm 2 _ _ _ N1.out]; rfl
    have f3 : w1.cell? ⟨gm, 3, none⟩ = some (.int .i64 m.amt) := by rw [cell_of_row w1 gm 3 _ _ _ N1.out]; rfl
    have ba2 := below_alloc (.cells #[.int .i64 m.fr, .int .i64 m.dst, .int .i64 m.ow, .int .i64 m.amt] 47 (0, 0)) (below_refl w1)
    have BA2 := Lib.hid ba2
    have RM : Hid (RdA vmz 4 (w1.alloc (.cells #[.int .i64 m.fr, .int .i64 m.dst, .int .i64 m.ow, .int .i64 m.amt] 47 (0, 0))) (some ⟨w1.heap.size, 0, none⟩) 1 1 [m]) := rda_one (heap_alloc_new w1 _)
    have H2 := Lib.hid (H1.out.fw ba2)
    clear ba2
    by_cases hc : (appF T [m]).1 = 0
    · obtain ⟨hV, hok, ha1, ha2, happ⟩ := appF_one_inv hc
      have HV := Lib.hid hV
      have hbk := Lib.hid (back_one hV hok ha1 ha2)
      obtain ⟨hCV, hCl⟩ := movT_vt hV hok ha1 ha2
      obtain ⟨f, t, o, e1, e2, e3, hf, ht, ho, hft, hfo, hto⟩ := hok.nat
      rw [hlen.out] at hf ht ho hCl
      have hamt : 1 ≤ m.amt ∧ m.amt ≤ 1099511627776 := ⟨hok.2.2.2.2.2.2.2.2.2.1, hok.2.2.2.2.2.2.2.2.2.2⟩
      have HBM : Hid (∀ d, d < n → (balF (movT T m)).getD d 0 = (balF T).getD d 0 + (if d = f then m.amt else 0) - (if d = t then m.amt else 0)) := fun d hd => bal_mov hV hlen.out e1 e2 e3 hf ht ho hft hCV hCl hd
      have HAPP := Lib.hid happ
      have HCV := Lib.hid hCV; have HCL := Lib.hid hCl
      have E1 := Lib.hid e1; have E2 := Lib.hid e2; have E3 := Lib.hid e3
      have HN12 : n ≤ 12 := by omega
      have z0 : ((n : Int) != (n : Int)) = false := by simp
      clear hc hV hok ha1 ha2 happ hCV hCl e1 e2 e3
      go_upto_region 8 with (first
        | (go_at_call 34; refine (apply_any _ _ _ T _ _ _ [m] _ H2.out RM.out).mono ?_; rw [HAPP.out]; rintro e w3 ⟨ra, rc, rfl, r3, b3⟩; dsimp only at r3 ⊢; rw [HCL.out] at r3 ⊢; have R3 := Lib.hid r3; have B3 := Lib.hid (bt B1.out (bt BA2.out b3)); have BX3 := Lib.hid (bt BA2.out b3); have H3 := Lib.hid (H2.out.fw b3); clear r3 b3)
        | fail)
      have N3 := Lib.hid ((BX3.out.block _ (Array.getElem?_eq_some_iff.1 N1.out).1).trans N1.out)
      clear f0 f1 f2 f3
      have f0 : w3.cell? ⟨gm, 0, none⟩ = some (.int .i64 m.fr) := by rw [cell_of_row w3 gm 0 _ _ _ N3.out]; rfl
      have f1 : w3.cell? ⟨gm, 1, none⟩ = some (.int .i64 m.dst) := by rw [cell_of_row w3 gm 1 _ _ _ N3.out]; rfl
      have f2 : w3.cell? ⟨gm, 2, none⟩ = some (.int .i64 m.ow) := by rw [cell_of_row w3 gm 2 _ _ _ N3.out]; rfl
      have f3 : w3.cell? ⟨gm, 3, none⟩ = some (.int .i64 m.amt) := by rw [cell_of_row w3 gm 3 _ _ _ N3.out]; rfl
      have ba4 := below_alloc (.cells #[.int .i64 m.dst, .int .i64 m.fr, .int .i64 m.ow, .int .i64 m.amt] 47 (0, 0)) (below_refl w3)
      have BA4 := Lib.hid ba4
      have RM4 : Hid (RdA vmz 4 (w3.alloc (.cells #[.int .i64 m.dst, .int .i64 m.fr, .int .i64 m.ow, .int .i64 m.amt] 47 (0, 0))) (some ⟨w3.heap.size, 0, none⟩) 1 1 [backM m]) := rda_one (m := backM m) (heap_alloc_new w3 _)
      have R4 := Lib.hid (R3.out.fw ba4)
      clear ba4
      go_upto_region 9 with (first
        | (go_at_call 34; refine (apply_any _ _ _ (movT T m) _ _ _ [backM m] _ R4.out RM4.out).mono ?_; rw [hbk.out]; rintro e w5 ⟨rb, rcb, rfl, r5, b5⟩; dsimp only at r5 ⊢; rw [hlen.out] at r5 ⊢; have R5 := Lib.hid r5; have B5 := Lib.hid (bt B3.out (bt BA4.out b5)); have BX5 := Lib.hid (bt BA4.out b5); have H5 := Lib.hid (H3.out.fw (bt BA4.out b5)); have C5 := Lib.hid (R4.out.fw b5); clear r5 b5)
        | fail)
      have N5 := Lib.hid ((BX5.out.block _ (Array.getElem?_eq_some_iff.1 N3.out).1).trans N3.out)
      clear f0 f1 f2 f3
      go_wp2_with (first
        | (go_at_call_of 17 ta; refine (Balance_any _ _ _ T _ H5.out HV.out).mono ?_; rintro e w6 ⟨g6, rfl, hg6, r6, b6⟩; have H6 := Lib.hid (H5.out.fw b6); have C6 := Lib.hid (C5.out.fw b6); have R6 := Lib.hid (R5.out.fw b6); have B6 := Lib.hid (bt B5.out b6); have A6 := Lib.hid r6; have N6 := Lib.hid ((b6.block _ (Array.getElem?_eq_some_iff.1 N5.out).1).trans N5.out); clear hg6 r6 b6)
        | (go_at_call_of 17 ra; refine (Balance_any _ _ _ (movT T m) _ C6.out HCV.out).mono ?_; rintro e w7 ⟨g7, rfl, hg7, r7, b7⟩; have H7 := Lib.hid (H6.out.fw b7); have R7 := Lib.hid (R6.out.fw b7); have B7 := Lib.hid (bt B6.out b7); have A7 := Lib.hid (A6.out.fw b7); have D7 := Lib.hid r7; have N7 := Lib.hid ((b7.block _ (Array.getElem?_eq_some_iff.1 N6.out).1).trans N6.out); clear hg7 r7 b7)
        | (go_at_call 24; refine (tsame_same _ _ _ _ _ _ T _ R7.out H7.out).mono ?_; rintro e w8 ⟨rfl, hd8⟩; have B8 := Lib.hid (bt B7.out hd8.fw); have A8 := Lib.hid (A7.out.fw hd8.fw); have D8 := Lib.hid (D7.out.fw hd8.fw); have N8 := Lib.hid ((hd8.fw.block _ (Array.getElem?_eq_some_iff.1 N7.out).1).trans N7.out); clear hd8)
        | fail)
      have f0 : w8.cell? ⟨gm, 0, none⟩ = some (.int .i64 (f : Int)) := by rw [cell_of_row w8 gm 0 _ _ _ N8.out, E1.out]; rfl
      have f1 : w8.cell? ⟨gm, 1, none⟩ = some (.int .i64 (t : Int)) := by rw [cell_of_row w8 gm 1 _ _ _ N8.out, E2.out]; rfl
      obtain ⟨b, hbb⟩ : ∃ b, b = m.amt := ⟨_, rfl⟩
      have f3 : w8.cell? ⟨gm, 3, none⟩ = some (.int .i64 b) := by rw [cell_of_row w8 gm 3 _ _ _ N8.out, hbb]; rfl
      rw [← hbb] at hamt HBM
      have HBB := Lib.hid hbb
      clear hbb
      go_loopw [13, 14] (fun i _ wr => ∃ d : Nat, d ≤ n ∧ i = .int .i64 (d : Int) ∧ wr = w8) (fun i _ _ => n - (intOf i).toNat)
      case atStart => exact ⟨0, by omega, rfl, rfl⟩
      case round =>
        obtain ⟨d, hdn, rfl, rfl⟩ := hrel
        by_cases hlt : d < n
        · have i3 : (d : Int) < (n : Int) := by omega
          have x0 : (balF T)[d]? = some ((balF T).getD d 0) := get_some (by rw [bal_length, hlen.out]; exact hlt) 0
          have y0 : (balF (movT T m))[d]? = some ((balF (movT T m)).getD d 0) := get_some (by rw [bal_length, HCL.out]; exact hlt) 0
          have xb := bal_bound HV.out (i := d) (by rw [hlen.out]; exact hlt)
          have hbm := HBM.out d hlt
          obtain ⟨x, hx⟩ : ∃ x, x = (balF T).getD d 0 := ⟨_, rfl⟩
          obtain ⟨y, hy⟩ : ∃ y, y = (balF (movT T m)).getD d 0 := ⟨_, rfl⟩
          rw [← hx] at x0 xb hbm; rw [← hy] at y0 hbm
          have c1 := A8.out.cell x0
          have c2 := D8.out.cell y0
          unfold vi at c1 c2
          unfold maxC at xb
          have k1 := iwq (a := x + b) (by omega)
          have k2 := w64q (a := x + b) (by omega)
          have k3 := iwq (a := x - b) (by omega)
          have k4 := w64q (a := x - b) (by omega)
          clear x0 y0 xb hx hy
          by_cases hdf : d = f
          · have e1 : ((d : Int) == (f : Int)) = true := by simp; omega
            have e2 : ((d : Int) == (t : Int)) = false := by simp; omega
            have hyv : y = x + b := by rw [if_pos hdf, if_neg (by omega)] at hbm; omega
            subst hyv
            have e3 : (x + b != x + b) = false := by simp
            clear hbm hdf
            go_wp2_with fail
            go_roundw
            case rel => exact ⟨d + 1, by omega, by go_num, by trivial⟩
            case measure => simp [intOf]; omega
          · by_cases hdt : d = t
            · have e1 : ((d : Int) == (f : Int)) = false := by simp; omega
              have e2 : ((d : Int) == (t : Int)) = true := by simp; omega
              have hyv : y = x - b := by rw [if_neg hdf, if_pos hdt] at hbm; omega
              subst hyv
              have e3 : (x - b != x - b) = false := by simp
              clear hbm hdf hdt
              go_wp2_with fail
              go_roundw
              case rel => exact ⟨d + 1, by omega, by go_num, by trivial⟩
              case measure => simp [intOf]; omega
            · have e1 : ((d : Int) == (f : Int)) = false := by simp; omega
              have e2 : ((d : Int) == (t : Int)) = false := by simp; omega
              have hyv : y = x := by rw [if_neg hdf, if_neg hdt] at hbm; omega
              subst hyv
              have e3 : (y != y) = false := by simp
              clear hbm hdf hdt
              go_wp2_with fail
              go_roundw
              case rel => exact ⟨d + 1, by omega, by go_num, by trivial⟩
              case measure => simp [intOf]; omega
        · go_wp2_with fail
          go_ret
          exact ⟨rfl, B8.out⟩
    · have HNIL := Lib.hid (appF_nil hc)
      obtain ⟨cd, hcd⟩ : ∃ cd, cd = (appF T [m]).1 := ⟨_, rfl⟩
      rw [← hcd] at hc
      have z1 : (cd != 0) = true := by simpa using hc
      have HCD := Lib.hid hcd
      clear hc hcd
      go_wp2_with (first
        | (go_at_call 34; refine (apply_any _ _ _ T _ _ _ [m] _ H2.out RM.out).mono ?_; rintro e w3 ⟨ra, rc, rfl, r3, b3⟩; rw [← HCD.out, HNIL.out]; have B3 := Lib.hid (bt B1.out (bt BA2.out b3)); clear r3 b3)
        | fail)
      go_ret
      exact ⟨ret_bool (by first | rfl | simp), B3.out⟩
end Go.Proofs.Ytpecepfnmkpmmaa
