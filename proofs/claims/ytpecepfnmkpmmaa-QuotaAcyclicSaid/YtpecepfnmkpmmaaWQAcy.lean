/- QuotaAcyclic: the walk. -/
import Derived.Test.YtpecepfnmkpmmaaQy
import Derived.Test.YtpecepfnmkpmmaaWQCan
namespace Go.Proofs.Ytpecepfnmkpmmaa
open Go.RowKit Go.Kin Quo
set_option maxRecDepth 100000
set_option linter.unusedVariables false
set_option maxHeartbeats 2000000 in
theorem qacy_ok (a : Option Addr) (n c : Nat) (T : Tab) (w : World) (h : RdT w a n c T) (hT : VT T) :
    Calls Try.prog 6 #[.slice a n c] w fun e w' => e = .returned (.bool true) ∧ Below w.heap.size w w' := by
  have hlim := h.lim
  have H := Lib.hid h
  have hlen := Lib.hid h.len
  have HV := Lib.hid hT
  have hn : n ≤ 12 := by have := hT.1; rw [hlen.out] at this; exact this
  have e1 : ((n : Int) != (n : Int)) = false := by simp
  clear h hT
  go_enter Try.func6, Try.ntmps6
  go_upto_region 6 with (first
    | (go_at_call 14; refine (awake_any _).mono ?_; rintro e w1 ⟨rfl, b1⟩; have H1 := Lib.hid (H.out.fw b1); have B1 := Lib.hid b1; clear b1)
    | (go_at_call 23; refine (cancel_ok _ _ _ T _ H1.out HV.out).mono ?_; rintro e w2 ⟨g2, C, rfl, hc2, hv2, o2, b2⟩; have H2 := Lib.hid (H1.out.fw b2); have B2 := Lib.hid (bt B1.out b2); have R2 := Lib.hid o2.rdt; have C2 := Lib.hid hc2; have V2 := Lib.hid hv2; clear hc2 o2 b2 hv2)
    | fail)
  have hfac := canc_facts C2.out HV.out
  have HF1 := Lib.hid hfac.1; have HF2 := Lib.hid hfac.2.1; have HF3 := Lib.hid hfac.2.2.1; have HF4 := Lib.hid hfac.2.2.2
  have hCl : Hid (C.length = n) := by show _ = _; rw [HF4.out, hlen.out]
  have hord : ordF C n = true := no_cyc_ord V2.out hCl.out HF3.out
  clear hfac
  go_wp2_with (first
    | (go_at_call_of 17 a; refine (Balance_any _ _ _ T _ H2.out HV.out).mono ?_; rintro e w3 ⟨g3, rfl, hg3, r3, b3⟩; have H3 := Lib.hid (H2.out.fw b3); have R3 := Lib.hid (R2.out.fw b3); have B3 := Lib.hid (bt B2.out b3); have A3 := Lib.hid r3; clear hg3 r3 b3)
    | (go_at_call_of 17 g2; refine (Balance_any _ _ _ C _ R3.out V2.out).mono ?_; rintro e w4 ⟨g4, rfl, hg4, r4, b4⟩; rw [HF1.out] at r4; have H4 := Lib.hid (H3.out.fw b4); have R4 := Lib.hid (R3.out.fw b4); have B4 := Lib.hid (bt B3.out b4); have A4 := Lib.hid (A3.out.fw b4); have D4 := Lib.hid r4; clear hg4 r4 b4)
    | (go_at_call 26; refine (sints_same _ _ _ _ _ _ (balF T) _ (A4.out.rdn (by rw [bal_length, hlen.out]) (Nat.le_refl _) (by omega)) (D4.out.rdn (by rw [bal_length, hlen.out]) (Nat.le_refl _) (by omega))).mono ?_; rintro e w5 ⟨rfl, hd5⟩; have H5 := Lib.hid (H4.out.fw hd5.fw); have R5 := Lib.hid (R4.out.fw hd5.fw); have B5 := Lib.hid (bt B4.out hd5.fw); clear hd5)
    | (go_at_call 27; refine (ordered_any _ _ _ C _ R5.out V2.out).mono ?_; rw [hord]; rintro e w6 ⟨rfl, b6⟩; have H6 := Lib.hid (H5.out.fw b6); have R6 := Lib.hid (R5.out.fw b6); have B6 := Lib.hid (bt B5.out b6); clear b6)
    | fail)
  go_loopw [9, 10] (fun i _ wr => ∃ j : Nat, j ≤ n ∧ i = .int .i64 (j : Int) ∧ Hid (Drw w6 wr)) (fun i _ _ => n - (intOf i).toNat)
  case atStart => exact ⟨0, by omega, rfl, Drw.refl w6⟩
  case round =>
    obtain ⟨j, hj, rfl, hd⟩ := hrel
    rename World => wo
    by_cases hlt : j < n
    · have i2 : (j : Int) < (n : Int) := by omega
      go_wp2_with fail
      go_loopw [10] (fun i wr => ∃ u : Nat, u ≤ n ∧ i = .int .i64 (u : Int) ∧ Hid (Drw w6 wr)) (fun i _ => n - (intOf i).toNat)
      case atStart => exact ⟨0, by omega, rfl, hd.out⟩
      case round =>
        obtain ⟨u, hu, rfl, hd2⟩ := hrel
        rename World => wo2
        by_cases hlt2 : u < n
        · have i3 : (u : Int) < (n : Int) := by omega
          obtain ⟨rx, s1, s2, s3, s4, s5⟩ := HV.out.cell (i := j) (j := u) (by rw [hlen.out]; exact hlt) (by rw [hlen.out]; exact hlt2)
          obtain ⟨ry, t1, t2, t3, t4, t5⟩ := V2.out.cell (i := j) (j := u) (by rw [hCl.out]; exact hlt) (by rw [hCl.out]; exact hlt2)
          obtain ⟨ax, cx, bx, ox, rfl, c1, hrx⟩ := (H6.out.fw hd2.out.fw).at s1
          obtain ⟨ay, cy, b2, oy, e2, c2, hry⟩ := (R6.out.fw hd2.out.fw).at t1
          cases e2
          rw [s2, hlen.out] at c1 hrx
          rw [t2, hCl.out] at c2 hry
          obtain ⟨g1, p1, rfl, c3⟩ := hrx.cell u _ s3
          obtain ⟨g2', p2, rfl, c4⟩ := hry.cell u _ t3
          unfold vi at c3 c4
          have hle := HF2.out j u
          obtain ⟨x, hx⟩ : ∃ x, x = at2 T j u := ⟨_, rfl⟩
          obtain ⟨y, hy⟩ : ∃ y, y = at2 C j u := ⟨_, rfl⟩
          rw [← hx] at c3 hle; rw [← hy] at c4 hle t4
          clear s1 s2 s3 s4 s5 t1 t2 t3 t5 hrx hry hx hy
          rw [Nat.zero_add] at c2
          go_wp2_with fail
          go_quiet (fail)
          go_wp2_with fail
          go_roundw
          case rel => exact ⟨u + 1, by omega, by go_num, hd2.out.step nq⟩
          case measure => simp [intOf]; omega
        · have hun : u = n := by omega
          subst hun
          go_wp2_with fail
          go_roundw
          case rel => exact ⟨j + 1, by omega, by go_num, hd2.out⟩
          case measure => simp [intOf]; omega
    · have hjn : j = n := by omega
      subst hjn
      have H7 := Lib.hid (H6.out.fw hd.out.fw); have R7 := Lib.hid (R6.out.fw hd.out.fw); have B7 := Lib.hid (bt B6.out hd.out.fw)
      cases ho : ordF T j with
      | true =>
        have hTC : Hid (C = T) := C2.out.unique (.done (ord_no_cyc hlen.out ho))
        have R7' : Hid (RdT wo (some ⟨g2, 0, none⟩) j j T) := by rw [← hTC.out]; exact R7.out
        go_wp2_with (first
          | (go_at_call 23; refine (cancel_ok _ _ _ C _ R7.out V2.out).mono ?_; rintro e w8 ⟨g8, D, rfl, hc8, _, o8, b8⟩; obtain rfl := (Canc.done HF3.out).unique hc8; have H8 := Lib.hid (H7.out.fw b8); have R8 := Lib.hid (R7.out.fw b8); have R8' := Lib.hid (R7'.out.fw b8); have O8 := Lib.hid o8.rdt; have B8 := Lib.hid (bt B7.out b8); clear hc8 o8 b8)
          | (go_at_call_of 24 g8; refine (tsame_same _ _ _ _ _ _ C _ O8.out R8.out).mono ?_; rintro e w9 ⟨rfl, hd9⟩; have H9 := Lib.hid (H8.out.fw hd9.fw); have R9' := Lib.hid (R8'.out.fw hd9.fw); have B9 := Lib.hid (bt B8.out hd9.fw); clear hd9)
          | (go_at_call 27; refine (ordered_any _ _ _ T _ H9.out HV.out).mono ?_; rw [ho]; rintro e w10 ⟨rfl, b10⟩; have H10 := Lib.hid (H9.out.fw b10); have R10' := Lib.hid (R9'.out.fw b10); have B10 := Lib.hid (bt B9.out b10); clear b10)
          | (go_at_call_of 24 a; refine (tsame_same _ _ _ _ _ _ T _ R10'.out H10.out).mono ?_; rintro e w11 ⟨rfl, hd11⟩; have B11 := Lib.hid (bt B10.out hd11.fw); clear hd11)
          | fail)
        go_ret
        exact ⟨rfl, B11.out⟩
      | false =>
        go_wp2_with (first
          | (go_at_call 23; refine (cancel_ok _ _ _ C _ R7.out V2.out).mono ?_; rintro e w8 ⟨g8, D, rfl, hc8, _, o8, b8⟩; obtain rfl := (Canc.done HF3.out).unique hc8; have H8 := Lib.hid (H7.out.fw b8); have R8 := Lib.hid (R7.out.fw b8); have O8 := Lib.hid o8.rdt; have B8 := Lib.hid (bt B7.out b8); clear hc8 o8 b8)
          | (go_at_call_of 24 g8; refine (tsame_same _ _ _ _ _ _ C _ O8.out R8.out).mono ?_; rintro e w9 ⟨rfl, hd9⟩; have H9 := Lib.hid (H8.out.fw hd9.fw); have B9 := Lib.hid (bt B8.out hd9.fw); clear hd9)
          | (go_at_call 27; refine (ordered_any _ _ _ T _ H9.out HV.out).mono ?_; rw [ho]; rintro e w10 ⟨rfl, b10⟩; have B10 := Lib.hid (bt B9.out b10); clear b10)
          | fail)
        go_ret
        exact ⟨rfl, B10.out⟩
theorem walk_QuotaAcyclic (a : Option Addr) (n c : Nat) (T : Tab) (w : World) (h : RdT w a n c T) (hy : ∀ m ∈ T, ∀ z ∈ m, -9223372036854775808 ≤ z ∧ z ≤ 9223372036854775807) :
    Calls Try.prog 6 #[.slice a n c] w fun e w' => e = .returned (.bool true) ∧ Below w.heap.size w w' := by
  by_cases hT : VT T
  · exact qacy_ok a n c T w h hT
  · have hd := decide_eq_false hT
    have HV := Lib.hid hT
    have H := Lib.hid h
    clear hT h hy
    go_enter Try.func6, Try.ntmps6
    go_wp2_with (first
      | (go_at_call 14; refine (awake_any _).mono ?_; rintro e w1 ⟨rfl, b1⟩; have H1 := Lib.hid (H.out.fw b1); have B1 := Lib.hid b1; clear b1)
      | (go_at_call 23; refine (cancel_no _ _ _ T _ H1.out HV.out).mono ?_; rintro e w2 ⟨rfl, rfl⟩)
      | (go_at_call 15; refine (valid_any _ _ _ T _ H1.out).mono ?_; rw [hd]; rintro e w' ⟨rfl, rfl⟩)
      | fail)
    go_ret
    exact ⟨rfl, B1.out⟩
end Go.Proofs.Ytpecepfnmkpmmaa
