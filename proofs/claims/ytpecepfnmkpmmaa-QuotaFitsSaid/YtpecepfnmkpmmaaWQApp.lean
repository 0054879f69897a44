/- QuotaApplies: the walk. -/
import Derived.Test.YtpecepfnmkpmmaaRc
import Derived.Test.YtpecepfnmkpmmaaQp
import Derived.Test.YtpecepfnmkpmmaaFrameV
namespace Go.Proofs.Ytpecepfnmkpmmaa
open Go.RowKit Go.Kin Quo
set_option maxRecDepth 100000
set_option linter.unusedVariables false
theorem infoMz : (Try.prog.info? 47).map (fun i => (i.zero, i.size, i.bytes)) = some (some (.agg #[.int .i64 0, .int .i64 0, .int .i64 0, .int .i64 0]), 4, 32) := by kernel_rfl
theorem appF_inv {T : Tab} {ms : List Mz} (hT : ¬ VT T) : appF T ms = (1, []) := by unfold appF; rw [if_neg hT]
theorem apply_any (ta : Option Addr) (n tc : Nat) (T : Tab) (ma : Option Addr) (k mc : Nat) (ms : List Mz) (w : World) (h : RdT w ta n tc T) (hm : RdA vmz 4 w ma k mc ms) :
    Calls Try.prog 34 #[.slice ta n tc, .slice ma k mc] w (GivesApp w (appF T ms)) := by
  by_cases hT : VT T
  · exact apply_ok ta n tc T ma k mc ms w h hm hT
  · refine (apply_no ta n tc T ma k mc w h hT).mono ?_
    rintro e w' ⟨rfl, rfl⟩
    exact givesApp_err (appF_inv hT) (below_refl w)
theorem rapply_any (ta : Option Addr) (n tc : Nat) (T : Tab) (ma : Option Addr) (k mc : Nat) (ms : List Mz) (w : World) (h : RdT w ta n tc T) (hm : RdA vmz 4 w ma k mc ms) :
    Calls Try.prog 35 #[.slice ta n tc, .slice ma k mc] w (GivesApp w (appF T ms)) := by
  by_cases hT : VT T
  · exact rapply_ok ta n tc T ma k mc ms w h hm hT
  · refine (rapply_no ta n tc T ma k mc w h hT).mono ?_
    rintro e w' ⟨rfl, rfl⟩
    exact givesApp_err (appF_inv hT) (below_refl w)
theorem appR_code (ms : List Mz) : ∀ T, (appR T ms).1 = 0 ∨ (appR T ms).1 = 6 ∨ (appR T ms).1 = 2 := by
  induction ms with
  | nil => intro T; exact .inl rfl
  | cons m ms ih =>
    intro T
    rw [appR_cons]
    split
    · exact .inr (.inl rfl)
    · split
      · exact .inr (.inr rfl)
      · exact ih _
set_option maxHeartbeats 4000000 in
theorem walk_QuotaApplies (ta : Option Addr) (n tc : Nat) (T : Tab) (ma : Option Addr) (k mc : Nat) (ms : List Mz) (w : World) (h : RdT w ta n tc T) (hy : ∀ m ∈ T, ∀ z ∈ m, -9223372036854775808 ≤ z ∧ z ≤ 9223372036854775807) (hm : RdA vmz 4 w ma k mc ms) (hb : ∀ m ∈ ms, I64 m.fr ∧ I64 m.dst ∧ I64 m.ow ∧ I64 m.amt) :
    Calls Try.prog 11 #[.slice ta n tc, .slice ma k mc] w fun e w' => e = .returned (.bool true) ∧ Below w.heap.size w w' := by
  obtain ⟨i0, hi, hz0, hz1, hz2⟩ := info_parts infoMz
  have u0 := Try.underlying40
  have hlim := h.lim
  have hlim2 := hm.lim
  clear hy hb
  by_cases h14 : 14 < n
  · clear h hm
    go_enter Try.func11, Try.ntmps11
    go_wp2_with (first
      | (go_at_call 14; refine (awake_any _).mono ?_; rintro e w1 ⟨rfl, b1⟩; have B1 := Lib.hid b1; clear b1)
      | fail)
    go_ret
    exact ⟨rfl, B1.out⟩
  · by_cases h30 : 30 < k
    · clear h hm
      go_enter Try.func11, Try.ntmps11
      go_wp2_with (first
        | (go_at_call 14; refine (awake_any _).mono ?_; rintro e w1 ⟨rfl, b1⟩; have B1 := Lib.hid b1; clear b1)
        | fail)
      go_ret
      exact ⟨rfl, B1.out⟩
    · have H := Lib.hid h
      have HM := Lib.hid hm
      have hkl := Lib.hid hm.1
      clear h hm
      go_enter Try.func11, Try.ntmps11
      go_wp2_with (first
        | (go_at_call 14; refine (awake_any _).mono ?_; rintro e w1 ⟨rfl, b1⟩; have H1 := Lib.hid (H.out.fw b1); have HM1 := Lib.hid (HM.out.fw b1); have B1 := Lib.hid b1; clear b1)
        | fail)
      have hba := below_alloc (.cells #[] 47 (0, 0)) (below_refl w1)
      have O4 : Hid (OwnA vmz 4 w1.heap.size 47 (w1.alloc (.cells #[] 47 (0, 0))) (some ⟨w1.heap.size, 0, none⟩) 0 0 []) := ⟨rfl, .inr ⟨w1.heap.size, #[], rfl, Nat.le_refl _, heap_alloc_new w1 _, Nat.le_refl _, by simp [maxLen], rfl, rfl⟩⟩
      go_loopw [5, 6] (fun s i wr => ∃ (j : Nat) (sa : Option Addr) (sc : Nat), j ≤ k ∧ i = .int .i64 (j : Int) ∧ s = .slice sa j sc ∧ Hid (OwnA vmz 4 w1.heap.size 47 wr sa j sc (ms.take j)) ∧ Hid (Below w1.heap.size w1 wr)) (fun _ i _ => k - (intOf i).toNat)
      case atStart => exact ⟨0, _, 0, by omega, rfl, rfl, O4.out, hba⟩
      case round =>
        obtain ⟨j, sa, sc, hj, rfl, rfl, hO, hbe⟩ := hrel
        by_cases hlt : j < k
        · have i2 : (j : Int) < (k : Int) := by omega
          obtain ⟨m, hmm⟩ : ∃ m, ms[j]? = some m := ⟨_, List.getElem?_eq_getElem (by rw [hkl.out]; exact hlt)⟩
          obtain ⟨mb, mo, rfl, c0, c1, c2, c3⟩ := RdA.mov (HM1.out.fw hbe.out) hmm
          have HMM := Lib.hid hmm
          have hba := below_alloc (.cells #[.int .i64 m.fr, .int .i64 m.dst, .int .i64 m.ow, .int .i64 m.amt] 47 (0, 0)) (below_refl wr)
          have HBA := Lib.hid hba
          have OA := Lib.hid (hO.out.fw hba)
          have hnew : Hid ((wr.alloc (.cells #[.int .i64 m.fr, .int .i64 m.dst, .int .i64 m.ow, .int .i64 m.amt] 47 (0, 0))).heap[wr.heap.size]? = some (.cells #[.int .i64 m.fr, .int .i64 m.dst, .int .i64 m.ow, .int .i64 m.amt] 47 (0, 0))) := heap_alloc_new wr _
          clear hba hmm
          go_wp2_with (first
            | (at_builtin; refine wpList_pushA rfl (.tmp 28) (.tmp 33) 40 rfl vmz 4 vmz_len vmz_one w1.heap.size 47 i0 (.agg #[.int .i64 0, .int .i64 0, .int .i64 0, .int .i64 0]) 32 u0 hi hz0 hz1 hz2 rfl (by omega) sa j sc _ rfl OA.out wr.heap.size m _ rfl _ _ rfl hnew.out (by omega) (by omega) (Nat.le_trans hbe.out.size HBA.out.size) ?_; intro g5 c5 w9 hown hgr hl; have O9 := Lib.hid hown; have B9 : Hid (Below w1.heap.size w1 w9) := (bt hbe.out HBA.out).grown hgr (Nat.le_trans hbe.out.size HBA.out.size) (fun k hk => (OA.out.lt k hk).1); clear hown hgr hl)
            | fail)
          go_roundw
          case rel =>
            refine ⟨j + 1, _, _, by omega, by go_num, rfl, ?_, B9.out⟩
            rw [List.take_add_one, HMM.out]; exact O9.out
          case measure => simp [intOf]; omega
        · have hjk : j = k := by omega
          subst hjk
          rw [List.take_of_length_le (by rw [hkl.out]; exact Nat.le_refl _)] at hO
          have H2 := Lib.hid (H1.out.fw hbe.out)
          have HM2 := Lib.hid (HM1.out.fw hbe.out)
          have HL2 := Lib.hid (OwnA.rda hO.out vmz_len)
          have BB := Lib.hid (bt B1.out hbe.out)
          obtain ⟨R, hR⟩ : ∃ R, R = appF T ms := ⟨_, rfl⟩
          obtain ⟨cd, hcd⟩ : ∃ cd, cd = R.1 := ⟨_, rfl⟩
          have HR := Lib.hid hR; have HCD := Lib.hid hcd
          have e1 : (cd == cd) = true := by simp
          clear hR hcd hO
          go_wp2_with (first
            | (go_at_call 34; refine (apply_any _ _ _ T _ _ _ ms _ H2.out HL2.out).mono ?_; rw [← HR.out]; rintro e w3 ⟨ra, rc, rfl, r3, b3⟩; rw [← HCD.out]; have R3 := Lib.hid r3; have B3 := Lib.hid (bt BB.out b3); have H3 := Lib.hid (H2.out.fw b3); have HM3 := Lib.hid (HM2.out.fw b3); clear r3 b3)
            | (go_at_call 35; refine (rapply_any _ _ _ T _ _ _ ms _ H3.out HM3.out).mono ?_; rw [← HR.out]; rintro e w4 ⟨ra4, rc4, rfl, r4, b4⟩; rw [← HCD.out]; have R4 := Lib.hid r4; have R34 := Lib.hid (R3.out.fw b4); have B4 := Lib.hid (bt B3.out b4); clear r4 b4)
            | (go_at_call 24; refine (tsame_same _ _ _ _ _ _ R.2 _ R34.out R4.out).mono ?_; rintro e w5 ⟨rfl, hd5⟩; have B5 := Lib.hid (bt B4.out hd5.fw); clear hd5)
            | fail)
          go_ret
          exact ⟨ret_bool (by first | rfl | simp), B5.out⟩
end Go.Proofs.Ytpecepfnmkpmmaa
