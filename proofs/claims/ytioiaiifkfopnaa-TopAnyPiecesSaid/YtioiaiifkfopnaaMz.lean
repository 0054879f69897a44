/- matrix.columns, Valid, zeros; kinkeepref04.Cols, Valid, Zero, Same, Ints; kinkeeplaw04.few. -/
import Derived.Test.YtioiaiifkfopnaaMx
import Derived.Test.YtioiaiifkfopnaaScale
namespace Go.Proofs.Ytioiaiifkfopnaa
open Go.RowKit Go.Kin Mat
set_option maxRecDepth 100000

theorem infoB : (Try.prog.info? 23).map (fun i => (i.zero, i.size, i.bytes)) = some (some (.slice none 0 0), 1, 24) := by kernel_rfl
theorem infoI : (Try.prog.info? 3).map (fun i => (i.zero, i.size, i.bytes)) = some (some (.int .i64 0), 1, 8) := by kernel_rfl

theorem colsL_get {M : List (List Nat)} {m : List Nat} (h : M[0]? = some m) : colsL M = m.length := by
  unfold colsL; rw [List.getD_eq_getElem?_getD, h]; rfl

theorem columns_any (a : Option Addr) (n c : Nat) (M : List (List Nat)) (w : World) (h : RdM w a n c M) :
    Calls Try.prog 37 #[.slice a n c] w fun e w' => e = .returned (.int .i64 ((colsL M : Nat) : Int)) ∧ w = w' := by
  have hl := h.len
  by_cases hn : n = 0
  · subst hn
    obtain rfl : M = [] := List.eq_nil_of_length_eq_zero hl
    clear h
    go_enter Try.func37, Try.ntmps37
    go_wp2
    go_ret
    exact ⟨rfl, rfl⟩
  · obtain ⟨m, ra, rn, rc, b, o, hm, rfl, c1, hr⟩ := h.row (i := 0) (by omega)
    have hc : colsL M = rn := by rw [colsL_get hm, hr.len]
    have HC := Lib.hid hc
    have e0 : (((n : Nat) : Int) == 0) = false := by simp; omega
    have i1 : (0 : Int) < (n : Int) := by omega
    rw [Nat.add_zero] at c1
    clear h hm hr hc hl
    go_enter Try.func37, Try.ntmps37
    go_wp2
    go_ret
    exact ⟨ret_int (by rw [HC.out]), rfl⟩

theorem valid_any (a : Option Addr) (n c : Nat) (M : List (List Nat)) (w : World) (h : RdM w a n c M) :
    Calls Try.prog 36 #[.slice a n c] w fun e w' => e = .returned (.bool (decide (ValidL M))) ∧ w = w' := by
  have H := Lib.hid h
  have hl := h.len
  have hlim := h.lim
  by_cases hbig : 64 < n
  · have hv : Hid (decide (ValidL M) = false) := decide_eq_false fun hv => by have := hv.1; omega
    have t1 : decide ((64 : Int) < (n : Int)) = true := by simp; omega
    clear h hl
    go_enter Try.func36, Try.ntmps36
    go_wp2
    go_ret
    exact ⟨ret_bool hv.out.symm, rfl⟩
  have t1 : decide ((64 : Int) < (n : Int)) = false := by simp; omega
  obtain ⟨k, HK⟩ : ∃ k, Hid (colsL M = k) := ⟨_, rfl⟩
  by_cases hbig2 : 64 < k
  · have hv : Hid (decide (ValidL M) = false) := decide_eq_false fun hv => by have := hv.2.1; rw [HK.out] at this; omega
    have t2 : decide ((64 : Int) < (k : Int)) = true := by simp; omega
    clear h hl
    go_enter Try.func36, Try.ntmps36
    go_wp2_with (go_at_call 37; refine (columns_any _ _ _ M _ H.out).mono ?_; rintro e w' ⟨rfl, rfl⟩; rw [HK.out])
    go_ret
    exact ⟨ret_bool hv.out.symm, rfl⟩
  have t2 : decide ((64 : Int) < (k : Int)) = false := by simp; omega
  clear h
  have HL := Lib.hid hl
  clear hl
  go_enter Try.func36, Try.ntmps36
  go_wp2_with (go_at_call 37; refine (columns_any _ _ _ M _ H.out).mono ?_; rintro e w' ⟨rfl, rfl⟩; rw [HK.out])
  go_loop [4, 15] (fun _ i => ∃ j : Nat, j ≤ n ∧ i = .int .i64 (j : Int) ∧ Hid (∀ (t : Nat) (m : List Nat), t < j → M[t]? = some m → m.length = k)) (fun _ i => n - (intOf i).toNat)
  case atStart => exact ⟨0, by omega, rfl, fun t m ht => by omega⟩
  case round =>
    obtain ⟨j, hj, rfl, hv⟩ := hrel
    by_cases hlt : j < n
    · obtain ⟨m0, ra0, rn0, rc0, b, o, hm0, rfl, c0, hr0⟩ := H.out.row (i := 0) (by omega)
      obtain ⟨m, ra, rn, rc, b2, o2, hm, e2, c1, hr⟩ := H.out.row (i := j) hlt
      cases e2
      have hk0 : rn0 = k := by rw [← HK.out, colsL_get hm0, hr0.len]
      subst hk0
      rw [Nat.add_zero] at c0
      have i1 : (j : Int) < (n : Int) := by omega
      have i2 : (0 : Int) < (n : Int) := by omega
      have hrn := hr.len
      by_cases he : rn = rn0
      · have e1 : (((rn : Nat) : Int) != ((rn0 : Nat) : Int)) = false := by simp; omega
        have hv2 : Hid (∀ (t : Nat) (m : List Nat), t < j + 1 → M[t]? = some m → m.length = rn0) := by
          intro t m' ht hm'
          by_cases e : t = j
          · subst e; rw [hm] at hm'; cases hm'; omega
          · exact hv.out t m' (by omega) hm'
        subst he
        clear hm0 hr0 hm hr hrn
        go_wp2
        go_round
        case rel => exact ⟨j + 1, by omega, by go_num, hv2⟩
        case measure => simp [intOf]; omega
      · have e1 : (((rn : Nat) : Int) != ((rn0 : Nat) : Int)) = true := by simp; omega
        have hf : Hid (decide (ValidL M) = false) := decide_eq_false fun hv => he (by have := hv.2.2 m (List.mem_of_getElem? hm); rw [HK.out] at this; omega)
        clear hm0 hr0 hm hr he hrn
        go_wp2
        go_ret
        exact ⟨ret_bool hf.out.symm, rfl⟩
    · have hf : Hid (decide (ValidL M) = true) := by
        refine decide_eq_true ⟨by rw [HL.out]; omega, by rw [HK.out]; omega, fun m hm => ?_⟩
        obtain ⟨t, ht⟩ := List.mem_iff_getElem?.1 hm
        rw [HK.out]
        exact hv.out t m (by have := (List.getElem?_eq_some_iff.1 ht).1; have := HL.out; omega) ht
      go_wp2
      go_ret
      exact ⟨ret_bool hf.out.symm, rfl⟩

/-- The law's 'few'. -/
def FewL (M : List (List Nat)) (n : Nat) : Prop := M.length ≤ n ∧ ∀ m ∈ M, m.length ≤ n
instance (M : List (List Nat)) (n : Nat) : Decidable (FewL M n) := by unfold FewL; infer_instance

end Go.Proofs.Ytioiaiifkfopnaa
