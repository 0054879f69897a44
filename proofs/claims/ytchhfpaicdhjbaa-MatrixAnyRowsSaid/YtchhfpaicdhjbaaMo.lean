/- matrix.Rows, Inverse. -/
import Derived.Test.YtchhfpaicdhjbaaMn
namespace Go.Proofs.Ytchhfpaicdhjbaa
open Go.RowKit Go.Kin Mat
open Fq (sum)
set_option maxRecDepth 100000
set_option linter.unusedVariables false

/-- The rows that a list of indices picks. -/
def pickM (f : Mat) (p : List Int) : Mat := fun i => f (p.getD i 0).toNat
def InP (n : Nat) (p : List Int) : Prop := ∀ x ∈ p, 0 ≤ x ∧ x < (n : Int)
def RowsRet (w : World) (n k : Nat) (f : Mat) (p : List Int) (e : Ending) (w' : World) : Prop :=
  (InP n p ∧ ∃ oa oc, e = .returned (.tuple #[.slice oa p.length oc, .int .i64 0]) ∧ MatR w' w.heap.size oa p.length oc k (pickM f p) ∧ Below w.heap.size w w') ∨ (¬ InP n p ∧ e = .returned (.tuple #[.slice none 0 0, .int .i64 1]) ∧ Below w.heap.size w w')

theorem rows_bad (a b : Option Addr) (n c m d : Nat) (M : List (List Nat)) (w : World) (h : RdM w a n c M) (hv : ¬ ValidL M) :
    Calls Try.prog 39 #[.slice a n c, .slice b m d] w fun e w' => e = .returned (.tuple #[.slice none 0 0, .int .i64 1]) ∧ w = w' := by
  have hd := decide_eq_false hv
  go_enter Try.func39, Try.ntmps39
  go_wp2_with (go_at_call 15; refine (valid_any _ _ _ _ _ h).mono ?_; rw [hd]; rintro e w' ⟨rfl, rfl⟩)
  go_ret2
  exact ⟨rfl, rfl⟩

set_option maxHeartbeats 1000000 in
theorem rows_any (a b : Option Addr) (n c k m d : Nat) (f : Mat) (p : List Int) (w : World) (h : RdM w a n c (mlist n k f)) (h2 : Rd vi w b m d p) (hv : VM n k) (hm : m ≤ 64) :
    Calls Try.prog 39 #[.slice a n c, .slice b m d] w (RowsRet w n k f p) := by
  have hd := decide_eq_true (hv.valid f)
  have hn := hv.hn; have hk := hv.hk
  obtain ⟨i0, hi, hz0, hz1, hz2⟩ := info_parts info5
  obtain ⟨i1, hi1, hy0, hy1, hy2⟩ := info_parts infoB
  have u0 := Try.underlying34
  have u1 := Try.underlying22
  have H := Lib.hid h; have H2 := Lib.hid h2
  have e0 : decide ((64 : Int) < (m : Int)) = false := by simp; omega
  clear h h2 hv
  go_enter Try.func39, Try.ntmps39
  go_wp2_with (first
    | (go_at_call 15; refine (valid_any _ _ _ _ _ H.out).mono ?_; rw [hd]; rintro e w' ⟨rfl, rfl⟩)
    | (at_make; refine wpList_make_cap rfl (.const (.int .i64 0)) (.tmp 18) 22 rfl vh (none, 0, 0) 34 i1 u1 hi1 hy0 hy1 rfl _ _ _ _ m rfl rfl rfl rfl (by rw [hy2]; omega) (by omega) ?_; intro w2 hk2 hb2 hs2; have HK2 := Lib.hid hk2; clear hk2 hs2))
  go_loopw [6, 8, 22] (fun r _ i wr => ∃ (j : Nat) (oa : Option Addr) (oc : Nat), j ≤ m ∧ i = .int .i64 (j : Int) ∧ r = .slice oa j oc ∧ Hid (MatR wr w.heap.size oa j oc k (pickM f p)) ∧ Hid (∀ (t : Nat) (x : Int), t < j → p[t]? = some x → 0 ≤ x ∧ x < (n : Int)) ∧ Hid (Below w.heap.size w wr)) (fun _ _ i _ => m - (intOf i).toNat)
  case atStart =>
    refine ⟨0, _, _, by omega, rfl, rfl, ⟨[], HK2.out, by simp⟩, fun t x ht => by omega, hb2⟩
  case round =>
    obtain ⟨j, oa, oc, hj, rfl, rfl, hM, hin, hbe⟩ := hrel
    by_cases hlt : j < m
    · have i2 : (j : Int) < (m : Int) := by omega
      obtain ⟨x, hx⟩ : ∃ x, p[j]? = some x := ⟨_, List.getElem?_eq_getElem (by rw [H2.out.len]; omega)⟩
      obtain ⟨b1, o1, rfl, c1⟩ := (H2.out.fw hbe.out).cell j x hx
      unfold vi at c1
      have HX := Lib.hid hx
      clear hx
      by_cases hr : 0 ≤ x ∧ x < (n : Int)
      · obtain ⟨hr0, hr1⟩ := hr
        obtain ⟨q, rfl⟩ := Int.eq_ofNat_of_zero_le hr0
        have hq : q < n := by omega
        obtain ⟨rr, ra, rn, rc, ba, ob, hmr, rfl, c0, hrow⟩ := (H.out.fw hbe.out).row hq
        obtain rfl := mlist_row hmr
        obtain rfl : k = rn := by have := hrow.len; rwa [mrow_length] at this
        obtain ⟨L, h3, h4⟩ := hM.out
        have hb1 := below_alloc (.cells (row vb []) 5 (0, 0)) (below_refl wr)
        have N1 := Lib.hid ((blk_new vb 5 wr []).own (Nat.le_refl _) (by simp [maxLen]))
        have HR := Lib.hid (hrow.fw hb1)
        have H3 := Lib.hid h3; have H4 := Lib.hid h4; have B1 := Lib.hid hb1
        have c9 : (wr.alloc (.cells #[] 5 (0, 0))).cell? ⟨ba, ob + q, none⟩ = some (.slice ra k rc) := (cellBelow B1.out (lt_of_cell c0)).trans c0
        have e7 : decide ((q : Int) < 0) = false := by simp
        have e8 : decide (n ≤ q) = false := by simp; omega
        have hin2 : Hid (∀ (t : Nat) (x : Int), t < j + 1 → p[t]? = some x → 0 ≤ x ∧ x < (n : Int)) := by
          intro t y ht hy
          by_cases e : t = j
          · rw [e, HX.out] at hy; cases hy; exact ⟨hr0, hr1⟩
          · exact hin.out t y (by omega) hy
        clear hrow h3 h4 hmr hM hb1
        go_wp2_with (first
          | (at_builtin; refine wpList_append_rd rfl (.tmp 35) (.tmp 39) 34 rfl vb (fun _ => rfl) wr.heap.size 5 i0 (.int .u8 0) 1 u0 hi hz0 hz1 hz2 rfl _ 0 0 [] rfl N1.out ra k rc (mrow k (f q)) rfl HR.out (by unfold maxLen; omega) (by omega) B1.out.size ?_; simp only [Nat.zero_add, List.nil_append]; intro ra2 rc2 w5 hown5 hgr5; have b5 : Below wr.heap.size wr w5 := B1.out.grown hgr5 B1.out.size (fun x hx => (N1.out.ownsRow.lt x hx).1); have O5 := Lib.hid hown5; have B5 := Lib.hid b5; have ba6 := below_alloc (.cells (row vh [(ra2, k, rc2)]) 34 (0, 0)) (below_refl w5); have H6 := Lib.hid ((H3.out.fw b5).fw ba6); have N6 := Lib.hid (rd_new vh 34 w5 [(ra2, k, rc2)] (n := 1) rfl (by omega)); have R6 := Lib.hid ((hown5.mono (Nat.zero_le _)).fw ba6); have B6 := Lib.hid (bt b5 ba6); have HB6 := Lib.hid ba6; clear hown5 hgr5 b5 ba6)
          | (at_builtin; refine wpList_append_rd rfl (.tmp 34) (.tmp 41) 22 rfl vh vh_one w.heap.size 34 i1 (.slice none 0 0) 24 u1 hi1 hy0 hy1 hy2 rfl oa j oc L rfl H6.out (some ⟨w5.heap.size, 0, none⟩) 1 1 [(ra2, k, rc2)] rfl N6.out (by unfold maxLen; omega) (by omega) (Nat.le_trans hbe.out.size B6.out.size) ?_; intro sa c2 w7 hown7 hgr7))
        go_roundw
        case rel =>
          have hM7 := matR_push (f := pickM f p) H6.out (fun i g hg => ((H4.out i g hg).fw B5.out).fw HB6.out) R6.out hown7 hgr7
          refine ⟨j + 1, sa, c2, by omega, by go_num, rfl, ?_, hin2.out, (bt hbe.out B6.out).grown hgr7 (Nat.le_trans hbe.out.size B6.out.size) (fun x hx => own_ge H6.out hx)⟩
          refine hM7.congr fun i c hi _ => ?_
          by_cases hij : i < j
          · rw [if_pos hij]
          · rw [if_neg hij, show i = j by omega]
            unfold pickM
            rw [List.getD_eq_getElem?_getD, HX.out]; rfl
        case measure => simp [intOf]; omega
      · have hbad : Hid (¬ InP n p) := fun h => hr (h x (List.mem_of_getElem? HX.out))
        rcases Nat.lt_or_ge 0 1 with _ | h
        · by_cases h0 : x < 0
          · clear hr
            go_wp2_with fail
            go_ret2
            exact .inr ⟨hbad.out, rfl, hbe.out⟩
          · have h1 : (n : Int) ≤ x := by omega
            clear hr
            go_wp2_with fail
            go_ret2
            exact .inr ⟨hbad.out, rfl, hbe.out⟩
        · omega
    · have hjm : j = m := by omega
      subst hjm
      have hall : Hid (InP n p) := fun x hx => by
        obtain ⟨t, ht⟩ := List.mem_iff_getElem?.1 hx
        exact hin.out t x (by have := (List.getElem?_eq_some_iff.1 ht).1; have := H2.out.len; omega) ht
      have hlen := Lib.hid H2.out.len
      clear i0 hi hz0 hz1 hz2 i1 hi1 hy0 hy1 hy2 u0 u1
      go_wp2_with fail
      go_ret2
      refine .inl ⟨hall.out, oa, oc, ?_, ?_, hbe.out⟩
      · rw [hlen.out]; rfl
      · rw [hlen.out]; exact hM.out

theorem inv_bad (a : Option Addr) (n c : Nat) (M : List (List Nat)) (w : World) (h : RdM w a n c M) (hv : ¬ (ValidL M ∧ M.length = colsL M)) :
    Calls Try.prog 36 #[.slice a n c] w fun e w' => e = .returned (.tuple #[.slice none 0 0, .int .i64 1]) ∧ w = w' := by
  have hl := h.len
  by_cases hd : ValidL M
  · have hd' := decide_eq_true hd
    have e1 : ((n : Int) != ((colsL M : Nat) : Int)) = true := by
      have : M.length ≠ colsL M := fun e => hv ⟨hd, e⟩
      simp; omega
    go_enter Try.func36, Try.ntmps36
    go_wp2_with (first
      | (go_at_call 15; refine (valid_any _ _ _ _ _ h).mono ?_; rw [hd']; rintro e w' ⟨rfl, rfl⟩)
      | (go_at_call 45; refine (columns_any _ _ _ _ _ h).mono ?_; rintro e w' ⟨rfl, rfl⟩))
    go_ret2
    exact ⟨rfl, rfl⟩
  · have hd' := decide_eq_false hd
    go_enter Try.func36, Try.ntmps36
    go_wp2_with (go_at_call 15; refine (valid_any _ _ _ _ _ h).mono ?_; rw [hd']; rintro e w' ⟨rfl, rfl⟩)
    go_ret2
    exact ⟨rfl, rfl⟩

set_option maxHeartbeats 1000000 in
theorem inv_none (a : Option Addr) (n c : Nat) (f : Mat) (w : World) (h : RdM w a n c (mlist n n f)) (hn : n ≤ 64) (hs : (elimE n (aug n f idm) n).piv.length < n) :
    Calls Try.prog 36 #[.slice a n c] w fun e w' => e = .returned (.tuple #[.slice none 0 0, .int .i64 4]) ∧ Below w.heap.size w w' := by
  have hv : VM n n := ⟨hn, hn, fun e => e⟩
  have hd := decide_eq_true (hv.valid f)
  have hc := hv.cols f
  have e1 : ((n : Int) != (n : Int)) = false := by simp
  have i1 : (((elimE n (aug n f idm) n).piv.length : Nat) : Int) < (n : Int) := by omega
  have H := Lib.hid h
  clear h hv
  go_enter Try.func36, Try.ntmps36
  go_wp2_with (first
    | (go_at_call 15; refine (valid_any _ _ _ _ _ H.out).mono ?_; rw [hd]; rintro e w' ⟨rfl, rfl⟩)
    | (go_at_call 45; refine (columns_any _ _ _ _ _ H.out).mono ?_; rw [hc]; rintro e w' ⟨rfl, rfl⟩)
    | (go_at_call 35; refine (ident_any n _ hn).mono ?_; rintro e w1 ⟨o1, rfl, hM1, hb1⟩; have HM1 := Lib.hid (hM1.rdm (by omega)); have HB1 := Lib.hid hb1; clear hM1 hb1)
    | (go_at_call 46; refine (eliminate_two _ _ _ _ _ n n f idm _ (H.out.fw HB1.out) HM1.out (by omega) (by omega)).mono ?_; rintro e w2 ⟨rfl, ⟨ra, rc, pa, pc, h1, h2, h3⟩, h4⟩; have c1 := h1.c1; clear h1 h2 h3))
  go_ret2
  exact ⟨rfl, bt HB1.out h4⟩
end Go.Proofs.Ytchhfpaicdhjbaa
