/- matrix: eliminate. -/
import Derived.Test.YtioiaiifkfopnaaMh
namespace Go.Proofs.Ytioiaiifkfopnaa
open Go.RowKit Go.Kin Mat
set_option maxRecDepth 100000

theorem elimE_zero (M : Mat) : ∀ m, elimE 0 M m = elimE 0 M 0
  | 0 => rfl
  | m + 1 => by
    rw [elimE_none, elimE_zero M m]
    rcases findP_cases (elimE 0 M m).R m 0 (elimE 0 M m).piv.length with ⟨h, _⟩ | ⟨f, _, _, hf, _⟩
    · exact h
    · omega
theorem elimE_cols {n k : Nat} (M : Mat) (A : Mat) : elimE n A (colsL (mlist n k M)) = elimE n A k := by
  by_cases h : n = 0
  · subst h; rw [elimE_zero, elimE_zero A k]
  · rw [colsL_mlist _ (by omega)]
theorem colsL_le {n k : Nat} (M : Mat) : colsL (mlist n k M) ≤ k := by
  by_cases h : n = 0
  · subst h; rw [colsL_zero]; omega
  · rw [colsL_mlist _ (by omega)]; omega
theorem mlist_row {n k : Nat} {M : Mat} {i : Nat} {m : List Nat} (h : (mlist n k M)[i]? = some m) : m = mrow k (M i) := by
  have hi : i < n := by have := (List.getElem?_eq_some_iff.1 h).1; rwa [mlist_length] at this
  rw [mlist_get _ hi] at h
  cases h; rfl
theorem ECell.set0 {w : World} {ge : Nat} {rv pv : Value} {pr : Int} (h : ECell w ge rv pv pr) (v : Value) : ECell (w.setCell ⟨ge, 0, none⟩ v) ge v pv pr := heap_setCell_same w ge 0 _ _ _ h

set_option maxHeartbeats 4000000 in
theorem eliminate_nil (a : Option Addr) (n c k : Nat) (M : Mat) (w : World) (h : RdM w a n c (mlist n k M)) (hn : n ≤ 1000) (hk : k ≤ 1000) :
    Calls Try.prog 38 #[.slice a n c, .slice none 0 0] w fun e w' => e = .returned (.pointer (some ⟨w.heap.size, 0, none⟩)) ∧ ESt w' w.heap.size w.heap.size n k (elimE n M k) ∧ Below w.heap.size w w' := by
  obtain ⟨i0, hi, hz0, hz1, hz2⟩ := info_parts info5
  obtain ⟨i1, hi1, hy0, hy1, hy2⟩ := info_parts infoB
  have u0 := Try.underlying23
  have u1 := Try.underlying30
  have H := Lib.hid h
  clear h
  have b0 := below_alloc (.cells #[.slice none 0 0, .slice none 0 0, .int .u8 1] 72 (0, 0)) (below_refl w)
  have E0 : Hid (ECell (w.alloc (.cells #[.slice none 0 0, .slice none 0 0, .int .u8 1] 72 (0, 0))) w.heap.size (.slice none 0 0) (.slice none 0 0) 1) := heap_alloc_new w _
  go_enter Try.func38, Try.ntmps38
  go_wp2
  go_loopw [6, 7, 8, 13] (fun _ _ _ i wr => ∃ (j : Nat) (oa : Option Addr) (oc : Nat), j ≤ n ∧ i = .int .i64 (j : Int) ∧ Hid (ECell wr w.heap.size (.slice oa j oc) (.slice none 0 0) 1) ∧ Hid (MatR wr w.heap.size oa j oc k M) ∧ Hid (Below w.heap.size w wr)) (fun _ _ _ i _ => n - (intOf i).toNat)
  case atStart => exact ⟨0, none, 0, by omega, rfl, E0.out, MatR.nil _ _ _ _, b0⟩
  case round =>
    obtain ⟨j, oa, oc, hj, rfl, hE, hM, hbe⟩ := hrel
    by_cases hlt : j < n
    · have i2 : (j : Int) < (n : Int) := by omega
      obtain ⟨m, ra, rn, rc, b, o, hm, rfl, c1, hr⟩ := (H.out.fw hbe.out).row hlt
      obtain rfl := mlist_row hm
      obtain rfl : k = rn := by have := hr.len; rwa [mrow_length] at this
      obtain ⟨L, h3, h4⟩ := hM.out
      have hb1 := below_alloc (.cells (row vb []) 5 (0, 0)) (below_refl wr)
      have N1 := Lib.hid ((blk_new vb 5 wr []).own (Nat.le_refl _) (by simp [maxLen]))
      have HR := Lib.hid (hr.fw hb1)
      have H3 := Lib.hid h3; have H4 := Lib.hid h4; have B1 := Lib.hid hb1
      clear hr h3 h4 hm hM hb1
      go_wp2_with (first
        | (at_builtin; refine wpList_append_rd rfl (.tmp 18) (.tmp 19) 23 rfl vb (fun _ => rfl) wr.heap.size 5 i0 (.int .u8 0) 1 u0 hi hz0 hz1 hz2 rfl _ 0 0 [] rfl N1.out ra k rc (mrow k (M j)) rfl HR.out (by unfold maxLen; omega) (by omega) B1.out.size ?_; simp only [Nat.zero_add, List.nil_append]; intro ra2 rc2 w5 hown5 hgr5; have b5 : Below wr.heap.size wr w5 := B1.out.grown hgr5 B1.out.size (fun x hx => (N1.out.ownsRow.lt x hx).1); have E5 := Lib.hid (hE.out.fw b5); have O5 := Lib.hid hown5; have B5 := Lib.hid b5; have e5 := E5.out.c0; have ba6 := below_alloc (.cells (row vh [(ra2, k, rc2)]) 23 (0, 0)) (below_refl w5); have H6 := Lib.hid ((H3.out.fw b5).fw ba6); have E6 := Lib.hid (E5.out.fw ba6); have N6 := Lib.hid (rd_new vh 23 w5 [(ra2, k, rc2)] (n := 1) rfl (by omega)); have R6 := Lib.hid ((hown5.mono (Nat.zero_le _)).fw ba6); have ng := own_neB H6.out E6.out te1; have B6 := Lib.hid (bt b5 ba6); have HB6 := Lib.hid ba6; clear hown5 hgr5 b5 ba6)
        | (at_builtin; refine wpList_append_rd rfl (.tmp 33) (.tmp 35) 30 rfl vh vh_one w.heap.size 23 i1 (.slice none 0 0) 24 u1 hi1 hy0 hy1 hy2 rfl oa j oc L rfl H6.out (some ⟨w5.heap.size, 0, none⟩) 1 1 [(ra2, k, rc2)] rfl N6.out (by unfold maxLen; omega) (by omega) (Nat.le_trans hbe.out.size B6.out.size) ?_; intro sa c2 w7 hown7 hgr7; have E7 : Hid (ECell w7 w.heap.size (.slice oa j oc) (.slice none 0 0) 1) := Lib.hid ((hgr7.block _ E6.out.lt ng).trans E6.out); have e7 := E7.out.c0; have ef7 := E7.out.frozen 0))
      go_roundw
      case rel =>
        have hM7 := matR_push (f := M) H6.out (fun i g hg => ((H4.out i g hg).fw B5.out).fw HB6.out) R6.out hown7 hgr7
        refine ⟨j + 1, sa, c2, by omega, by go_num, E7.out.set0 _, ?_, ?_⟩
        · refine (hM7.otherT (p := ⟨w.heap.size, 0, none⟩) E7.out te1 tue _).congr fun i c hi _ => ?_
          by_cases hij : i < j
          · rw [if_pos hij]
          · rw [if_neg hij, show i = j by omega]
        · exact ((bt hbe.out B6.out).grown hgr7 (Nat.le_trans hbe.out.size B6.out.size) (fun x hx => own_ge H6.out hx)).setCell (Nat.le_refl _) _
      case measure => simp [intOf]; omega
    · have hjn : j = n := by omega
      subst hjn
      have HC := Lib.hid (colsL_le (n := j) (k := k) M)
      have HE := Lib.hid (elimE_cols (n := j) (k := k) M M)
      clear i0 hi hz0 hz1 hz2 i1 hi1 hy0 hy1 hy2 u0 u1
      go_wp2_with (first
        | (go_at_call 37; refine (columns_any _ _ _ _ _ (H.out.fw hbe.out)).mono ?_; rintro e w' ⟨rfl, rfl⟩)
        | (go_at_call 58; refine (reduce_any w.heap.size j k w.heap.size (colsL (mlist j k M)) M _ ⟨oa, oc, none, 0, hE.out, hM.out, ⟨rfl, .inl ⟨rfl, rfl, rfl⟩⟩⟩ (Nat.le_refl _) HC.out hn hk).mono ?_; rintro e w' ⟨rfl, h2, h3⟩))
      go_ret
      exact ⟨rfl, by rw [← HE.out]; exact h2, hbe.out.trans h3⟩
def aug (k : Nat) (M M2 : Mat) : Mat := fun i c => if c < k then M i c else M2 i (c - k)
theorem mrow_aug (k k2 : Nat) (M M2 : Mat) (j : Nat) : mrow k (M j) ++ mrow k2 (M2 j) = mrow (k + k2) (aug k M M2 j) := by
  apply List.ext_getElem?
  intro i
  by_cases h : i < k
  · rw [List.getElem?_append_left (by rw [mrow_length]; exact h), mrow_get _ h, mrow_get _ (by omega)]
    unfold aug; rw [if_pos h]
  · rw [List.getElem?_append_right (by rw [mrow_length]; omega), mrow_length]
    by_cases h2 : i < k + k2
    · rw [mrow_get _ (show i - k < k2 by omega), mrow_get _ h2]
      unfold aug; rw [if_neg h]
    · rw [List.getElem?_eq_none (by rw [mrow_length]; omega), List.getElem?_eq_none (by rw [mrow_length]; omega)]

set_option maxHeartbeats 4000000 in
theorem eliminate_two (a : Option Addr) (x : Addr) (n c c2 k k2 : Nat) (M M2 : Mat) (w : World) (h : RdM w a n c (mlist n k M)) (hh : RdM w (some x) n c2 (mlist n k2 M2)) (hn : n ≤ 1000) (hk : k + k2 ≤ 1000) :
    Calls Try.prog 38 #[.slice a n c, .slice (some x) n c2] w fun e w' => e = .returned (.pointer (some ⟨w.heap.size, 0, none⟩)) ∧ ESt w' w.heap.size w.heap.size n (k + k2) (elimE n (aug k M M2) k) ∧ Below w.heap.size w w' := by
  obtain ⟨i0, hi, hz0, hz1, hz2⟩ := info_parts info5
  obtain ⟨i1, hi1, hy0, hy1, hy2⟩ := info_parts infoB
  have u0 := Try.underlying23
  have u1 := Try.underlying30
  have H := Lib.hid h
  have HH := Lib.hid hh
  clear h hh
  have b0 := below_alloc (.cells #[.slice none 0 0, .slice none 0 0, .int .u8 1] 72 (0, 0)) (below_refl w)
  have E0 : Hid (ECell (w.alloc (.cells #[.slice none 0 0, .slice none 0 0, .int .u8 1] 72 (0, 0))) w.heap.size (.slice none 0 0) (.slice none 0 0) 1) := heap_alloc_new w _
  go_enter Try.func38, Try.ntmps38
  go_wp2
  go_loopw [6, 7, 8, 13] (fun _ _ _ i wr => ∃ (j : Nat) (oa : Option Addr) (oc : Nat), j ≤ n ∧ i = .int .i64 (j : Int) ∧ Hid (ECell wr w.heap.size (.slice oa j oc) (.slice none 0 0) 1) ∧ Hid (MatR wr w.heap.size oa j oc (k + k2) (aug k M M2)) ∧ Hid (Below w.heap.size w wr)) (fun _ _ _ i _ => n - (intOf i).toNat)
  case atStart => exact ⟨0, none, 0, by omega, rfl, E0.out, MatR.nil _ _ _ _, b0⟩
  case round =>
    obtain ⟨j, oa, oc, hj, rfl, hE, hM, hbe⟩ := hrel
    by_cases hlt : j < n
    · have i2 : (j : Int) < (n : Int) := by omega
      obtain ⟨m, ra, rn, rc, b, o, hm, rfl, c1, hr⟩ := (H.out.fw hbe.out).row hlt
      obtain rfl := mlist_row hm
      obtain rfl : k = rn := by have := hr.len; rwa [mrow_length] at this
      obtain ⟨m2, ra', rn', rc', b', o', hm2, hxx, c1', hr'⟩ := (HH.out.fw hbe.out).row hlt
      cases hxx
      obtain rfl := mlist_row hm2
      obtain rfl : k2 = rn' := by have := hr'.len; rwa [mrow_length] at this
      obtain ⟨L, h3, h4⟩ := hM.out
      have hb1 := below_alloc (.cells (row vb []) 5 (0, 0)) (below_refl wr)
      have N1 := Lib.hid ((blk_new vb 5 wr []).own (Nat.le_refl _) (by simp [maxLen]))
      have HR := Lib.hid (hr.fw hb1)
      have HR' := Lib.hid hr'
      have lb' := lt_of_cell c1'
      have H3 := Lib.hid h3; have H4 := Lib.hid h4; have B1 := Lib.hid hb1
      clear hr hr' hm2 h3 h4 hm hM hb1
      go_wp2_with (first
        | (at_builtin; refine wpList_append_rd rfl (.tmp 18) (.tmp 19) 23 rfl vb (fun _ => rfl) wr.heap.size 5 i0 (.int .u8 0) 1 u0 hi hz0 hz1 hz2 rfl _ 0 0 [] rfl N1.out ra k rc (mrow k (M j)) rfl HR.out (by unfold maxLen; omega) (by omega) B1.out.size ?_; simp only [Nat.zero_add, List.nil_append]; intro ra1 rc1 w4 hown4 hgr4; have b4 : Below wr.heap.size wr w4 := B1.out.grown hgr4 B1.out.size (fun x hx => (N1.out.ownsRow.lt x hx).1); have B4 := Lib.hid b4; have O4 := Lib.hid hown4; have HR4 := Lib.hid (HR'.out.fw b4); have k1' := (cellBelow b4 lb').trans c1'; clear hown4 hgr4 b4)
        | (at_builtin; refine wpList_append_rd rfl (.tmp 23) (.tmp 27) 23 rfl vb (fun _ => rfl) wr.heap.size 5 i0 (.int .u8 0) 1 u0 hi hz0 hz1 hz2 rfl _ k rc1 (mrow k (M j)) rfl O4.out ra' k2 rc' (mrow k2 (M2 j)) rfl HR4.out (by unfold maxLen; omega) (by omega) B4.out.size ?_; rw [mrow_aug]; intro ra2 rc2 w5 hown5 hgr5; have b5 : Below wr.heap.size wr w5 := B4.out.grown hgr5 B4.out.size (fun x hx => own_ge O4.out hx); have E5 := Lib.hid (hE.out.fw b5); have O5 := Lib.hid hown5; have B5 := Lib.hid b5; have e5 := E5.out.c0; have ba6 := below_alloc (.cells (row vh [(ra2, k + k2, rc2)]) 23 (0, 0)) (below_refl w5); have H6 := Lib.hid ((H3.out.fw b5).fw ba6); have E6 := Lib.hid (E5.out.fw ba6); have N6 := Lib.hid (rd_new vh 23 w5 [(ra2, k + k2, rc2)] (n := 1) rfl (by omega)); have R6 := Lib.hid ((hown5.mono (Nat.zero_le _)).fw ba6); have ng := own_neB H6.out E6.out te1; have B6 := Lib.hid (bt b5 ba6); have HB6 := Lib.hid ba6; clear hown5 hgr5 b5 ba6)
        | (at_builtin; refine wpList_append_rd rfl (.tmp 33) (.tmp 35) 30 rfl vh vh_one w.heap.size 23 i1 (.slice none 0 0) 24 u1 hi1 hy0 hy1 hy2 rfl oa j oc L rfl H6.out (some ⟨w5.heap.size, 0, none⟩) 1 1 [(ra2, k + k2, rc2)] rfl N6.out (by unfold maxLen; omega) (by omega) (Nat.le_trans hbe.out.size B6.out.size) ?_; intro sa c2 w7 hown7 hgr7; have E7 : Hid (ECell w7 w.heap.size (.slice oa j oc) (.slice none 0 0) 1) := Lib.hid ((hgr7.block _ E6.out.lt ng).trans E6.out); have e7 := E7.out.c0; have ef7 := E7.out.frozen 0))
      go_roundw
      case rel =>
        have hM7 := matR_push (f := aug k M M2) H6.out (fun i g hg => ((H4.out i g hg).fw B5.out).fw HB6.out) R6.out hown7 hgr7
        refine ⟨j + 1, sa, c2, by omega, by go_num, E7.out.set0 _, ?_, ?_⟩
        · refine (hM7.otherT (p := ⟨w.heap.size, 0, none⟩) E7.out te1 tue _).congr fun i c hi _ => ?_
          by_cases hij : i < j
          · rw [if_pos hij]
          · rw [if_neg hij, show i = j by omega]
        · exact ((bt hbe.out B6.out).grown hgr7 (Nat.le_trans hbe.out.size B6.out.size) (fun x hx => own_ge H6.out hx)).setCell (Nat.le_refl _) _
      case measure => simp [intOf]; omega
    · have hjn : j = n := by omega
      subst hjn
      have HC := Lib.hid (colsL_le (n := j) (k := k) M)
      have HE := Lib.hid (elimE_cols (n := j) (k := k) M (aug k M M2))
      clear i0 hi hz0 hz1 hz2 i1 hi1 hy0 hy1 hy2 u0 u1
      go_wp2_with (first
        | (go_at_call 37; refine (columns_any _ _ _ _ _ (H.out.fw hbe.out)).mono ?_; rintro e w' ⟨rfl, rfl⟩)
        | (go_at_call 58; refine (reduce_any w.heap.size j (k + k2) w.heap.size (colsL (mlist j k M)) (aug k M M2) _ ⟨oa, oc, none, 0, hE.out, hM.out, ⟨rfl, .inl ⟨rfl, rfl, rfl⟩⟩⟩ (Nat.le_refl _) (Nat.le_trans HC.out (Nat.le_add_right _ _)) hn hk).mono ?_; rintro e w' ⟨rfl, h2, h3⟩))
      go_ret
      exact ⟨rfl, by rw [← HE.out]; exact h2, hbe.out.trans h3⟩
end Go.Proofs.Ytioiaiifkfopnaa
