/- MatrixPicks: the walk. -/
import Derived.Test.YtchhfpaicdhjbaaMw
import Derived.Test.YtchhfpaicdhjbaaMo
namespace Go.Proofs.Ytchhfpaicdhjbaa
open Go.RowKit Go.Kin Mat
set_option maxRecDepth 100000
set_option linter.unusedVariables false

theorem rows_ok (a b : Option Addr) (n c k m d : Nat) (f : Mat) (p : List Int) (w : World) (h : RdM w a n c (mlist n k f)) (h2 : Rd vi w b m d p) (hv : VM n k) (hm : m ≤ 64) (hin : InP n p) :
    Calls Try.prog 39 #[.slice a n c, .slice b m d] w fun e w' => ∃ oa oc, e = .returned (.tuple #[.slice oa m oc, .int .i64 0]) ∧ RdM w' oa m oc (mlist m k (pickM f p)) ∧ Below w.heap.size w w' := by
  have hl := h2.len
  refine (rows_any a b n c k m d f p w h h2 hv hm).mono fun e w' hr => ?_
  rcases hr with ⟨_, oa, oc, he, hM, hb⟩ | ⟨hno, _⟩
  · rw [hl] at he hM
    exact ⟨oa, oc, he, hM.rdm, hb⟩
  · exact absurd hin hno
theorem rows_out (a b : Option Addr) (n c k m d : Nat) (f : Mat) (p : List Int) (w : World) (h : RdM w a n c (mlist n k f)) (h2 : Rd vi w b m d p) (hv : VM n k) (hm : m ≤ 64) (hin : ¬ InP n p) :
    Calls Try.prog 39 #[.slice a n c, .slice b m d] w fun e w' => e = .returned (.tuple #[.slice none 0 0, .int .i64 1]) ∧ Below w.heap.size w w' := by
  refine (rows_any a b n c k m d f p w h h2 hv hm).mono fun e w' hr => ?_
  rcases hr with ⟨hin2, _⟩ | ⟨_, he, hb⟩
  · exact absurd hin2 hin
  · exact ⟨he, hb⟩
/-- The rows that the statement gathers: headers of its own, rows of the argument. -/
def Wnt (B : Nat) (w wr : World) (oa : Option Addr) (j oc k : Nat) (f : Mat) (p : List Int) : Prop :=
  ∃ L, Own vh B 34 wr oa j oc L ∧ ∀ (i : Nat) (h : Option Addr × Nat × Nat), L[i]? = some h → Rd vb w h.1 h.2.1 h.2.2 (mrow k (pickM f p i))
theorem Wnt.rdm {B : Nat} {w wr : World} {oa : Option Addr} {j oc k : Nat} {f : Mat} {p : List Int} (h : Wnt B w wr oa j oc k f p) (hb : Below w.heap.size w wr) : RdM wr oa j oc (mlist j k (pickM f p)) := by
  obtain ⟨L, h1, h2⟩ := h
  refine ⟨L, h1.rd, mlist_length _ _ _, fun i x m hi hm => ?_⟩
  have hlt := (List.getElem?_eq_some_iff.1 hm).1
  rw [mlist_length] at hlt
  rw [mlist_get _ hlt] at hm
  cases hm
  exact (h2 i x hi).fw hb

set_option maxHeartbeats 8000000 in
theorem walk_MatrixPicks (a : Option Addr) (n c : Nat) (A : List (List Nat)) (b : Option Addr) (m d : Nat) (p : List Int) (w : World) (h1 : RdM w a n c A) (hb1 : ∀ m ∈ A, ∀ x ∈ m, x < 256) (h2 : Rd vi w b m d p) (_hp : ∀ z ∈ p, -9223372036854775808 ≤ z ∧ z ≤ 9223372036854775807) :
    Calls Try.prog 10 #[.slice a n c, .slice b m d] w fun e w' => e = .returned (.bool true) ∧ Below w.heap.size w w' := by
  have hm63 : m ≤ 9223372036854775807 := by have := h2.cap; have := h2.max; unfold maxLen at *; omega
  by_cases hfA : FewL A 8
  case neg =>
    have HF := decide_eq_false hfA
    go_enter Try.func10, Try.ntmps10
    go_wp2_with (first
      | (go_at_call 13; refine (few_any _ _ _ _ 8 _ h1).mono ?_; rw [HF]; rintro e w' ⟨rfl, rfl⟩)
      | (go_at_call 14; refine (awake_any _).mono ?_; rintro e w1 ⟨rfl, b1⟩))
    go_ret
    exact ⟨rfl, b1⟩
  have HF := decide_eq_true hfA
  by_cases hm10 : m ≤ 10
  case neg =>
    have e1 : decide ((10 : Int) < (m : Int)) = true := by simp; omega
    go_enter Try.func10, Try.ntmps10
    go_wp2_with (first
      | (go_at_call 13; refine (few_any _ _ _ _ 8 _ h1).mono ?_; rw [HF]; rintro e w' ⟨rfl, rfl⟩)
      | (go_at_call 14; refine (awake_any _).mono ?_; rintro e w1 ⟨rfl, b1⟩))
    go_ret
    exact ⟨rfl, b1⟩
  have e1 : decide ((10 : Int) < (m : Int)) = false := by simp; omega
  by_cases hok : ValidL A
  case neg =>
    have dA := decide_eq_false hok
    have HO := Lib.hid hok
    clear hok hfA
    go_enter Try.func10, Try.ntmps10
    go_wp2_with (first
      | (go_at_call 13; refine (few_any _ _ _ _ 8 _ h1).mono ?_; rw [HF]; rintro e w' ⟨rfl, rfl⟩)
      | (go_at_call 38; refine (transp_bad _ _ _ A _ (by repeat (first | assumption | apply RdM.alloc | (apply RdM.fw2; assumption))) HO.out).mono ?_; rintro e w' ⟨rfl, rfl⟩)
      | (go_at_call 39; refine (rows_bad _ _ _ _ _ _ A _ (by repeat (first | assumption | apply RdM.alloc | (apply RdM.fw2; assumption))) HO.out).mono ?_; rintro e w' ⟨rfl, rfl⟩)
      | (go_at_call 16; refine (rvalid_any _ _ _ _ _ (by repeat (first | assumption | apply RdM.alloc | (apply RdM.fw2; assumption)))).mono ?_; rintro e w2 ⟨rfl, hd⟩; have b2 := hd.fw; clear hd)
      | (go_at_call 14; refine (awake_any _).mono ?_; rintro e w4 ⟨rfl, b4⟩))
    go_ret
    exact ⟨rfl, (by repeat (first | assumption | apply below_alloc | (apply bt'; assumption)))⟩
  have dA := decide_eq_true hok
  obtain ⟨k, f, v1, hk, rfl⟩ := valid_form h1 hb1 hok
  have hn := v1.hn; have hkk := v1.hk
  obtain ⟨i1, hi1, hy0, hy1, hy2⟩ := info_parts infoB
  have u1 := Try.underlying22
  clear hok hfA hk hb1 _hp
  by_cases hin : InP n p
  · have HI := Lib.hid hin
    clear hin
    go_enter Try.func10, Try.ntmps10
    go_wp2_with (first
      | (go_at_call 13; refine (few_any _ _ _ _ 8 _ h1).mono ?_; rw [HF]; rintro e w' ⟨rfl, rfl⟩)
      | (go_at_call 38; refine (transp_any _ _ _ _ f _ (by repeat (first | assumption | apply RdM.alloc | (apply RdM.fw2; assumption))) v1).mono ?_; rintro e w1 ⟨o1, rfl, hM, b1⟩; have r1 := hM.rdm (by omega); clear hM)
      | (go_at_call 39; refine (rows_ok _ _ _ _ _ _ _ f p _ (by repeat (first | assumption | apply RdM.alloc | (apply RdM.fw2; assumption))) (by repeat (first | assumption | apply Rd.alloc | (apply Rd.fw2; assumption))) v1 (by omega) HI.out).mono ?_; rintro e w2 ⟨a2, c2, rfl, r2, b2⟩)
      | (go_at_call 16; refine (rvalid_any _ _ _ _ _ (by repeat (first | assumption | apply RdM.alloc | (apply RdM.fw2; assumption)))).mono ?_; rintro e w3 ⟨rfl, hd⟩; have b3 := hd.fw; clear hd)
      | (go_at_call 40; refine (rtransp_any _ _ _ _ f _ (by repeat (first | assumption | apply RdM.alloc | (apply RdM.fw2; assumption))) v1).mono ?_; rintro e w4 ⟨a4, c4, rfl, hM, b4⟩; have r4 := hM.rdm (by omega); clear hM)
      | (go_at_call 21; refine (msame_eq _ _ _ _ _ _ _ _ _ (by repeat (first | assumption | apply RdM.alloc | (apply RdM.fw2; assumption))) (by repeat (first | assumption | apply RdM.alloc | (apply RdM.fw2; assumption))) mlist_b rfl).mono ?_; rintro e w5 ⟨rfl, hd⟩; have b5 := hd.fw; clear hd))
    have hr2' : RdM w5 a2 m c2 (mlist m k (pickM f p)) := (by repeat (first | assumption | apply RdM.alloc | (apply RdM.fw2; assumption)))
    have hb5' : Below w.heap.size w w5 := (by repeat (first | assumption | apply below_alloc | (apply bt'; assumption)))
    have HB5 := Lib.hid hb5'; have HR2 := Lib.hid hr2'
    have O6 := Lib.hid ((blk_new vh 34 w5 []).own (B := w5.heap.size) (Nat.le_refl _) (by simp [maxLen]))
    have H1 := Lib.hid h1; have H2 := Lib.hid h2
    clear r1 r2 r4 b1 b2 b3 b4 b5 h1 h2 hb5' hr2'
    go_loopw [9, 10] (fun r i wr => ∃ (j : Nat) (oa : Option Addr) (oc : Nat), j ≤ m ∧ i = .int .i64 (j : Int) ∧ r = .slice oa j oc ∧ Hid (Wnt w5.heap.size w wr oa j oc k f p) ∧ Hid (Below w5.heap.size w5 wr)) (fun _ i _ => m - (intOf i).toNat)
    case atStart => exact ⟨0, _, 0, by omega, rfl, rfl, ⟨[], O6.out, by simp⟩, below_alloc _ (below_refl w5)⟩
    case round =>
      obtain ⟨j, oa, oc, hj, rfl, rfl, hW, hb5⟩ := hrel
      have hbe := Lib.hid (bt HB5.out hb5.out)
      by_cases hlt : j < m
      · have i2 : (j : Int) < (m : Int) := by omega
        obtain ⟨x, hx⟩ : ∃ x, p[j]? = some x := ⟨_, List.getElem?_eq_getElem (by rw [H2.out.len]; omega)⟩
        obtain ⟨b1, o1, rfl, c1⟩ := (H2.out.fw hbe.out).cell j x hx
        unfold vi at c1
        obtain ⟨hr0, hr1⟩ := HI.out x (List.mem_of_getElem? hx)
        obtain ⟨q, rfl⟩ := Int.eq_ofNat_of_zero_le hr0
        have hq : q < n := by omega
        have HX := Lib.hid hx
        obtain ⟨rr, ra, rn, rc, ba, ob, hmr, rfl, c0w, hrow⟩ := H1.out.row hq
        have c0 := (cellBelow hbe.out (lt_of_cell c0w)).trans c0w
        obtain rfl := mlist_row hmr
        obtain rfl : k = rn := by have := hrow.len; rwa [mrow_length] at this
        obtain ⟨L, h3, h4⟩ := hW.out
        have HROW := Lib.hid hrow; have H4 := Lib.hid h4
        have e7 : decide ((q : Int) < 0) = false := by simp
        have e8 : decide (n ≤ q) = false := by simp; omega
        have ba6 := below_alloc (.cells (row vh [(ra, k, rc)]) 34 (0, 0)) (below_refl wr)
        have H6 := Lib.hid (h3.fw ba6)
        have N6 := Lib.hid (rd_new vh 34 wr [(ra, k, rc)] (n := 1) rfl (by omega))
        have B7 := Lib.hid (bt hb5.out ba6)
        clear hx c0w hrow h3 h4 hmr hW ba6
        go_wp2_with (at_builtin; refine wpList_append_rd rfl (.tmp 93) (.tmp 101) 22 rfl vh vh_one w5.heap.size 34 i1 (.slice none 0 0) 24 u1 hi1 hy0 hy1 hy2 rfl oa j oc L rfl H6.out (some ⟨wr.heap.size, 0, none⟩) 1 1 [(ra, k, rc)] rfl N6.out (by unfold maxLen; omega) (by omega) B7.out.size ?_; intro sa c2' w7 hown7 hgr7)
        go_roundw
        case rel =>
          refine ⟨j + 1, sa, c2', by omega, by go_num, rfl, ⟨L ++ [(ra, k, rc)], hown7, fun i h hi => ?_⟩, B7.out.grown hgr7 B7.out.size (fun x hx => own_ge H6.out hx)⟩
          · have hlen := H6.out.len
            by_cases e : i < j
            · rw [List.getElem?_append_left (by omega)] at hi
              exact H4.out i h hi
            · rw [List.getElem?_append_right (by omega)] at hi
              have e2 : i = j := by
                rcases Nat.eq_zero_or_pos (i - L.length) with e3 | e3
                · omega
                · rw [List.getElem?_eq_none (by simp; omega)] at hi; cases hi
              subst e2
              rw [hlen, Nat.sub_self] at hi
              cases hi
              have e3 : pickM f p i = f q := by unfold pickM; rw [List.getD_eq_getElem?_getD, HX.out]; rfl
              rw [e3]; exact HROW.out
        case measure => simp [intOf]; omega
      · have hjm : j = m := by omega
        subst hjm
        have rW := hW.out.rdm hbe.out
        have rR := HR2.out.fw hb5.out
        have bw := hbe.out
        clear hW hbe hb5 HR2 HB5 O6
        go_wp2_with (first
          | (go_at_call 21; refine (msame_eq _ _ _ _ _ _ _ _ _ (by repeat (first | assumption | apply RdM.alloc | (apply RdM.fw2; assumption))) (by repeat (first | assumption | apply RdM.alloc | (apply RdM.fw2; assumption))) mlist_b rfl).mono ?_; rintro e w8 ⟨rfl, hd⟩; have b8 := hd.fw; clear hd)
          | (go_at_call 14; refine (awake_any _).mono ?_; rintro e w9 ⟨rfl, b9⟩))
        go_ret
        exact ⟨rfl, (by repeat (first | assumption | apply below_alloc | (apply bt'; assumption)))⟩
  · have HI := Lib.hid hin
    clear hin
    go_enter Try.func10, Try.ntmps10
    go_wp2_with (first
      | (go_at_call 13; refine (few_any _ _ _ _ 8 _ h1).mono ?_; rw [HF]; rintro e w' ⟨rfl, rfl⟩)
      | (go_at_call 38; refine (transp_any _ _ _ _ f _ (by repeat (first | assumption | apply RdM.alloc | (apply RdM.fw2; assumption))) v1).mono ?_; rintro e w1 ⟨o1, rfl, hM, b1⟩; have r1 := hM.rdm (by omega); clear hM)
      | (go_at_call 39; refine (rows_out _ _ _ _ _ _ _ f p _ (by repeat (first | assumption | apply RdM.alloc | (apply RdM.fw2; assumption))) (by repeat (first | assumption | apply Rd.alloc | (apply Rd.fw2; assumption))) v1 (by omega) HI.out).mono ?_; rintro e w2 ⟨rfl, b2⟩)
      | (go_at_call 16; refine (rvalid_any _ _ _ _ _ (by repeat (first | assumption | apply RdM.alloc | (apply RdM.fw2; assumption)))).mono ?_; rintro e w3 ⟨rfl, hd⟩; have b3 := hd.fw; clear hd)
      | (go_at_call 40; refine (rtransp_any _ _ _ _ f _ (by repeat (first | assumption | apply RdM.alloc | (apply RdM.fw2; assumption))) v1).mono ?_; rintro e w4 ⟨a4, c4, rfl, hM, b4⟩; have r4 := hM.rdm (by omega); clear hM)
      | (go_at_call 21; refine (msame_eq _ _ _ _ _ _ _ _ _ (by repeat (first | assumption | apply RdM.alloc | (apply RdM.fw2; assumption))) (by repeat (first | assumption | apply RdM.alloc | (apply RdM.fw2; assumption))) mlist_b rfl).mono ?_; rintro e w5 ⟨rfl, hd⟩; have b5 := hd.fw; clear hd))
    have hb5' : Below w.heap.size w w5 := (by repeat (first | assumption | apply below_alloc | (apply bt'; assumption)))
    have HB5 := Lib.hid hb5'
    have O6 := Lib.hid ((blk_new vh 34 w5 []).own (B := w5.heap.size) (Nat.le_refl _) (by simp [maxLen]))
    have H1 := Lib.hid h1; have H2 := Lib.hid h2
    clear r1 r4 b1 b2 b3 b4 b5 h1 h2 hb5'
    go_loopw [9, 10] (fun r i wr => ∃ (j : Nat) (oa : Option Addr) (oc : Nat), j ≤ m ∧ i = .int .i64 (j : Int) ∧ r = .slice oa j oc ∧ Hid (Wnt w5.heap.size w wr oa j oc k f p) ∧ Hid (∀ (t : Nat) (x : Int), t < j → p[t]? = some x → 0 ≤ x ∧ x < (n : Int)) ∧ Hid (Below w5.heap.size w5 wr)) (fun _ i _ => m - (intOf i).toNat)
    case atStart => exact ⟨0, _, 0, by omega, rfl, rfl, ⟨[], O6.out, by simp⟩, fun t x ht => by omega, below_alloc _ (below_refl w5)⟩
    case round =>
      obtain ⟨j, oa, oc, hj, rfl, rfl, hW, hall, hb5⟩ := hrel
      have hbe := Lib.hid (bt HB5.out hb5.out)
      by_cases hlt : j < m
      · have i2 : (j : Int) < (m : Int) := by omega
        obtain ⟨x, hx⟩ : ∃ x, p[j]? = some x := ⟨_, List.getElem?_eq_getElem (by rw [H2.out.len]; omega)⟩
        obtain ⟨b1, o1, rfl, c1⟩ := (H2.out.fw hbe.out).cell j x hx
        unfold vi at c1
        by_cases hr : 0 ≤ x ∧ x < (n : Int)
        case neg =>
          have hsel : x < 0 ∨ (0 ≤ x ∧ (n : Int) ≤ x) := by omega
          have bw := hbe.out
          clear hr hx hW hbe hb5 HB5 O6
          rcases hsel with h | ⟨h, h'⟩
          all_goals
            go_wp2_with (go_at_call 14; refine (awake_any _).mono ?_; rintro e w9 ⟨rfl, b9⟩)
            go_ret
            exact ⟨rfl, (by repeat (first | assumption | apply below_alloc | (apply bt'; assumption)))⟩
        obtain ⟨hr0, hr1⟩ := hr
        obtain ⟨q, rfl⟩ := Int.eq_ofNat_of_zero_le hr0
        have hq : q < n := by omega
        have HX := Lib.hid hx
        have hall2 : Hid (∀ (t : Nat) (x : Int), t < j + 1 → p[t]? = some x → 0 ≤ x ∧ x < (n : Int)) := by
          intro t y ht hy
          by_cases e : t = j
          · rw [e, HX.out] at hy; cases hy; exact ⟨hr0, hr1⟩
          · exact hall.out t y (by omega) hy
        obtain ⟨rr, ra, rn, rc, ba, ob, hmr, rfl, c0w, hrow⟩ := H1.out.row hq
        have c0 := (cellBelow hbe.out (lt_of_cell c0w)).trans c0w
        obtain rfl := mlist_row hmr
        obtain rfl : k = rn := by have := hrow.len; rwa [mrow_length] at this
        obtain ⟨L, h3, h4⟩ := hW.out
        have HROW := Lib.hid hrow; have H4 := Lib.hid h4
        have e7 : decide ((q : Int) < 0) = false := by simp
        have e8 : decide (n ≤ q) = false := by simp; omega
        have ba6 := below_alloc (.cells (row vh [(ra, k, rc)]) 34 (0, 0)) (below_refl wr)
        have H6 := Lib.hid (h3.fw ba6)
        have N6 := Lib.hid (rd_new vh 34 wr [(ra, k, rc)] (n := 1) rfl (by omega))
        have B7 := Lib.hid (bt hb5.out ba6)
        clear hx c0w hrow h3 h4 hmr hW ba6
        go_wp2_with (at_builtin; refine wpList_append_rd rfl (.tmp 93) (.tmp 101) 22 rfl vh vh_one w5.heap.size 34 i1 (.slice none 0 0) 24 u1 hi1 hy0 hy1 hy2 rfl oa j oc L rfl H6.out (some ⟨wr.heap.size, 0, none⟩) 1 1 [(ra, k, rc)] rfl N6.out (by unfold maxLen; omega) (by omega) B7.out.size ?_; intro sa c2' w7 hown7 hgr7)
        go_roundw
        case rel =>
          refine ⟨j + 1, sa, c2', by omega, by go_num, rfl, ⟨L ++ [(ra, k, rc)], hown7, fun i h hi => ?_⟩, hall2.out, B7.out.grown hgr7 B7.out.size (fun x hx => own_ge H6.out hx)⟩
          · have hlen := H6.out.len
            by_cases e : i < j
            · rw [List.getElem?_append_left (by omega)] at hi
              exact H4.out i h hi
            · rw [List.getElem?_append_right (by omega)] at hi
              have e2 : i = j := by
                rcases Nat.eq_zero_or_pos (i - L.length) with e3 | e3
                · omega
                · rw [List.getElem?_eq_none (by simp; omega)] at hi; cases hi
              subst e2
              rw [hlen, Nat.sub_self] at hi
              cases hi
              have e3 : pickM f p i = f q := by unfold pickM; rw [List.getD_eq_getElem?_getD, HX.out]; rfl
              rw [e3]; exact HROW.out
        case measure => simp [intOf]; omega
      · exfalso
        refine HI.out fun x hx => ?_
        obtain ⟨t, ht⟩ := List.mem_iff_getElem?.1 hx
        exact hall.out t x (by have := (List.getElem?_eq_some_iff.1 ht).1; have := H2.out.len; omega) ht
end Go.Proofs.Ytchhfpaicdhjbaa
