/- matrix.zeros; kinkeepref04.Zero, Same, Ints; kinkeeplaw04.column, free. -/
import Derived.Test.YtchhfpaicdhjbaaMz
namespace Go.Proofs.Ytchhfpaicdhjbaa
open Go.RowKit Go.Kin Mat
set_option maxRecDepth 100000

theorem set_next {α : Type} {A : List α} {z x : α} {j r : Nat} (hA : A.length = j) (hj : j < r) : (A ++ List.replicate (r - j) z).set j x = (A ++ [x]) ++ List.replicate (r - (j + 1)) z := by
  rw [List.set_append, if_neg (by omega), hA, Nat.sub_self, show r - j = (r - (j + 1)) + 1 from by omega, List.replicate_succ, List.set_cons_zero, List.append_assoc]; rfl
theorem get_next {α : Type} {A : List α} {z : α} {j r : Nat} (hA : A.length = j) (hj : j < r) : (A ++ List.replicate (r - j) z)[j]? = some z := by
  rw [List.getElem?_append_right (by omega), hA, Nat.sub_self, List.getElem?_replicate, if_pos (by omega)]

set_option maxHeartbeats 1000000 in
theorem zeros_any (r k : Nat) (w : World) (hr : r ≤ 1000) (hk : k ≤ 1000) :
    Calls Try.prog 50 #[.int .i64 (r : Int), .int .i64 (k : Int)] w fun e w' => ∃ o, e = .returned (.slice (some ⟨o, 0, none⟩) r r) ∧ MatB w' w.heap.size (some ⟨o, 0, none⟩) r r k (fun _ _ => 0) ∧ Below w.heap.size w w' := by
  obtain ⟨i0, hi, hz0, hz1, hz2⟩ := info_parts info5
  obtain ⟨i1, hi1, hy0, hy1, hy2⟩ := info_parts infoB
  have u0 := Try.underlying34
  have u1 := Try.underlying22
  go_enter Try.func50, Try.ntmps50
  go_wp2_with (at_make; refine wpList_make_blk rfl (.tmp 7) (.tmp 7) 22 rfl vh (none, 0, 0) 34 i1 u1 hi1 hy0 hy1 rfl _ _ _ _ r rfl rfl rfl rfl (by rw [hy2]; omega) (by omega) ?_; intro w2 hk2 hb2 hs2; have HK2 := Lib.hid hk2; clear hk2 hs2)
  go_loopw [6, 11] (fun _ i wr => ∃ (j : Nat) (G : List Nat), j ≤ r ∧ i = .int .i64 (j : Int) ∧ Hid (G.length = j) ∧ Hid G.Nodup ∧ Hid (∀ g ∈ G, w.heap.size ≤ g ∧ g < wr.heap.size) ∧ Hid (Blk vh 34 wr w.heap.size (G.map (hdr k) ++ List.replicate (r - j) (none, 0, 0))) ∧ Hid (∀ (i g : Nat), G[i]? = some g → Blk vb 5 wr g (List.replicate k 0)) ∧ Below w.heap.size w wr) (fun _ i _ => r - (intOf i).toNat)
  case atStart =>
    refine ⟨0, [], by omega, rfl, rfl, List.nodup_nil, by simp [Hid], ?_, fun i g h => by simp at h, hb2⟩
    exact HK2.out
  case round =>
    obtain ⟨j, G, hj, rfl, hl, hnd, hG, hO, hR, hbe⟩ := hrel
    have hlm : (G.map (hdr k)).length = j := by rw [List.length_map]; exact hl.out
    by_cases hlt : j < r
    · have i2 : (j : Int) < (r : Int) := by omega
      have hws := hbe.size
      have hn2 : w.heap.size < wr.heap.size := hO.out.lt
      have HLM := Lib.hid hlm
      have hlen : (G.map (hdr k) ++ List.replicate (r - j) ((none, 0, 0) : Option Addr × Nat × Nat)).length = r := by rw [List.length_append, hlm, List.length_replicate]; omega
      have HLEN := Lib.hid hlen
      clear hlm hlen
      go_wp2_with (at_make; refine wpList_make_blk rfl (.tmp 16) (.tmp 16) 34 rfl vb 0 5 i0 u0 hi hz0 hz1 rfl _ _ _ _ k rfl rfl rfl rfl (by rw [hz2]; omega) (by omega) ?_; intro w5 hk5 hb5 hs5; have HK5 := Lib.hid hk5; have HO5 := Lib.hid (hO.out.fw hb5); have d5 := HO5.out.cell (get_next HLM.out hlt); have f5 := HO5.out.frozen j; unfold vh at d5; have HS5 := Lib.hid hs5; clear hk5 hs5)
      go_roundw
      case rel =>
        have hne : w.heap.size ≠ wr.heap.size := by omega
        refine ⟨j + 1, G ++ [wr.heap.size], by omega, by go_num, ?_, ?_, ?_, ?_, ?_, (bt hbe hb5).setCell (Nat.le_refl _) _⟩
        · show (G ++ [_]).length = _
          rw [List.length_append, hl.out]; rfl
        · refine nodup_snoc' hnd.out fun hm => ?_
          have := (hG.out _ hm).2; omega
        · intro g hg
          have e : (w5.setCell ⟨w.heap.size, j, none⟩ (.slice (some ⟨wr.heap.size, 0, none⟩) k k)).heap.size = w5.heap.size := by simp [World.setCell]
          rw [e, HS5.out]
          rcases List.mem_append.1 hg with hg | hg
          · have := hG.out g hg; omega
          · have := List.mem_singleton.1 hg; omega
        · have := HO5.out.set j (hdr k wr.heap.size)
          rw [set_next HLM.out hlt] at this
          show Blk _ _ _ _ _
          rw [List.map_append]
          exact this
        · intro i g hg
          by_cases hi2 : i < G.length
          · rw [List.getElem?_append_left hi2] at hg
            exact ((hR.out i g hg).fw hb5).other _ _ (((hR.out i g hg).fw hb5).ne HO5.out tt')
          · rw [List.getElem?_append_right (by omega)] at hg
            have hg2 : g = wr.heap.size := by
              rcases Nat.eq_zero_or_pos (i - G.length) with e | e
              · rw [e] at hg; simpa using hg.symm
              · rw [List.getElem?_eq_none (by simp; omega)] at hg; cases hg
            rw [hg2]
            exact HK5.out.other _ _ (HK5.out.ne HO5.out tt')
      case measure => simp [intOf]; omega
    · have hjr : j = r := by omega
      subst hjr
      have HLM := Lib.hid hlm
      clear hlm
      go_wp2
      go_ret
      have hO2 := hO.out
      rw [Nat.sub_self, List.replicate_zero, List.append_nil] at hO2
      have hown := hO2.own (B := w.heap.size) (Nat.le_refl _) (by rw [HLM.out]; unfold maxLen; omega)
      rw [HLM.out] at hown
      refine ⟨w.heap.size, rfl, ⟨G, hnd.out, fun g hg => (hG.out g hg).1, hown, fun i g hg => ?_⟩, hbe⟩
      rw [← mrow_zero]
      exact hR.out i g hg

set_option maxHeartbeats 1000000 in
theorem rzero_any (r k : Nat) (w : World) (hr : r ≤ 1000) (hk : k ≤ 1000) :
    Calls Try.prog 24 #[.int .i64 (r : Int), .int .i64 (k : Int)] w fun e w' => ∃ oa oc, e = .returned (.slice oa r oc) ∧ MatB w' w.heap.size oa r oc k (fun _ _ => 0) ∧ Below w.heap.size w w' := by
  obtain ⟨i0, hi, hz0, hz1, hz2⟩ := info_parts info5
  obtain ⟨i1, hi1, hy0, hy1, hy2⟩ := info_parts infoB
  have u0 := Try.underlying34
  have u1 := Try.underlying22
  have M0 := Lib.hid (matB_empty w k fun _ _ => 0)
  have hb1 := below_alloc (.cells (row vh []) 34 (0, 0)) (below_refl w)
  go_enter Try.func24, Try.ntmps24
  go_wp2
  go_loopw [5, 6] (fun o i wr => ∃ (j : Nat) (oa : Option Addr) (oc : Nat), j ≤ r ∧ i = .int .i64 (j : Int) ∧ o = .slice oa j oc ∧ Hid (MatB wr w.heap.size oa j oc k fun _ _ => 0) ∧ Below w.heap.size w wr) (fun _ i _ => r - (intOf i).toNat)
  case atStart => exact ⟨0, _, 0, by omega, rfl, rfl, M0.out, hb1⟩
  case round =>
    obtain ⟨j, oa, oc, hj, rfl, rfl, hM, hbe⟩ := hrel
    by_cases hlt : j < r
    · have i2 : (j : Int) < (r : Int) := by omega
      obtain ⟨G, h1, h2, h3, h4⟩ := hM.out
      have hG : ∀ g ∈ G, g < wr.heap.size := fun g hg => by
        obtain ⟨t, ht⟩ := List.mem_iff_getElem?.1 hg
        exact (h4 t g ht).lt
      have H3 := Lib.hid h3; have H4 := Lib.hid h4; have HG := Lib.hid hG; have HN := Lib.hid h1; have H2 := Lib.hid h2
      clear hM h1 h2 h3 h4 hG
      go_wp2_with (first
        | (at_make; refine wpList_make_blk rfl (.tmp 14) (.tmp 14) 34 rfl vb 0 5 i0 u0 hi hz0 hz1 rfl _ _ _ _ k rfl rfl rfl rfl (by rw [hz2]; omega) (by omega) ?_; intro w5 hk5 hb5 hs5; have b5 := bt hbe hb5; have ba5 := below_alloc (.cells (row vh [hdr k wr.heap.size]) 34 (0, 0)) (below_refl w5); have b6 := below_alloc (.cells (row vh [hdr k wr.heap.size]) 34 (0, 0)) b5; have K6 := Lib.hid (hk5.fw ba5); have O6 := Lib.hid ((H3.out.fw hb5).fw ba5); have N6 := Lib.hid (rd_new vh 34 w5 [hdr k wr.heap.size] (n := 1) rfl (by omega)); clear hk5 hs5)
        | (at_builtin; refine wpList_append_rd rfl (.tmp 13) (.tmp 16) 22 rfl vh vh_one w.heap.size 34 i1 (.slice none 0 0) 24 u1 hi1 hy0 hy1 hy2 rfl _ j oc _ rfl O6.out (some ⟨w5.heap.size, 0, none⟩) 1 1 [hdr k wr.heap.size] rfl N6.out (by unfold maxLen; omega) (by omega) b6.size ?_; intro sa c2 w7 hown hgr))
      go_roundw
      case rel =>
        have hM7 := matB_push (f := fun _ _ => 0) HN.out H2.out O6.out (fun i g hg => ((H4.out i g hg).fw hb5).fw ba5) (g := wr.heap.size) (u := fun _ => 0) (by rw [← mrow_zero]; exact K6.out) hbe.size (fun hm => by have := HG.out _ hm; omega) hown hgr
        refine ⟨j + 1, sa, c2, by omega, by go_num, rfl, hM7.congr fun i c _ _ => by split <;> rfl, ?_⟩
        exact b6.grown hgr b6.size fun x hx => (O6.out.ownsRow.lt x hx).1
      case measure => simp [intOf]; omega
    · have hjr : j = r := by omega
      subst hjr
      go_wp2
      go_ret
      exact ⟨oa, oc, rfl, hM.out, hbe⟩

theorem msame_any (a b : Option Addr) (n m c d : Nat) (M N : List (List Nat)) (w : World) (h1 : RdM w a n c M) (h2 : RdM w b m d N) (hM : ∀ x ∈ M, Gf.Byt x) (hN : ∀ x ∈ N, Gf.Byt x) :
    Calls Try.prog 21 #[.slice a n c, .slice b m d] w fun e w' => e = .returned (.bool (decide (M = N))) ∧ Drw w w' := by
  have H1 := Lib.hid h1; have H2 := Lib.hid h2
  have l1 := Lib.hid h1.len; have l2 := Lib.hid h2.len
  have x1 := h1.lim
  clear h1 h2
  by_cases hnm : n = m
  · subst hnm
    have e0 : (((n : Nat) : Int) != ((n : Nat) : Int)) = false := by simp
    go_enter Try.func21, Try.ntmps21
    go_wp2
    go_loopw [5] (fun i wr => ∃ j : Nat, j ≤ n ∧ i = .int .i64 (j : Int) ∧ Hid (∀ t : Nat, t < j → M[t]? = N[t]?) ∧ Hid (Drw w wr)) (fun i _ => n - (intOf i).toNat)
    case atStart => exact ⟨0, by omega, rfl, fun t ht => by omega, Drw.refl w⟩
    case round =>
      obtain ⟨j, hj, rfl, hv, hd⟩ := hrel
      by_cases hlt : j < n
      · obtain ⟨x, ra, rn, rc, b1, o1, hx, rfl, c1, hr1⟩ := (H1.out.fw hd.out.fw).row (i := j) hlt
        obtain ⟨y, rb, rm, rd, b2, o2, hy, rfl, c2, hr2⟩ := (H2.out.fw hd.out.fw).row (i := j) hlt
        have s1 := fun k => run_string_rd (P := Try.prog) (hr1.drw ((Drw.refl _).step k)) Try.underlying34 Try.underlying5 Try.underlying9
        have s2 := fun k => run_string_rd (P := Try.prog) (hr2.drw ((Drw.refl _).step k)) Try.underlying34 Try.underlying5 Try.underlying9
        have e1 := strB_toList (hM x (List.mem_of_getElem? hx)) (hN y (List.mem_of_getElem? hy))
        have i1 : (j : Int) < (n : Int) := by omega
        by_cases hxy : x = y
        · subst hxy
          have hv2 : Hid (∀ t : Nat, t < j + 1 → M[t]? = N[t]?) := by
            intro t ht
            by_cases e : t = j
            · rw [e, hx, hy]
            · exact hv.out t (by omega)
          rw [decide_eq_true rfl] at e1
          have e2 : ((strB x).toList != (strB x).toList) = false := by simp
          clear hx hy hr1 hr2
          go_wp2_with fail
          go_quiet (fail)
          go_wp2
          go_roundw
          case rel => exact ⟨j + 1, by omega, by go_num, hv2, hd.out.step nq⟩
          case measure => simp [intOf]; omega
        · have hf : Hid (decide (M = N) = false) := decide_eq_false fun e => hxy (by rw [e, hy] at hx; cases hx; rfl)
          rw [decide_eq_false hxy] at e1
          have e2 : ((strB x).toList != (strB y).toList) = true := by rw [bne, e1]; rfl
          clear hx hy hr1 hr2 hxy
          go_wp2_with fail
          go_quiet (fail)
          go_wp2
          go_ret
          exact ⟨ret_bool hf.out.symm, hd.out.step nq⟩
      · have hf : Hid (decide (M = N) = true) := by
          refine decide_eq_true (List.ext_getElem? fun t => ?_)
          by_cases ht : t < n
          · exact hv.out t (by omega)
          · rw [List.getElem?_eq_none (by rw [l1.out]; omega), List.getElem?_eq_none (by rw [l2.out]; omega)]
        go_wp2
        go_ret
        exact ⟨ret_bool hf.out.symm, hd.out⟩
  · have e0 : (((n : Nat) : Int) != ((m : Nat) : Int)) = true := by simp; omega
    have hf : Hid (decide (M = N) = false) := decide_eq_false fun e => hnm (by rw [← l1.out, ← l2.out, e])
    go_enter Try.func21, Try.ntmps21
    go_wp2
    go_ret
    exact ⟨ret_bool hf.out.symm, Drw.refl w⟩
theorem msame_eq (a b : Option Addr) (n m c d : Nat) (M N : List (List Nat)) (w : World) (h1 : RdM w a n c M) (h2 : RdM w b m d N) (hM : ∀ x ∈ M, Gf.Byt x) (h : M = N) :
    Calls Try.prog 21 #[.slice a n c, .slice b m d] w fun e w' => e = .returned (.bool true) ∧ Drw w w' :=
  (msame_any a b n m c d M N w h1 h2 hM (h ▸ hM)).mono fun _ _ ⟨he, hw⟩ => ⟨by rw [he, decide_eq_true h], hw⟩

theorem ints_any (a b : Option Addr) (n m c d : Nat) (p q : List Int) (w : World) (h1 : Rd vi w a n c p) (h2 : Rd vi w b m d q) :
    Calls Try.prog 30 #[.slice a n c, .slice b m d] w fun e w' => e = .returned (.bool (decide (p = q))) ∧ Drw w w' := by
  have H1 := Lib.hid h1; have H2 := Lib.hid h2
  have l1 := Lib.hid h1.len; have l2 := Lib.hid h2.len
  have x1 : n ≤ 9223372036854775807 := by have := h1.cap; have := h1.max; unfold maxLen at *; omega
  clear h1 h2
  by_cases hnm : n = m
  · subst hnm
    have e0 : (((n : Nat) : Int) != ((n : Nat) : Int)) = false := by simp
    go_enter Try.func30, Try.ntmps30
    go_wp2
    go_loopw [5] (fun i wr => ∃ j : Nat, j ≤ n ∧ i = .int .i64 (j : Int) ∧ Hid (∀ t : Nat, t < j → p[t]? = q[t]?) ∧ Hid (Drw w wr)) (fun i _ => n - (intOf i).toNat)
    case atStart => exact ⟨0, by omega, rfl, fun t ht => by omega, Drw.refl w⟩
    case round =>
      obtain ⟨j, hj, rfl, hv, hd⟩ := hrel
      by_cases hlt : j < n
      · obtain ⟨x, hx⟩ : ∃ x, p[j]? = some x := ⟨_, List.getElem?_eq_getElem (by rw [l1.out]; omega)⟩
        obtain ⟨y, hy⟩ : ∃ y, q[j]? = some y := ⟨_, List.getElem?_eq_getElem (by rw [l2.out]; omega)⟩
        obtain ⟨b1, o1, rfl, c1⟩ := (H1.out.drw hd.out).cell j x hx
        obtain ⟨b2, o2, rfl, c2⟩ := (H2.out.drw hd.out).cell j y hy
        unfold vi at c1 c2
        have i1 : (j : Int) < (n : Int) := by omega
        by_cases hxy : x = y
        · subst hxy
          have e2 : (x != x) = false := by simp
          have hv2 : Hid (∀ t : Nat, t < j + 1 → p[t]? = q[t]?) := by
            intro t ht
            by_cases e : t = j
            · rw [e, hx, hy]
            · exact hv.out t (by omega)
          clear hx hy
          go_wp2_with fail
          go_quiet (fail)
          go_wp2
          go_roundw
          case rel => exact ⟨j + 1, by omega, by go_num, hv2, hd.out.step nq⟩
          case measure => simp [intOf]; omega
        · have hf : Hid (decide (p = q) = false) := decide_eq_false fun e => hxy (by rw [e, hy] at hx; cases hx; rfl)
          have e2 : (x != y) = true := by simp [hxy]
          clear hx hy hxy
          go_wp2_with fail
          go_quiet (fail)
          go_wp2
          go_ret
          exact ⟨ret_bool hf.out.symm, hd.out.step nq⟩
      · have hf : Hid (decide (p = q) = true) := by
          refine decide_eq_true (List.ext_getElem? fun t => ?_)
          by_cases ht : t < n
          · exact hv.out t (by omega)
          · rw [List.getElem?_eq_none (by rw [l1.out]; omega), List.getElem?_eq_none (by rw [l2.out]; omega)]
        go_wp2
        go_ret
        exact ⟨ret_bool hf.out.symm, hd.out⟩
  · have e0 : (((n : Nat) : Int) != ((m : Nat) : Int)) = true := by simp; omega
    have hf : Hid (decide (p = q) = false) := decide_eq_false fun e => hnm (by rw [← l1.out, ← l2.out, e])
    go_enter Try.func30, Try.ntmps30
    go_wp2
    go_ret
    exact ⟨ret_bool hf.out.symm, Drw.refl w⟩

theorem free_any (a : Option Addr) (n c : Nat) (p : List Int) (x : Int) (w : World) (h1 : Rd vi w a n c p) :
    Calls Try.prog 20 #[.slice a n c, .int .i64 x] w fun e w' => e = .returned (.bool (!decide (x ∈ p))) ∧ w = w' := by
  have H1 := Lib.hid h1
  have l1 := Lib.hid h1.len
  have x1 : n ≤ 9223372036854775807 := by have := h1.cap; have := h1.max; unfold maxLen at *; omega
  clear h1
  go_enter Try.func20, Try.ntmps20
  go_wp2
  go_loop [5] (fun i => ∃ j : Nat, j ≤ n ∧ i = .int .i64 (j : Int) ∧ Hid (∀ t : Nat, t < j → p[t]? ≠ some x)) (fun i => n - (intOf i).toNat)
  case atStart => exact ⟨0, by omega, rfl, fun t ht => by omega⟩
  case round =>
    obtain ⟨j, hj, rfl, hv⟩ := hrel
    by_cases hlt : j < n
    · obtain ⟨y, hy⟩ : ∃ y, p[j]? = some y := ⟨_, List.getElem?_eq_getElem (by rw [l1.out]; omega)⟩
      obtain ⟨b1, o1, rfl, c1⟩ := H1.out.cell j y hy
      unfold vi at c1
      have i1 : (j : Int) < (n : Int) := by omega
      by_cases hxy : y = x
      · subst hxy
        have hf : Hid ((!decide (y ∈ p)) = false) := by show _ = _; rw [decide_eq_true (List.mem_of_getElem? hy)]; rfl
        have e2 : (y == y) = true := by simp
        clear hy
        go_wp2
        go_ret
        exact ⟨ret_bool hf.out.symm, rfl⟩
      · have e2 : (y == x) = false := by simp [hxy]
        have hv2 : Hid (∀ t : Nat, t < j + 1 → p[t]? ≠ some x) := by
          intro t ht
          by_cases e : t = j
          · rw [e, hy]; intro e2; cases e2; exact hxy rfl
          · exact hv.out t (by omega)
        clear hy hxy
        go_wp2
        go_round
        case rel => exact ⟨j + 1, by omega, by go_num, hv2⟩
        case measure => simp [intOf]; omega
    · have hf : Hid ((!decide (x ∈ p)) = true) := by
        show _ = _
        rw [decide_eq_false fun hm => ?_]
        · rfl
        obtain ⟨t, ht⟩ := List.mem_iff_getElem?.1 hm
        exact hv.out t (by have := (List.getElem?_eq_some_iff.1 ht).1; have := l1.out; omega) ht
      go_wp2
      go_ret
      exact ⟨ret_bool hf.out.symm, rfl⟩
end Go.Proofs.Ytchhfpaicdhjbaa
