/- kinkeeplaw04.column, awake. -/
import Derived.Test.YtchhfpaicdhjbaaMka
import Derived.Test.YtchhfpaicdhjbaaMu
namespace Go.Proofs.Ytchhfpaicdhjbaa
open Go.RowKit Go.Kin Mat
open Fq (sum)
set_option maxRecDepth 100000
set_option linter.unusedVariables false

set_option maxHeartbeats 1000000 in
theorem column_any (a : Option Addr) (n c : Nat) (v : List Nat) (w : World) (h : Rd vb w a n c v) (hv : Gf.Byt v) (hn : n ≤ 1000) :
    Calls Try.prog 23 #[.slice a n c] w fun e w' => ∃ oa oc, e = .returned (.slice oa n oc) ∧ MatB w' w.heap.size oa n oc 1 (colM v) ∧ Below w.heap.size w w' := by
  obtain ⟨i1, hi1, hy0, hy1, hy2⟩ := info_parts infoB
  have u1 := Try.underlying22
  have M0 := Lib.hid (matB_empty w 1 (colM v))
  have hb1 := below_alloc (.cells (row vh []) 34 (0, 0)) (below_refl w)
  have H := Lib.hid h
  clear h
  go_enter Try.func23, Try.ntmps23
  go_wp2
  go_loopw [3, 4] (fun o i wr => ∃ (j : Nat) (oa : Option Addr) (oc : Nat), j ≤ n ∧ i = .int .i64 (j : Int) ∧ o = .slice oa j oc ∧ Hid (MatB wr w.heap.size oa j oc 1 (colM v)) ∧ Below w.heap.size w wr) (fun _ i _ => n - (intOf i).toNat)
  case atStart => exact ⟨0, _, 0, by omega, rfl, rfl, M0.out, hb1⟩
  case round =>
    obtain ⟨j, oa, oc, hj, rfl, rfl, hM, hbe⟩ := hrel
    by_cases hlt : j < n
    · have i2 : (j : Int) < (n : Int) := by omega
      obtain ⟨x, hx⟩ : ∃ x, v[j]? = some x := ⟨_, List.getElem?_eq_getElem (by rw [H.out.len]; omega)⟩
      obtain ⟨b1, o1, rfl, c1⟩ := (H.out.fw hbe).cell j x hx
      have bx := hv.at hx
      unfold vb at c1
      obtain ⟨G, h1, h2, h3, h4⟩ := hM.out
      have hG : ∀ g ∈ G, g < wr.heap.size := fun g hg => by
        obtain ⟨t, ht⟩ := List.mem_iff_getElem?.1 hg
        exact (h4 t g ht).lt
      have ba := below_alloc (.cells (row vb [x]) 5 (0, 0)) (below_refl wr)
      have ba2 := below_alloc (.cells (row vh [hdr 1 wr.heap.size]) 34 (0, 0)) ba
      have K6 := Lib.hid ((blk_new vb 5 wr [x]).fw (below_alloc (.cells (row vh [hdr 1 wr.heap.size]) 34 (0, 0)) (below_refl _)))
      have N6 := Lib.hid (rd_new1 vh 34 wr (.cells (row vb [x]) 5 (0, 0)) [hdr 1 wr.heap.size] (n := 1) rfl (by omega))
      have H3 := Lib.hid (h3.fw ba2); have H4 := Lib.hid h4; have HG := Lib.hid hG; have HN := Lib.hid h1; have H2 := Lib.hid h2
      have B6 := Lib.hid (bt hbe ba2); have BA2 := Lib.hid ba2
      have HX : Hid ([x] = mrow 1 (colM v j)) := by
        show _ = [(Fq.of (v.getD j 0)).n]
        rw [List.getD_eq_getElem?_getD, hx]
        show _ = [(Fq.of x).n]
        rw [Fq.of_n bx]
      clear hM h1 h2 h3 h4 hG ba ba2 hx
      go_wp2_with (at_builtin; refine wpList_append_rd rfl (.tmp 12) (.tmp 18) 22 rfl vh vh_one w.heap.size 34 i1 (.slice none 0 0) 24 u1 hi1 hy0 hy1 hy2 rfl oa j oc _ rfl H3.out (some ⟨wr.heap.size + 1, 0, none⟩) 1 1 [hdr 1 wr.heap.size] rfl N6.out (by unfold maxLen; omega) (by omega) B6.out.size ?_; intro sa c2 w7 hown hgr)
      go_roundw
      case rel =>
        have hM7 := matB_push (f := colM v) HN.out H2.out H3.out (fun i g hg => (H4.out i g hg).fw BA2.out) (g := wr.heap.size) (u := colM v j) (by rw [← HX.out]; exact K6.out) hbe.size (fun hm => by have := HG.out _ hm; omega) hown hgr
        refine ⟨j + 1, sa, c2, by omega, by go_num, rfl, hM7.congr fun i c hi _ => ?_, B6.out.grown hgr B6.out.size fun x hx => own_ge H3.out hx⟩
        by_cases e : i < j
        · rw [if_pos e]
        · rw [if_neg e, show i = j by omega]
      case measure => simp [intOf]; omega
    · have hjr : j = n := by omega
      subst hjr
      go_wp2
      go_ret
      exact ⟨oa, oc, rfl, hM.out, hbe⟩
end Go.Proofs.Ytchhfpaicdhjbaa
