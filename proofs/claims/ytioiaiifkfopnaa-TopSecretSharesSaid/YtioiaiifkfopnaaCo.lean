/- slices.Concat of two slices of slices of bytes. -/
import Derived.Test.YtioiaiifkfopnaaVl
import Derived.Test.YtioiaiifkfopnaaStep
import Derived.Test.YtioiaiifkfopnaaLp
namespace Go.Proofs.Ytioiaiifkfopnaa
open Go.RowKit Go.Kin
set_option maxRecDepth 100000
set_option linter.unusedVariables false
set_option maxHeartbeats 1000000
theorem infoH : (Try.prog.info? 23).map (fun i => (i.zero, i.size, i.bytes)) = some (some (.slice none 0 0), 1, 24) := by kernel_rfl
theorem grow_any (n : Nat) (h1 : 1 ≤ n) (hn : n ≤ 100) (w : World) :
    Calls Try.prog 66 #[.slice none 0 0, .int .i64 (n : Int)] w fun e w' => ∃ c, e = .returned (.slice (some ⟨w.heap.size, 0, none⟩) 0 c) ∧ Kin.Own vh w.heap.size 23 w' (some ⟨w.heap.size, 0, none⟩) 0 c [] ∧ Below w.heap.size w w' := by
  obtain ⟨i1, hi1, hy0, hy1, hy2⟩ := info_parts infoH
  refine (Any8.slices_Grow_grow Try.growB i1 (.slice none 0 0) hi1 hy0 (by omega) none 0 0 n [] w (by omega) (by omega) (by rw [hy2]; omega) (by omega) (by simp) (fun _ => rfl) (by simp)).mono ?_
  rintro e w' ⟨rfl, rfl⟩
  refine ⟨_, rfl, ⟨rfl, .inr ⟨_, _, rfl, Nat.le_refl _, heap_alloc_new w.drew _, Nat.zero_le _, ?_, ?_, by simp⟩⟩, ?_⟩
  · exact grownCap_le_maxLen w _ _ _ (by unfold maxLen; omega)
  · have := grownCap_ge w (0 + n) 0 (Try.growB_ren.t 25)
    rw [Nat.zero_add] at this
    simp only [Array.size_append, List.size_toArray, size_zeroCells, Value.cells]
    simp
    omega
  · exact ((Below.refl _ _).drew).alloc (Nat.le_refl _) _
set_option maxHeartbeats 4000000 in
theorem concat_any (g0 : Nat) (h1 h2 : Option Addr × Nat × Nat) (L1 L2 : List (Option Addr × Nat × Nat)) (w : World) (hc0 : w.cell? ⟨g0, 0, none⟩ = some (vh h1)) (hc1 : w.cell? ⟨g0, 1, none⟩ = some (vh h2))
    (hr1 : Rd vh w h1.1 h1.2.1 h1.2.2 L1) (hr2 : Rd vh w h2.1 h2.2.1 h2.2.2 L2) (hp : 1 ≤ h1.2.1 + h2.2.1) (hn : h1.2.1 + h2.2.1 ≤ 100) :
    Calls Try.prog 47 #[.slice (some ⟨g0, 0, none⟩) 2 2] w fun e w' => ∃ sa c, e = .returned (.slice sa (h1.2.1 + h2.2.1) c) ∧ Kin.Own vh w.heap.size 23 w' sa (h1.2.1 + h2.2.1) c (L1 ++ L2) ∧ Below w.heap.size w w' := by
  obtain ⟨i1, hi1, hy0, hy1, hy2⟩ := info_parts infoH
  have u1 := Try.underlying30
  obtain ⟨a1, n1, c1⟩ := h1
  obtain ⟨a2, n2, c2⟩ := h2
  simp only [vh] at hc0 hc1 hr1 hr2 hp hn ⊢
  have H1 := Lib.hid hr1; have H2 := Lib.hid hr2
  clear hr1 hr2
  have g0l := cell_lt hc0
  go_enter Try.func47, Try.ntmps47
  go_wp2_with fail
  go_loopw [3, 5, 11] (fun s _ i wr => ∃ k : Nat, k ≤ 2 ∧ i = .int .i64 (k : Int) ∧ s = .int .i64 ((if k = 0 then 0 else if k = 1 then n1 else n1 + n2 : Nat) : Int) ∧ w = wr) (fun _ _ i _ => 2 - (intOf i).toNat)
  case atStart => exact ⟨0, by omega, rfl, rfl, rfl⟩
  case round =>
    obtain ⟨k, hk, rfl, rfl, rfl⟩ := hrel
    have hk3 : k = 0 ∨ k = 1 ∨ k = 2 := by omega
    rcases hk3 with rfl | rfl | rfl
    · rw [if_pos rfl]
      go_wp2
      go_roundw
      case rel => exact ⟨1, by omega, rfl, by simp, trivial⟩
      case measure => simp [intOf]
    · rw [if_neg (by omega), if_pos rfl]
      go_wp2
      go_roundw
      case rel => exact ⟨2, by omega, rfl, by simp, trivial⟩
      case measure => simp [intOf]
    · rw [if_neg (by omega), if_neg (by omega)]
      go_wp2_with (go_at_call 66; refine (grow_any (n1 + n2) hp hn _).mono ?_; rintro e w1 ⟨cg, rfl, ho, hb⟩; have HO := Lib.hid ho; have HB := Lib.hid hb; clear ho hb)
      go_loopw [6, 8, 27] (fun s _ i wr => ∃ (k : Nat) (sa : Option Addr) (c : Nat), k ≤ 2 ∧ i = .int .i64 (k : Int) ∧ s = .slice sa (if k = 0 then 0 else if k = 1 then n1 else n1 + n2) c ∧ Hid (Kin.Own vh w.heap.size 23 wr sa (if k = 0 then 0 else if k = 1 then n1 else n1 + n2) c (if k = 0 then [] else if k = 1 then L1 else L1 ++ L2)) ∧ Hid (Below w.heap.size w wr)) (fun _ _ i _ => 2 - (intOf i).toNat)
      case atStart => exact ⟨0, _, _, by omega, rfl, rfl, HO, HB⟩
      case round =>
        obtain ⟨k, sa, c, hk, rfl, rfl, HW, HBe⟩ := hrel
        have hd0 := (HBe.out.cell (p := ⟨g0, 0, none⟩) g0l).trans hc0
        have hd1 := (HBe.out.cell (p := ⟨g0, 1, none⟩) g0l).trans hc1
        have R1 := Lib.hid (H1.out.fw HBe.out); have R2 := Lib.hid (H2.out.fw HBe.out)
        have hk3 : k = 0 ∨ k = 1 ∨ k = 2 := by omega
        rcases hk3 with rfl | rfl | rfl
        · rw [if_pos rfl, if_pos rfl] at HW
          rw [if_pos rfl]
          go_wp2_with (at_builtin; refine wpList_append_rd rfl (.tmp 31) (.tmp 32) 30 rfl vh vh_one w.heap.size 23 i1 (.slice none 0 0) 24 u1 hi1 hy0 hy1 hy2 rfl sa 0 c _ rfl HW.out a1 n1 c1 L1 rfl R1.out (by unfold maxLen; omega) (by omega) HBe.out.size ?_; intro sa' c' w7 hown hgr)
          go_roundw
          case rel =>
            refine ⟨1, sa', c', by omega, rfl, ?_, ?_, HBe.out.grown hgr HBe.out.size fun x hx => (HW.out.ownsRow.lt x hx).1⟩
            · rw [if_neg (by omega), if_pos rfl]
            · rw [Nat.zero_add] at hown
              exact hown
          case measure => simp [intOf]
        · rw [if_neg (by omega), if_pos rfl, if_neg (by omega), if_pos rfl] at HW
          rw [if_neg (by omega), if_pos rfl]
          go_wp2_with (at_builtin; refine wpList_append_rd rfl (.tmp 31) (.tmp 32) 30 rfl vh vh_one w.heap.size 23 i1 (.slice none 0 0) 24 u1 hi1 hy0 hy1 hy2 rfl sa n1 c _ rfl HW.out a2 n2 c2 L2 rfl R2.out (by unfold maxLen; omega) (by omega) HBe.out.size ?_; intro sa' c' w7 hown hgr)
          go_roundw
          case rel =>
            refine ⟨2, sa', c', by omega, rfl, ?_, ?_, HBe.out.grown hgr HBe.out.size fun x hx => (HW.out.ownsRow.lt x hx).1⟩
            · rw [if_neg (by omega), if_neg (by omega)]
            · exact hown
          case measure => simp [intOf]
        · rw [if_neg (by omega), if_neg (by omega), if_neg (by omega), if_neg (by omega)] at HW
          rw [if_neg (by omega), if_neg (by omega)]
          go_wp2
          go_ret
          exact ⟨sa, c, rfl, HW.out, HBe.out⟩
end Go.Proofs.Ytioiaiifkfopnaa
