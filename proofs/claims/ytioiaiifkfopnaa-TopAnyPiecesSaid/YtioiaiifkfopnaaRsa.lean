/- reedsolomon: the table of coefficients. -/
import Derived.Test.YtioiaiifkfopnaaMp
import Derived.Test.YtioiaiifkfopnaaPolyZ
import Derived.Deep.RegionWith
namespace Mat
open Go.Kin Go
/-- The coefficients with d data pieces, as the table holds them. -/
def tabF (d : Nat) : Mat := fun i c => if c < d then allM d i c else 0
/-- The cells of a table. -/
def tab (d : Nat) (f : Mat) : List Value := vi d :: (List.range 128).map fun i => vb (f (i / 8) (i % 8)).n
theorem tab_length (d : Nat) (f : Mat) : (tab d f).length = 129 := by simp [tab]
theorem tab_at (d : Nat) (f : Mat) {i c : Nat} (hi : i < 16) (hc : c < 8) : (tab d f)[1 + i * 8 + c]? = some (vb (f i c).n) := by
  unfold tab
  rw [show 1 + i * 8 + c = (i * 8 + c) + 1 by omega, List.getElem?_cons_succ, List.getElem?_map, List.getElem?_range (by omega)]
  show some (vb (f ((i * 8 + c) / 8) ((i * 8 + c) % 8)).n) = _
  rw [show (i * 8 + c) / 8 = i by omega, show (i * 8 + c) % 8 = c by omega]
theorem tab_head (d : Nat) (f : Mat) : (tab d f)[0]? = some (vi d) := rfl
theorem tab_set (d : Nat) (f : Mat) {i c : Nat} (_hi : i < 16) (hc : c < 8) {x : Nat} (hx : x < 256) : (tab d f).set (1 + i * 8 + c) (vb x) = tab d (setEl f i c (Fq.of x)) := by
  unfold tab
  rw [show 1 + i * 8 + c = (i * 8 + c) + 1 by omega, List.set_cons_succ]
  congr 1
  apply List.ext_getElem?
  intro k
  by_cases hk : k < 128
  · rw [List.getElem?_set, List.getElem?_map, List.getElem?_map, List.getElem?_range hk]
    by_cases e : i * 8 + c = k
    · subst e
      simp only [List.length_map, List.length_range, if_pos hk, if_true, Option.map_some]
      show _ = some (vb (setEl f _ _ _ _ _).n)
      rw [show (i * 8 + c) / 8 = i by omega, show (i * 8 + c) % 8 = c by omega]
      unfold setEl
      rw [if_pos ⟨rfl, rfl⟩, Fq.of_n hx]
    · rw [if_neg e]
      show some _ = some (vb (setEl f _ _ _ _ _).n)
      unfold setEl
      rw [if_neg (by omega)]
  · rw [List.getElem?_eq_none (by simp; omega), List.getElem?_eq_none (by simp; omega)]
theorem tab_zero (d : Nat) : tab d (fun _ _ => 0) = vi d :: List.replicate 128 (vb 0) := by
  unfold tab
  congr 1
theorem tab_congr (d : Nat) {f g : Mat} (h : ∀ i c, i < 16 → c < 8 → f i c = g i c) : tab d f = tab d g := by
  unfold tab
  congr 1
  refine List.map_congr_left fun k hk => ?_
  rw [List.mem_range] at hk
  rw [h _ _ (by omega) (by omega)]
end Mat
namespace Go.Proofs.Ytioiaiifkfopnaa
open Go.RowKit Go.Kin Mat
open Fq (sum)
set_option maxRecDepth 100000
set_option linter.unusedVariables false

theorem tab_build (d : Nat) : Try.zeroCells96.setIfInBounds 0 (.int .i64 (d : Int)) = Kin.row id (vi d :: List.replicate 128 (vb 0)) := by kernel_rfl

theorem idm_ne {i c : Nat} (h : i ≠ c) : idm i c = 0 := by unfold idm; rw [if_neg h]
theorem idm_eq (i : Nat) : idm i i = 1 := by unfold idm; rw [if_pos rfl]

/-- A table. -/
def Tab (w : World) (g d : Nat) : Prop := Blk id 96 w g (tab d (tabF d))

set_option maxHeartbeats 1000000 in
theorem newtable_any (d : Nat) (w : World) (hd : d ≤ 8) :
    Calls Try.prog 32 #[.int .i64 (d : Int)] w fun e w' => ∃ g, e = .returned (.pointer (some ⟨g, 0, none⟩)) ∧ w.heap.size ≤ g ∧ Tab w' g d ∧ Below w.heap.size w w' := by
  go_enter Try.func32, Try.ntmps32
  go_wp2
  go_loopw [9] (fun i wr => ∃ j : Nat, j ≤ 16 ∧ i = .int .i64 (j : Int) ∧ Hid (Blk id 96 wr w.heap.size (tab d (grid (tabF d) j 0))) ∧ Hid (Below w.heap.size w wr)) (fun i _ => 16 - (intOf i).toNat)
  case atStart =>
    refine ⟨0, by omega, rfl, ?_, (Below.refl _ _).alloc (Nat.le_refl _) _⟩
    rw [tab_build, show tab d (grid (tabF d) 0 0) = tab d (fun _ _ => 0) from tab_congr d fun i c _ _ => grid_zero _ _ _, tab_zero]
    exact blk_new id _ w _
  case round =>
    obtain ⟨j, hj, rfl, hM, hbe⟩ := hrel
    by_cases hlt : j < 16
    · have i2 : (j : Int) < 16 := by omega
      go_wp2_with fail
      go_loopw [13] (fun i wr => ∃ c : Nat, c ≤ d ∧ i = .int .i64 (c : Int) ∧ Hid (Blk id 96 wr w.heap.size (tab d (grid (tabF d) j c))) ∧ Hid (Below w.heap.size w wr)) (fun i _ => d - (intOf i).toNat)
      case atStart => exact ⟨0, by omega, rfl, hM, hbe⟩
      case round =>
        obtain ⟨c, hc, rfl, hM2, hbe2⟩ := hrel
        by_cases hlc : c < d
        · have i3 : (c : Int) < (d : Int) := by omega
          obtain ⟨z, hz⟩ : ∃ z, z = (grid (tabF d) j c j c).n := ⟨_, rfl⟩
          have d2 : wr.cell? ⟨w.heap.size, 1 + j * 8 + c, none⟩ = some (vb z) := by rw [hz]; exact hM2.out.cell (tab_at _ _ hlt (by omega))
          have f2 : wr.frozen? ⟨w.heap.size, 1 + j * 8 + c, none⟩ = false := hM2.out.frozen _
          have HS : Hid (∀ x : Nat, x < 256 → Blk id 96 (wr.setCell ⟨w.heap.size, 1 + j * 8 + c, none⟩ (.int .u8 (x : Int))) w.heap.size (tab d (setEl (grid (tabF d) j c) j c (Fq.of x)))) := by
            show ∀ x : Nat, _
            intro x hx
            rw [← tab_set _ _ hlt (by omega) hx]
            exact hM2.out.set _ (vb x)
          clear hz
          by_cases hge : d ≤ j
          · have i4 : (d : Int) ≤ (j : Int) := by omega
            obtain ⟨x, hx⟩ : ∃ x, x = j ^^^ c := ⟨_, rfl⟩
            have x1 : x < 256 := by rw [hx]; exact Gf.xor_lt (by omega) (by omega)
            have x0 : 0 < x := by have := xor_ne (a := j) (b := c) (by omega); omega
            have X : bits .xor .i64 (j : Int) (c : Int) = ((x : Nat) : Int) := by
              have := i64_xor_nat j c (by omega) (by omega)
              rw [hx, ← this]
            have HX : Hid (Fq.of (Gf.inv x) = tabF d j c) := by
              show _ = _; unfold tabF allM
              rw [if_pos hlc, if_neg (by omega), Fq.of_inv x1, hx]
            have W8 : IntKind.u8.wrap ((x : Nat) : Int) = ((x : Nat) : Int) := by simp only [IntKind.wrap]; simp [IntKind.bits, IntKind.signed]; omega
            have e2 : wr.drew.cell? ⟨w.heap.size, 1 + j * 8 + c, none⟩ = some (vb z) := d2
            have g2 : wr.drew.frozen? ⟨w.heap.size, 1 + j * 8 + c, none⟩ = false := f2
            clear hx
            go_wp2_with fail
            go_region_with (go_at_call 56; refine (inv_any _ _ (by omega) (by omega)).mono ?_; rintro e w' ⟨rfl, rfl⟩)
            have HS2 : Hid (Blk id 96 ((wr.setCell ⟨w.heap.size, 1 + j * 8 + c, none⟩ (.int .u8 ((Gf.inv x : Nat) : Int))).drew) w.heap.size (tab d (grid (tabF d) j (c + 1)))) := by
              have := HS.out (Gf.inv x) (Gf.inv_lt x x1)
              rw [HX.out, show tab d (setEl (grid (tabF d) j c) j c (tabF d j c)) = tab d (grid (tabF d) j (c + 1)) from tab_congr d fun a b _ _ => grid_step _ _ _ _ _] at this
              exact this
            have HB2 : Hid (Below w.heap.size w ((wr.setCell ⟨w.heap.size, 1 + j * 8 + c, none⟩ (.int .u8 ((Gf.inv x : Nat) : Int))).drew)) := (hbe2.out.setCell (p := ⟨w.heap.size, 1 + j * 8 + c, none⟩) (Nat.le_refl _) _).drew
            clear e2 g2 d2 f2
            generalize (wr.setCell ⟨w.heap.size, 1 + j * 8 + c, none⟩ (.int .u8 ((Gf.inv x : Nat) : Int))).drew = w5 at HS2 HB2 ⊢
            go_wp2_with fail
            go_roundw
            case rel =>
              exact ⟨c + 1, by omega, by go_num, HS2, HB2⟩
            case measure => simp [intOf]; omega
          · have i4 : decide ((d : Int) ≤ (j : Int)) = false := by simp; omega
            by_cases hjc : j = c
            · subst hjc
              go_wp2_with fail
              go_roundw
              case rel =>
                refine ⟨j + 1, by omega, by go_num, ?_, hbe2.out.setCell (p := ⟨w.heap.size, 1 + j * 8 + j, none⟩) (Nat.le_refl _) _⟩
                have := HS.out 1 (by omega)
                rw [show Fq.of 1 = tabF d j j by unfold tabF allM; rw [if_pos hlc, if_pos (by omega), idm_eq]; rfl, show tab d (setEl (grid (tabF d) j j) j j (tabF d j j)) = tab d (grid (tabF d) j (j + 1)) from tab_congr d fun a b _ _ => grid_step _ _ _ _ _] at this
                exact this
              case measure => simp [intOf]; omega
            · have i5 : ((j : Int) == (c : Int)) = false := by simp; omega
              have HX : Hid (tabF d j c = 0) := by
                show _ = _; unfold tabF allM
                rw [if_pos hlc, if_pos (by omega), idm_ne hjc]
              go_wp2_with fail
              go_roundw
              case rel =>
                refine ⟨c + 1, by omega, by go_num, ?_, hbe2⟩
                show Blk _ _ _ _ _
                rw [show tab d (grid (tabF d) j (c + 1)) = tab d (grid (tabF d) j c) from tab_congr d fun a b _ _ => by rw [← grid_step]; rw [HX.out, ← grid_at (tabF d) j c]; exact setEl_self _ _ _ _ _]
                exact hM2.out
              case measure => simp [intOf]; omega
        · have hcd : c = d := by omega
          subst hcd
          go_wp2_with fail
          go_roundw
          case rel =>
            refine ⟨j + 1, by omega, by go_num, ?_, hbe2⟩
            show Blk _ _ _ _ _
            rw [show tab c (grid (tabF c) (j + 1) 0) = tab c (grid (tabF c) j c) from tab_congr c fun a b _ _ => ?_]
            · exact hM2.out
            · by_cases hb : b < c
              · exact (grid_row _ _ _ _ _ hb).symm
              · have h0 : tabF c a b = 0 := by unfold tabF; rw [if_neg hb]
                unfold grid
                rw [h0]; simp
          case measure => simp [intOf]; omega
    · have hj16 : j = 16 := by omega
      subst hj16
      go_wp2_with fail
      go_ret
      exact ⟨w.heap.size, rfl, Nat.le_refl _, by show Blk _ _ _ _ _; rw [show tab d (tabF d) = tab d (grid (tabF d) 16 0) from tab_congr d fun i c hi _ => (grid_done _ _ _ _ hi).symm]; exact hM.out, hbe.out⟩
end Go.Proofs.Ytioiaiifkfopnaa
