/- kinkeeplaw35.awake returns true: the walk. -/
import Derived.Test.YtpecepfnmkpmmaaQo
namespace Go.Proofs.Ytpecepfnmkpmmaa
open Go.RowKit Go.Kin Quo
set_option maxRecDepth 100000
set_option linter.unusedVariables false
theorem rd_lit (w : World) (l : List Int) (n g : Nat) (hn : l.length = n) (hm : n ≤ 1000) (hg : g = w.heap.size) : Rd vi (w.alloc (.cells (row vi l) 3 (0, 0))) (some ⟨g, 0, none⟩) n n l := by
  subst hg; exact rd_new vi 3 w l hn (by omega)
set_option maxHeartbeats 4000000 in
theorem awake_any (w : World) :
    Calls Try.prog 14 #[] w fun e w' => e = .returned (.bool true) ∧ Below w.heap.size w w' := by
  go_enter Try.func14, Try.ntmps14
  go_upto_region 2 with (first
    | (go_at_call 36; refine (example_any _).mono ?_; rintro e w1 ⟨g1, rfl, r1, b1⟩)
    | (go_at_call 17; refine (aw_bal _ _ _ r1).mono ?_; rintro e w2 ⟨g2, rfl, r2, b2⟩; have HB2 := Lib.hid (bt b1 b2); have R2 := Lib.hid r2; clear r1 r2 b1 b2)
    | fail)
  go_upto_region 3 with (first
    | (go_at_call 36; refine (example_any _).mono ?_; rintro e w3 ⟨g3, rfl, r3, b3⟩)
    | (go_at_call 18; refine (aw_allow _ _ _ _ _ (r3.alloc _) (rd_lit _ [10, 10, 10] 3 _ rfl (by omega) rfl)).mono ?_; rintro e w4 ⟨rfl, b4⟩; have HB4 := Lib.hid (bt HB2.out (bt b3 (bt (below_alloc _ (below_refl _)) b4))); have R4 := Lib.hid (R2.out.fw (bt b3 (bt (below_alloc _ (below_refl _)) b4))); clear r3 b3 b4 HB2 R2)
    | fail)
  go_upto_region 4 with (first
    | (go_at_call 36; refine (example_any _).mono ?_; rintro e w5 ⟨g5, rfl, r5, b5⟩)
    | (go_at_call 23; refine (aw_cancel _ _ _ r5).mono ?_; rintro e w6 ⟨g6, rfl, r6, b6⟩; have HB6 := Lib.hid (bt HB4.out (bt b5 b6)); have R6 := Lib.hid (R4.out.fw (bt b5 b6)); have C6 := Lib.hid r6; clear r5 r6 b5 b6 HB4 R4)
    | fail)
  go_upto_region 5 with (first
    | (go_at_call 36; refine (example_any _).mono ?_; rintro e w7 ⟨g7, rfl, r7, b7⟩)
    | (go_at_call 28; refine (aw_settle _ _ _ _ _ (r7.alloc _) (rd_lit _ exQ 3 _ rfl (by omega) rfl)).mono ?_; rintro e w8 ⟨g8, mc8, rfl, m8, b8⟩; have bb := bt b7 (bt (below_alloc (.cells (row vi exQ) 3 (0, 0)) (below_refl _)) b8); have HB8 := Lib.hid (bt HB6.out bb); have R8 := Lib.hid (R6.out.fw bb); have C8 := Lib.hid (C6.out.fw bb); have M8 := Lib.hid m8; clear r7 b7 b8 bb m8 HB6 R6 C6)
    | fail)
  go_upto_region 6 with (first
    | (go_at_call 36; refine (example_any _).mono ?_; rintro e w9 ⟨g9, rfl, r9, b9⟩)
    | (go_at_call 28; refine (aw_full _ _ _ _ _ (r9.alloc _) (rd_lit _ exR 3 _ rfl (by omega) rfl)).mono ?_; rintro e w10 ⟨rfl, b10⟩; have bb := bt b9 (bt (below_alloc (.cells (row vi exR) 3 (0, 0)) (below_refl _)) b10); have HB10 := Lib.hid (bt HB8.out bb); have R10 := Lib.hid (R8.out.fw bb); have C10 := Lib.hid (C8.out.fw bb); have mm : Hid (∀ k v, (vm ⟨0, 2, 1, 2⟩)[k]? = some v → w10.cell? ⟨g8, k, none⟩ = some v) := (fun k v hk => (cellBelow bb (lt_of_cell (M8.out k v hk))).trans (M8.out k v hk)); clear r9 b9 b10 bb HB8 R8 C8 M8)
    | fail)
  go_wp2_with (first
    | (go_at_call 26; refine (sints_any _ _ _ _ _ _ [-4, 6, -2] [-4, 6, -2] _ (R10.out.alloc _) (rd_lit _ [-4, 6, -2] 3 _ rfl (by omega) rfl)).mono ?_; rintro e w11 ⟨rfl, hd⟩; have bb := bt (below_alloc (.cells (row vi [-4, 6, -2]) 3 (0, 0)) (below_refl _)) hd.fw; have HB11 := Lib.hid (bt HB10.out bb); have C11 := Lib.hid (C10.out.fw bb); have mm2 : Hid (∀ k v, (vm ⟨0, 2, 1, 2⟩)[k]? = some v → w11.cell? ⟨g8, k, none⟩ = some v) := (fun k v hk => (cellBelow bb (lt_of_cell (mm.out k v hk))).trans (mm.out k v hk)); clear hd bb HB10 C10 mm R10)
    | (go_at_call 24; refine (tsame_any _ _ _ _ _ _ [[0, 2, 2], [0, 0, 0], [0, 4, 0]] [[0, 2, 2], [0, 0, 0], [0, 4, 0]] _ ((((C11.out.alloc _).alloc _).alloc _).alloc _) (lit3 _ [0, 2, 2] [0, 0, 0] [0, 4, 0] _ _ _ _ rfl rfl rfl rfl rfl rfl rfl)).mono ?_; rintro e w12 ⟨rfl, hd⟩; have bb := bt (below_alloc _ (below_alloc _ (below_alloc _ (below_alloc _ (below_refl w11))))) hd.fw; have HB12 := Lib.hid (bt HB11.out bb); have m0 := (cellBelow bb (lt_of_cell (mm2.out 0 _ rfl))).trans (mm2.out 0 _ rfl); have m1 := (cellBelow bb (lt_of_cell (mm2.out 1 _ rfl))).trans (mm2.out 1 _ rfl); have m2 := (cellBelow bb (lt_of_cell (mm2.out 2 _ rfl))).trans (mm2.out 2 _ rfl); have m3 := (cellBelow bb (lt_of_cell (mm2.out 3 _ rfl))).trans (mm2.out 3 _ rfl); clear hd bb HB11 C11 mm2)
    | fail)
  go_ret
  exact ⟨rfl, HB12.out⟩
end Go.Proofs.Ytpecepfnmkpmmaa
