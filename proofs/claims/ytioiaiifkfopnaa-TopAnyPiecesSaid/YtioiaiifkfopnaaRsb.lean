/- reedsolomon: rows of the table. -/
import Derived.Test.YtioiaiifkfopnaaRsa
import Derived.Deep.RegionHeld3
import Derived.Test.YtioiaiifkfopnaaStep
namespace Go.Proofs.Ytioiaiifkfopnaa
open Go.RowKit Go.Kin Mat
open Fq (sum)
set_option maxRecDepth 100000
set_option linter.unusedVariables false

theorem Tab.fw {w w' : World} {g d : Nat} (h : Tab w g d) (hb : Below w.heap.size w w') : Tab w' g d := Blk.fw h hb
theorem Tab.head {w : World} {g d : Nat} (h : Tab w g d) : w.cell? ⟨g, 0, none⟩ = some (.int .i64 (d : Int)) := Blk.cell h (tab_head _ _)
theorem tabF_row (d i : Nat) : mrow d (tabF d i) = mrow d (allM d i) := mrow_congr fun c hc => if_pos hc
theorem Tab.row {w : World} {g d i : Nat} (h : Tab w g d) (hi : i < 16) (hd : d ≤ 8) : Rd vb w (some ⟨g, 1 + i * 8, none⟩) d 8 (mrow d (allM d i)) := by
  refine ⟨mrow_length _ _, hd, by unfold maxLen; omega, fun e => (by cases e), fun c x hx => ⟨g, 1 + i * 8, rfl, ?_⟩⟩
  have hc : c < d := by have := (List.getElem?_eq_some_iff.1 hx).1; rwa [mrow_length] at this
  rw [← tabF_row, mrow_get _ hc] at hx
  cases hx
  exact Blk.cell h (tab_at _ _ hi (by omega))

/-- The coefficients of the pieces with these indices. -/
def pickA (d : Nat) (p : List Nat) : Mat := fun t => allM d (p.getD t 0)

set_option maxHeartbeats 2000000 in
theorem of_any (g d : Nat) (b : Option Addr) (m c : Nat) (p : List Nat) (w : World) (hT : Tab w g d) (hp : Rd vi w b m c (p.map Int.ofNat)) (h16 : ∀ x ∈ p, x < 16) (h1 : 0 < d) (hd : d ≤ 8) (hm : m ≤ 64) :
    Calls Try.prog 33 #[.pointer (some ⟨g, 0, none⟩), .slice b m c] w fun e w' => ∃ o, e = .returned (.slice (some ⟨o, 0, none⟩) m m) ∧ MatR w' w.heap.size (some ⟨o, 0, none⟩) m m d (pickA d p) ∧ Below w.heap.size w w' := by
  obtain ⟨i0, hi, hz0, hz1, hz2⟩ := info_parts info5
  obtain ⟨i1, hi1, hy0, hy1, hy2⟩ := info_parts infoB
  have u0 := Try.underlying23
  have u1 := Try.underlying30
  have HT := Lib.hid hT; have HP := Lib.hid hp
  clear hT hp
  go_enter Try.func33, Try.ntmps33
  go_wp2_with (at_make; refine wpList_make_blk rfl (.tmp 9) (.tmp 9) 30 rfl vh (none, 0, 0) 23 i1 u1 hi1 hy0 hy1 rfl _ _ _ _ m rfl rfl rfl rfl (by rw [hy2]; omega) (by omega) ?_; intro w3 hk3 hb3 hs3; have HP3 := Lib.hid (PartR.start (k := d) (f := pickA d p) hk3); have HB3 := Lib.hid hb3; clear hk3 hs3 hb3)
  go_loopw [13] (fun i wr => ∃ j : Nat, j ≤ m ∧ i = .int .i64 (j : Int) ∧ Hid (PartR wr w.heap.size m d (pickA d p) j) ∧ Hid (Below w.heap.size w wr)) (fun i _ => m - (intOf i).toNat)
  case atStart => exact ⟨0, by omega, rfl, HP3.out, HB3.out⟩
  case round =>
    obtain ⟨j, hj, rfl, hP, hbe⟩ := hrel
    by_cases hlt : j < m
    · have i2 : (j : Int) < (m : Int) := by omega
      obtain ⟨x, hx⟩ : ∃ x, p[j]? = some x := ⟨_, List.getElem?_eq_getElem (by have := HP.out.len; rw [List.length_map] at this; omega)⟩
      obtain ⟨b1, o1, rfl, c1w⟩ := HP.out.cell j (Int.ofNat x) (by rw [List.getElem?_map, hx]; rfl)
      have c1 := (cellBelow hbe.out (lt_of_cell c1w)).trans c1w
      have hx16 : x < 16 := h16 x (List.mem_of_getElem? hx)
      have hpk : pickA d p j = allM d x := by unfold pickA; rw [List.getD_eq_getElem?_getD, hx]; rfl
      have HX := Lib.hid hpk
      have HT2 := Lib.hid (HT.out.fw hbe.out)
      have c0 : wr.drew.cell? ⟨g, 0, none⟩ = some (.int .i64 (d : Int)) := HT2.out.head
      have HR := Lib.hid (HT2.out.row hx16 hd)
      have c01 : (wr.alloc (.cells #[] 5 (0, 0))).drew.cell? ⟨g, 0, none⟩ = some (.int .i64 (d : Int)) := (cellBelow (below_alloc (.cells #[] 5 (0, 0)) (below_refl wr)) (lt_of_cell HT2.out.head)).trans HT2.out.head
      have x1 : (x : Int) < 16 := by omega
      have x2 : (d : Int) ≤ 8 := by omega
      obtain ⟨p1, p2, p3⟩ := hP.out.cell hlt
      change wr.cell? _ = some (.int .i64 (x : Int)) at c1
      have hgw : g < w.heap.size := HT.out.lt
      clear hx c1w hpk
      go_wp2_with fail
      go_region_held3 (fun w' => w'.cell? ⟨g, 0, none⟩ = some (.int .i64 (d : Int)))
        (first | exact c0 | exact c01 | exact c05 | exact (World.cell?_setCell_other _ _ _ _ (fun e => by cases e; omega)).trans c05 | go_keep)
        (first | (refine step_append_rd _ (by rfl) (.tmp 20) (.tmp 30) 23 (by rfl) vb vb_one wr.heap.size 5 i0 (.int .u8 0) 1 u0 hi hz0 hz1 hz2 rfl (some ⟨wr.heap.size, 0, none⟩) 0 0 [] (by rfl) ((blk_new vb 5 wr.drew []).own (Nat.le_refl _) (by simp [maxLen])) ⟨g, 1 + x * 8, none⟩ d 8 (mrow d (allM d x)) (by rfl) (HR.out.fw (bt (below_refl wr).drew (below_alloc (.cells #[] 5 (0, 0)) (below_refl wr.drew)))) (by unfold maxLen; omega) (by omega) (by simp) ?_; rw [Nat.zero_add, List.nil_append]; intro sa5 sc5 w5 hown5 hgr5; have B5 : Hid (Below wr.heap.size wr w5) := ((bt (below_refl wr).drew (below_alloc (.cells #[] 5 (0, 0)) (below_refl wr.drew)))).grown hgr5 (by simp) (fun x hx => by cases hx; exact Nat.le_refl _); have O5 := Lib.hid (hown5.mono (Nat.zero_le _)); have P5 := Lib.hid (hP.out.fw B5.out); have v1 := (P5.out.cell hlt).1; have v2 := (P5.out.cell hlt).2.1; have c05 : w5.cell? ⟨g, 0, none⟩ = some (.int .i64 (d : Int)) := (cellBelow B5.out (lt_of_cell HT2.out.head)).trans HT2.out.head; clear hown5 hgr5))
      have PN : Hid (PartR (w5.setCell ⟨w.heap.size, j, none⟩ (.slice sa5 d sc5)) w.heap.size m d (pickA d p) (j + 1)) := P5.out.next hlt (by rw [HX.out]; exact O5.out)
      have BN : Hid (Below w.heap.size w (w5.setCell ⟨w.heap.size, j, none⟩ (.slice sa5 d sc5))) := (bt hbe.out B5.out).setCell (p := ⟨w.heap.size, j, none⟩) (Nat.le_refl _) _
      clear v1 v2 c05 c0 c01 c1
      go_wp2_with fail
      go_roundw
      case rel => exact ⟨j + 1, by omega, by go_num, PN, BN⟩
      case measure => simp [intOf]; omega
    · have hjm : j = m := by omega
      subst hjm
      go_wp2_with fail
      go_ret
      exact ⟨w.heap.size, rfl, hP.out.done (Nat.le_refl _) (by omega), hbe.out⟩
end Go.Proofs.Ytioiaiifkfopnaa
