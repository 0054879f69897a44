/- reedsolomon: Encode, checkIndices. -/
import Derived.Test.YtioiaiifkfopnaaRsc
namespace Go.Proofs.Ytioiaiifkfopnaa
open Go.RowKit Go.Kin Mat
open Fq (sum)
set_option maxRecDepth 100000
set_option linter.unusedVariables false

theorem range_int_snoc (j : Nat) : (List.range (j + 1)).map Int.ofNat = (List.range j).map Int.ofNat ++ [(j : Int)] := by rw [List.range_succ, List.map_append]; rfl
theorem pickA_range (d t i : Nat) (hi : i < t) : pickA d (List.range t) i = allM d i := by
  unfold pickA
  rw [List.getD_eq_getElem?_getD, List.getElem?_range hi]; rfl

set_option maxHeartbeats 2000000 in
theorem encode_ok (a : Option Addr) (d t c L : Nat) (F : Mat) (w : World) (h : RdM w a d c (mlist d L F)) (h1 : 0 < d) (h2 : d ≤ 8) (h3 : d ≤ t) (h4 : t ≤ 16) (hL : 0 < L) (hL2 : L ≤ 1000) :
    Calls Try.prog 12 #[.int .i64 (d : Int), .int .i64 (t : Int), .slice a d c] w fun e w' => ∃ o, e = .returned (.tuple #[.slice (some ⟨o, 0, none⟩) t t, .int .i64 0]) ∧ MatR w' w.heap.size (some ⟨o, 0, none⟩) t t L (mul d (allM d) F) ∧ Below w.heap.size w w' := by
  obtain ⟨i0, hi, hz0, hz1, hz2⟩ := info_parts infoI
  have u0 := Try.underlying22
  obtain ⟨m, ra, rn, rc, ba, ob, hm, rfl, c0, hrow⟩ := h.row h1
  clear hm c0 hrow ra rn rc m
  have H := Lib.hid h
  have e1 : ((d : Int) == 0) = false := by simp; omega
  have e2 : decide ((d : Int) < (d : Int)) = false := by simp
  clear h
  go_enter Try.func12, Try.ntmps12
  go_wp2_with (first
    | (go_at_call 10; refine (code_yes d t _ h1 h2 h3 h4).mono ?_; rintro e w' ⟨rfl, rfl⟩)
    | (go_at_call 30; refine (onelen_yes _ d c L F _ H.out hL (by omega)).mono ?_; rintro e w1 ⟨rfl, hb1⟩; have HB1 := Lib.hid hb1; clear hb1)
    | (go_at_call 31; refine (clone_some ba ob d c _ _ (H.out.fw HB1.out) (by omega)).mono ?_; rintro e w2 ⟨ca, cc, rfl, hM2, hb2⟩; have HM2 := Lib.hid hM2; have HB2 := Lib.hid (bt HB1.out hb2); clear hM2 hb2))
  go_loopw [8] (fun x wr => x = .slice ca d cc ∧ wr = w2) (fun _ _ => 0)
  case atStart => exact ⟨rfl, rfl⟩
  case round =>
    obtain ⟨rfl, rfl⟩ := hrel
    go_wp2_with fail
    clear e2
    obtain ⟨wo, rfl⟩ : ∃ wo : World, wo = wr := ⟨_, rfl⟩
    go_loopw [9, 46] (fun x i wr => ∃ (j : Nat) (ia : Option Addr) (ic : Nat), j ≤ t ∧ i = .int .i64 (j : Int) ∧ x = .slice ia j ic ∧ Hid (Own vi wo.heap.size 3 wr ia j ic ((List.range j).map Int.ofNat)) ∧ Hid (Below wo.heap.size wo wr)) (fun _ i _ => t - (intOf i).toNat)
    case atStart => exact ⟨0, none, 0, by omega, rfl, rfl, ⟨rfl, .inl ⟨rfl, rfl, rfl⟩⟩, below_refl _⟩
    case round =>
      obtain ⟨j, ia, ic, hj, rfl, rfl, hO, hbe⟩ := hrel
      by_cases hlt : j < t
      · have i2 : (j : Int) < (t : Int) := by omega
        have B6 := Lib.hid (below_alloc (.cells (row vi [(j : Int)]) 3 (0, 0)) (below_refl wr))
        have N6 := Lib.hid (rd_new vi 3 wr [(j : Int)] (n := 1) rfl (by omega))
        have H6 := Lib.hid (hO.out.fw B6.out)
        go_wp2_with (at_builtin; refine wpList_append_rd rfl (.tmp 49) (.tmp 51) 22 rfl vi vi_one wo.heap.size 3 i0 (.int .i64 0) 8 u0 hi hz0 hz1 hz2 rfl ia j ic _ rfl H6.out (some ⟨wr.heap.size, 0, none⟩) 1 1 [(j : Int)] rfl N6.out (by unfold maxLen; omega) (by omega) (Nat.le_trans hbe.out.size B6.out.size) ?_; rw [← range_int_snoc]; intro sa c2 w7 hown7 hgr7; have O7 := Lib.hid hown7; have B7 : Hid (Below wo.heap.size wo w7) := (bt hbe.out B6.out).grown hgr7 (Nat.le_trans hbe.out.size B6.out.size) (fun x hx => own_ge H6.out hx); clear hown7 hgr7)
        go_roundw
        case rel => exact ⟨j + 1, sa, c2, by omega, by go_num, rfl, O7, B7⟩
        case measure => simp [intOf]; omega
      · have hjt : j = t := by omega
        subst hjt
        clear i0 hi hz0 hz1 hz2 u0
        go_wp2_with (first
          | (go_at_call 32; refine (newtable_any d _ h2).mono ?_; rintro e w3 ⟨g, rfl, hg3, hT3, hb3⟩; have HT3 := Lib.hid hT3; have HB3 := Lib.hid hb3; clear hT3 hb3 hg3)
          | (go_at_call 33; refine (of_any g d ia j ic (List.range j) _ HT3.out (hO.out.rd.fw HB3.out) (fun x hx => by rw [List.mem_range] at hx; omega) h1 h2 (by omega)).mono ?_; rintro e w4 ⟨o, rfl, hM4, hb4⟩; have HM4 := Lib.hid (hM4.congr (g := allM d) fun i c hi _ => by rw [pickA_range d j i hi]); have HB4 := Lib.hid (bt (bt hbe.out HB3.out) hb4); clear hM4 hb4)
          | (go_at_call 17; refine (apply_ok _ ca j j d cc L (allM d) F _ HM4.out.rdm (HM2.out.fw HB4.out) ⟨by omega, by omega, fun e => by omega⟩ (by omega) (fun e => by omega)).mono ?_; rintro e w5 ⟨o5, rfl, hM5, hb5⟩; have HM5 := Lib.hid hM5; have HB5 := Lib.hid (bt (bt HB2.out HB4.out) hb5); have HB45 := Lib.hid (bt HB2.out HB4.out); clear hM5 hb5))
        go_ret2
        exact ⟨o5, rfl, HM5.out.mono HB45.out.size, HB5.out⟩
end Go.Proofs.Ytioiaiifkfopnaa
