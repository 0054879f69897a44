/- reedsolomon: checkIndices, checkGiven, Reconstruct, Check. -/
import Derived.Test.YtioiaiifkfopnaaRsd
namespace Go.Proofs.Ytioiaiifkfopnaa
open Go.RowKit Go.Kin Mat
open Fq (sum)
set_option maxRecDepth 100000
set_option linter.unusedVariables false

def vbo (b : Bool) : Value := .bool b
/-- Which indices have been seen. -/
def seenL (p : List Nat) (j : Nat) : List Bool := (List.range 16).map fun i => decide (i ∈ p.take j)
theorem seenL_length (p : List Nat) (j : Nat) : (seenL p j).length = 16 := by simp [seenL]
theorem seenL_get (p : List Nat) (j : Nat) {i : Nat} (h : i < 16) : (seenL p j)[i]? = some (decide (i ∈ p.take j)) := by simp [seenL, h]
theorem take_snoc {p : List Nat} {j x : Nat} (hx : p[j]? = some x) : p.take (j + 1) = p.take j ++ [x] := by
  rw [List.take_add_one, hx]; rfl
theorem seenL_set {p : List Nat} {j x : Nat} (hx : p[j]? = some x) (h : x < 16) : (seenL p j).set x true = seenL p (j + 1) := by
  apply List.ext_getElem?
  intro i
  rw [List.getElem?_set, seenL_length]
  by_cases hi : i < 16
  · rw [seenL_get _ _ hi, seenL_get _ _ hi, take_snoc hx]
    by_cases e : x = i
    · subst e; rw [if_pos rfl, if_pos h]; simp
    · rw [if_neg e]
      congr 1
      simp only [List.mem_append, List.mem_singleton, show ¬ i = x from fun e2 => e e2.symm, or_false]
  · rw [List.getElem?_eq_none (by rw [seenL_length]; omega)]
    by_cases e : x = i
    · omega
    · rw [if_neg e, List.getElem?_eq_none (by rw [seenL_length]; omega)]
theorem not_in_take {p : List Nat} (hn : p.Nodup) {j x : Nat} (hx : p[j]? = some x) : x ∉ p.take j := by
  intro h
  obtain ⟨i, hi⟩ := List.mem_iff_getElem?.1 h
  rw [List.getElem?_take] at hi
  split at hi
  · rename_i hij
    unfold List.Nodup at hn
    rw [List.pairwise_iff_getElem] at hn
    obtain ⟨a1, b1⟩ := List.getElem?_eq_some_iff.1 hi
    obtain ⟨a2, b2⟩ := List.getElem?_eq_some_iff.1 hx
    exact hn i j a1 a2 hij (b1.trans b2.symm)
  · cases hi
set_option maxHeartbeats 1000000 in
theorem checkidx_ok (d t : Nat) (b : Option Addr) (m c : Nat) (p : List Nat) (w : World) (hp : Rd vi w b m c (p.map Int.ofNat)) (hn : p.Nodup) (ht : ∀ x ∈ p, x < t) (h1 : 0 < d) (h2 : d ≤ 8) (h3 : d ≤ t) (h4 : t ≤ 16) (hm : m ≤ 1000) :
    Calls Try.prog 57 #[.int .i64 (d : Int), .int .i64 (t : Int), .slice b m c] w fun e w' => e = .returned (.int .i64 0) ∧ Below w.heap.size w w' := by
  have HP := Lib.hid hp
  clear hp
  go_enter Try.func57, Try.ntmps57
  go_wp2_with (go_at_call 10; refine (code_yes d t _ h1 h2 h3 h4).mono ?_; rintro e w' ⟨rfl, rfl⟩)
  go_loopw [16] (fun i wr => ∃ j : Nat, j ≤ m ∧ i = .int .i64 (j : Int) ∧ Hid (Blk vbo 109 wr w.heap.size (seenL p j)) ∧ Hid (Below w.heap.size w wr)) (fun i _ => m - (intOf i).toNat)
  case atStart =>
    refine ⟨0, by omega, rfl, ?_, (Below.refl _ _).alloc (Nat.le_refl _) _⟩
    have : seenL p 0 = List.replicate 16 false := by
      show (List.range 16).map (fun i => decide (i ∈ [])) = _
      simp only [List.not_mem_nil, decide_false]
      rfl
    rw [this]
    show Blk _ _ _ _ _
    exact blk_new vbo 109 w (List.replicate 16 false)
  case round =>
    obtain ⟨j, hj, rfl, hS, hbe⟩ := hrel
    by_cases hlt : j < m
    · have i2 : (j : Int) < (m : Int) := by omega
      obtain ⟨x, hx⟩ : ∃ x, p[j]? = some x := ⟨_, List.getElem?_eq_getElem (by have := HP.out.len; rw [List.length_map] at this; omega)⟩
      obtain ⟨b1, o1, rfl, c1w⟩ := HP.out.cell j (Int.ofNat x) (by rw [List.getElem?_map, hx]; rfl)
      have c1 := (cellBelow hbe.out (lt_of_cell c1w)).trans c1w
      have hxt : x < t := ht x (List.mem_of_getElem? hx)
      change wr.cell? _ = some (.int .i64 (x : Int)) at c1
      have d1 := hS.out.cell (seenL_get p j (show x < 16 by omega))
      rw [decide_eq_false (not_in_take hn hx)] at d1
      change wr.cell? _ = some (.bool false) at d1
      have f1 := hS.out.frozen x
      have e1 : decide ((x : Int) < 0) = false := by simp
      have e2 : decide ((t : Int) ≤ (x : Int)) = false := by simp; omega
      have e3 : (x : Int) < 16 := by omega
      have S2 : Hid (Blk vbo 109 (wr.setCell ⟨w.heap.size, x, none⟩ (.bool true)) w.heap.size (seenL p (j + 1))) := by
        show Blk _ _ _ _ _
        rw [← seenL_set hx (by omega)]
        exact hS.out.set x true
      clear c1w hx
      go_wp2_with fail
      go_roundw
      case rel => exact ⟨j + 1, by omega, by go_num, S2, hbe.out.setCell (p := ⟨w.heap.size, x, none⟩) (Nat.le_refl _) _⟩
      case measure => simp [intOf]; omega
    · have hjm : j = m := by omega
      subst hjm
      go_wp2_with fail
      go_ret
      exact ⟨rfl, hbe.out⟩

theorem given_ok (d t : Nat) (b a : Option Addr) (m c cc L : Nat) (p : List Nat) (F : Mat) (w : World) (hp : Rd vi w b m c (p.map Int.ofNat)) (h : RdM w a m cc (mlist m L F)) (hn : p.Nodup) (ht : ∀ x ∈ p, x < t) (h1 : 0 < d) (h2 : d ≤ 8) (h3 : d ≤ t) (h4 : t ≤ 16) (hm : m ≤ 1000) (hL : 0 < L) (hL2 : L ≤ 1000) :
    Calls Try.prog 34 #[.int .i64 (d : Int), .int .i64 (t : Int), .slice b m c, .slice a m cc] w fun e w' => e = .returned (.int .i64 (if m < d then 10 else 0)) ∧ Below w.heap.size w w' := by
  have e1 : ((m : Int) != (m : Int)) = false := by simp
  have HP := Lib.hid hp; have H := Lib.hid h
  clear hp h
  by_cases hmd : m < d
  · rw [if_pos hmd]
    have e2 : (m : Int) < (d : Int) := by omega
    go_enter Try.func34, Try.ntmps34
    go_wp2_with (first
      | (go_at_call 57; refine (checkidx_ok d t b m c p _ HP.out hn ht h1 h2 h3 h4 hm).mono ?_; rintro e w1 ⟨rfl, hb1⟩; have HB1 := Lib.hid hb1; clear hb1)
      | (go_at_call 30; refine (onelen_yes _ m cc L F _ (H.out.fw HB1.out) hL (by omega)).mono ?_; rintro e w2 ⟨rfl, hb2⟩; have HB2 := Lib.hid (bt HB1.out hb2); clear hb2))
    go_ret
    exact ⟨rfl, HB2.out⟩
  · rw [if_neg hmd]
    have e2 : decide ((m : Int) < (d : Int)) = false := by simp; omega
    go_enter Try.func34, Try.ntmps34
    go_wp2_with (first
      | (go_at_call 57; refine (checkidx_ok d t b m c p _ HP.out hn ht h1 h2 h3 h4 hm).mono ?_; rintro e w1 ⟨rfl, hb1⟩; have HB1 := Lib.hid hb1; clear hb1)
      | (go_at_call 30; refine (onelen_yes _ m cc L F _ (H.out.fw HB1.out) hL (by omega)).mono ?_; rintro e w2 ⟨rfl, hb2⟩; have HB2 := Lib.hid (bt HB1.out hb2); clear hb2))
    go_ret
    exact ⟨rfl, HB2.out⟩

set_option maxHeartbeats 1000000 in
theorem recon_short (d t : Nat) (b a : Option Addr) (m c cc L : Nat) (p : List Nat) (F : Mat) (w : World) (hp : Rd vi w b m c (p.map Int.ofNat)) (h : RdM w a m cc (mlist m L F)) (hn : p.Nodup) (ht : ∀ x ∈ p, x < t) (h1 : 0 < d) (h2 : d ≤ 8) (h3 : d ≤ t) (h4 : t ≤ 16) (hm : m < d) (hL : 0 < L) (hL2 : L ≤ 1000) :
    Calls Try.prog 14 #[.int .i64 (d : Int), .int .i64 (t : Int), .slice b m c, .slice a m cc] w fun e w' => e = .returned (.tuple #[.slice none 0 0, .int .i64 10]) ∧ Below w.heap.size w w' := by
  have HP := Lib.hid hp; have H := Lib.hid h
  clear hp h
  go_enter Try.func14, Try.ntmps14
  go_wp2_with (go_at_call 34; refine (given_ok d t b a m c cc L p F _ HP.out H.out hn ht h1 h2 h3 h4 (by omega) hL hL2).mono ?_; rw [if_pos hm]; rintro e w1 ⟨rfl, hb1⟩; have HB1 := Lib.hid hb1; clear hb1)
  go_ret2
  exact ⟨rfl, HB1.out⟩

set_option maxHeartbeats 2000000 in
theorem recon_ok (d t : Nat) (b a : Option Addr) (c cc L : Nat) (p : List Nat) (F : Mat) (w : World) (hp : Rd vi w b d c (p.map Int.ofNat)) (h : RdM w a d cc (mlist d L F)) (hn : p.Nodup) (ht : ∀ x ∈ p, x < t) (h1 : 0 < d) (h2 : d ≤ 8) (h3 : d ≤ t) (h4 : t ≤ 16) (hL : 0 < L) (hL2 : L ≤ 1000) :
    Calls Try.prog 14 #[.int .i64 (d : Int), .int .i64 (t : Int), .slice b d c, .slice a d cc] w fun e w' => ∃ o, e = .returned (.tuple #[.slice (some ⟨o, 0, none⟩) d d, .int .i64 0]) ∧ MatR w' w.heap.size (some ⟨o, 0, none⟩) d d L (mul d (invM d p) F) ∧ Below w.heap.size w w' := by
  have hcap := h.cap
  have i1 : (d : Int) ≤ (cc : Int) := by omega
  obtain ⟨m, ra, rn, rc, ba, ob, hm, rfl, c0, hrow⟩ := h.row h1
  clear hm c0 hrow ra rn rc m
  have HP := Lib.hid hp; have H := Lib.hid h
  clear hp h
  have h16 : ∀ x ∈ p, x < 16 := fun x hx => by have := ht x hx; omega
  go_enter Try.func14, Try.ntmps14
  go_wp2_with (go_at_call 34; refine (given_ok d t b _ d c cc L p F _ HP.out H.out hn ht h1 h2 h3 h4 (by omega) hL hL2).mono ?_; rw [if_neg (Nat.lt_irrefl d)]; rintro e w1 ⟨rfl, hb1⟩; have HB1 := Lib.hid hb1; clear hb1)
  go_region_with (first
    | (go_at_call 32; refine (newtable_any d _ h2).mono ?_; rintro e w3 ⟨g, rfl, hg3, hT3, hb3⟩; have HT3 := Lib.hid hT3; have HB3 := Lib.hid (bt (bt HB1.out (below_refl w1).drew) hb3); clear hT3 hb3 hg3)
    | (go_at_call 35; refine (inverse_any g d b c p _ HT3.out (HP.out.fw HB3.out) hn h16 h1 h2).mono ?_; rintro e w4 ⟨o, rfl, hM4, hb4⟩; have HM4 := Lib.hid hM4; have HB4 := Lib.hid (bt HB3.out hb4); clear hM4 hb4)
    | (go_at_call 17; refine (apply_ok _ _ d d d cc L (invM d p) F _ HM4.out.rdm (H.out.fw HB4.out) ⟨by omega, by omega, fun e => by omega⟩ (by omega) (fun e => by omega)).mono ?_; rintro e w5 ⟨o5, rfl, hM5, hb5⟩; have HM5 := Lib.hid (hM5.mono HB4.out.size); have HB5 := Lib.hid (bt HB4.out hb5); clear hM5 hb5))
  go_wp2_with fail
  go_ret2
  exact ⟨o5, rfl, HM5.out, HB5.out⟩

set_option maxHeartbeats 2000000 in
theorem check_ok (d t : Nat) (b a : Option Addr) (c cc L : Nat) (p : List Nat) (F : Mat) (w : World) (hp : Rd vi w b d c (p.map Int.ofNat)) (h : RdM w a d cc (mlist d L F)) (hn : p.Nodup) (ht : ∀ x ∈ p, x < t) (h1 : 0 < d) (h2 : d ≤ 8) (h3 : d ≤ t) (h4 : t ≤ 16) (hL : 0 < L) (hL2 : L ≤ 1000) :
    Calls Try.prog 18 #[.int .i64 (d : Int), .int .i64 (t : Int), .slice b d c, .slice a d cc] w fun e w' => e = .returned (.tuple #[.bool true, .int .i64 0]) ∧ Below w.heap.size w w' := by
  have hcap := hp.cap
  have hmax := hp.max
  unfold maxLen at hmax
  have i1 : (d : Int) ≤ (c : Int) := by omega
  obtain ⟨b1, o1, rfl⟩ := hp.lt_of_pos h1
  have HP := Lib.hid hp; have H := Lib.hid h
  clear hp h
  by_cases hcd : c = d
  · subst hcd
    have z1 : c - c = 0 := by omega
    go_enter Try.func18, Try.ntmps18
    go_wp2_with (go_at_call 34; refine (given_ok c t _ _ c c cc L p F _ HP.out H.out hn ht h1 h2 h3 h4 (by omega) hL hL2).mono ?_; rw [if_neg (Nat.lt_irrefl c)]; rintro e w1 ⟨rfl, hb1⟩; have HB1 := Lib.hid hb1; clear hb1)
    go_region_with (first
      | (go_at_call 32; refine (newtable_any c _ h2).mono ?_; rintro e w3 ⟨g, rfl, hg3, hT3, hb3⟩; have HB3 := Lib.hid (bt (bt HB1.out (below_refl w1).drew) hb3); clear hT3 hb3 hg3)
      | (go_at_call 41; refine (factors_nil _ _ _ _ _ _ _).mono ?_; rintro e w4 ⟨rfl, rfl⟩)
      | (go_at_call 40; refine (conflict_nil _ _ _ _).mono ?_; rintro e w5 ⟨rfl, rfl⟩))
    go_wp2_with fail
    go_ret2
    exact ⟨rfl, HB3.out⟩
  · have z2 : ¬ c - d = 0 := by omega
    go_enter Try.func18, Try.ntmps18
    go_wp2_with (go_at_call 34; refine (given_ok d t _ _ d c cc L p F _ HP.out H.out hn ht h1 h2 h3 h4 (by omega) hL hL2).mono ?_; rw [if_neg (Nat.lt_irrefl d)]; rintro e w1 ⟨rfl, hb1⟩; have HB1 := Lib.hid hb1; clear hb1)
    go_region_with (first
      | (go_at_call 32; refine (newtable_any d _ h2).mono ?_; rintro e w3 ⟨g, rfl, hg3, hT3, hb3⟩; have HB3 := Lib.hid (bt (bt HB1.out (below_refl w1).drew) hb3); clear hT3 hb3 hg3)
      | (go_at_call 41; refine (factors_nil _ _ _ _ _ _ _).mono ?_; rintro e w4 ⟨rfl, rfl⟩)
      | (go_at_call 40; refine (conflict_nil _ _ _ _).mono ?_; rintro e w5 ⟨rfl, rfl⟩))
    go_wp2_with fail
    go_ret2
    exact ⟨rfl, HB3.out⟩
end Go.Proofs.Ytioiaiifkfopnaa
