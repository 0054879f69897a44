/- reedsolomon: Valid, Row, inverse, oneLength, Clone. -/
import Derived.Test.YtioiaiifkfopnaaRsb
import Derived.Test.YtioiaiifkfopnaaMy
import Derived.Lib.BufferMore
namespace Go.Proofs.Ytioiaiifkfopnaa
open Go.RowKit Go.Kin Mat
open Fq (sum)
set_option maxRecDepth 100000
set_option linter.unusedVariables false

theorem code_yes (d t : Nat) (w : World) (h1 : 0 < d) (h2 : d ≤ 8) (h3 : d ≤ t) (h4 : t ≤ 16) :
    Calls Try.prog 10 #[.int .i64 (d : Int), .int .i64 (t : Int)] w fun e w' => e = .returned (.bool true) ∧ w = w' := by
  have e1 : (1 : Int) ≤ (d : Int) := by omega
  have e2 : (d : Int) ≤ 8 := by omega
  have e3 : (d : Int) ≤ (t : Int) := by omega
  have e4 : (t : Int) ≤ 16 := by omega
  go_enter Try.func10, Try.ntmps10
  go_wp2
  go_ret
  exact ⟨rfl, rfl⟩
theorem code_no (d t : Int) (w : World) (h : ¬ (1 ≤ d ∧ d ≤ 8 ∧ d ≤ t ∧ t ≤ 16)) :
    Calls Try.prog 10 #[.int .i64 d, .int .i64 t] w fun e w' => e = .returned (.bool false) ∧ w = w' := by
  by_cases h1 : 1 ≤ d
  · by_cases h2 : d ≤ 8
    · by_cases h3 : d ≤ t
      · have h4 : decide (t ≤ 16) = false := by simp; omega
        clear h
        go_enter Try.func10, Try.ntmps10
        go_wp2
        go_ret
        exact ⟨rfl, rfl⟩
      · have h4 : decide (d ≤ t) = false := by simp; omega
        clear h
        go_enter Try.func10, Try.ntmps10
        go_wp2
        go_ret
        exact ⟨rfl, rfl⟩
    · have h4 : decide (d ≤ 8) = false := by simp; omega
      clear h
      go_enter Try.func10, Try.ntmps10
      go_wp2
      go_ret
      exact ⟨rfl, rfl⟩
  · have h4 : decide (1 ≤ d) = false := by simp; omega
    clear h
    go_enter Try.func10, Try.ntmps10
    go_wp2
    go_ret
    exact ⟨rfl, rfl⟩

set_option maxHeartbeats 1000000 in
theorem row_ok (d t k : Nat) (w : World) (h1 : 0 < d) (h2 : d ≤ 8) (h3 : d ≤ t) (h4 : t ≤ 16) (hk : k < t) :
    Calls Try.prog 13 #[.int .i64 (d : Int), .int .i64 (t : Int), .int .i64 (k : Int)] w fun e w' => ∃ a c, e = .returned (.tuple #[.slice a d c, .int .i64 0]) ∧ Own vb 0 5 w' a d c (mrow d (allM d k)) ∧ Below w.heap.size w w' := by
  have e1 : decide ((k : Int) < 0) = false := by simp
  have e2 : decide ((t : Int) ≤ (k : Int)) = false := by simp; omega
  go_enter Try.func13, Try.ntmps13
  go_wp2_with (first
    | (go_at_call 10; refine (code_yes d t _ h1 h2 h3 h4).mono ?_; rintro e w' ⟨rfl, rfl⟩)
    | (go_at_call 32; refine (newtable_any d _ h2).mono ?_; rintro e w1 ⟨g, rfl, hg1, hT1, hb1⟩; have HT1 := Lib.hid hT1; have HB1 := Lib.hid hb1; clear hT1 hb1 hg1)
    | (go_at_call 33; refine (of_any g d _ 1 1 [k] _ (HT1.out.fw (below_alloc _ (below_refl _))) (rd_new vi 3 w1 [(k : Int)] (n := 1) rfl (by omega)) (fun x hx => by simp at hx; omega) h1 h2 (by omega)).mono ?_; rintro e w2 ⟨o, rfl, hM2, hb2⟩; obtain ⟨a5, c5, rr, rra, rrc, q1, q2, q3⟩ := hM2.at (i := 0) (by omega); have HB2 := Lib.hid (bt (bt HB1.out (below_alloc _ (below_refl w1))) hb2); clear hb2))
  go_ret2
  exact ⟨c5, rr, rfl, q3.1, HB2.out⟩

/-- The factors with which the pieces with these indices give the blocks. -/
def invM (d : Nat) (p : List Nat) : Mat := fun i c => (elimE d (aug d (pickA d p) idm) d).R i (d + c)
theorem pick_piv {d : Nat} {p : List Nat} (hd : d ≤ 8) (hp : p.length = d) (hn : p.Nodup) (h16 : ∀ x ∈ p, x < 16) : (elimE d (aug d (pickA d p) idm) d).piv.length = d := by
  rw [aug_len]
  exact pick_full (by omega) hp hn fun x hx => by have := h16 x hx; omega
set_option maxHeartbeats 1000000 in
theorem inverse_any (g d : Nat) (b : Option Addr) (c : Nat) (p : List Nat) (w : World) (hT : Tab w g d) (hp : Rd vi w b d c (p.map Int.ofNat)) (hn : p.Nodup) (h16 : ∀ x ∈ p, x < 16) (h1 : 0 < d) (hd : d ≤ 8) :
    Calls Try.prog 35 #[.pointer (some ⟨g, 0, none⟩), .slice b d c] w fun e w' => ∃ o, e = .returned (.slice (some ⟨o, 0, none⟩) d d) ∧ MatR w' w.heap.size (some ⟨o, 0, none⟩) d d d (invM d p) ∧ Below w.heap.size w w' := by
  have c0 : w.cell? ⟨g, 0, none⟩ = some (.int .i64 (d : Int)) := hT.head
  have hcap := hp.cap
  have i1 : (d : Int) ≤ (c : Int) := by omega
  obtain ⟨b1, o1, rfl⟩ := hp.lt_of_pos h1
  have hlen := hp.len
  rw [List.length_map] at hlen
  have HV := Lib.hid (pick_piv hd hlen hn h16)
  go_enter Try.func35, Try.ntmps35
  go_wp2_with (first
    | (go_at_call 33; refine (of_any g d _ d c p _ hT hp h16 h1 hd (by omega)).mono ?_; rintro e w2 ⟨o, rfl, hM2, hb2⟩; have HM2 := Lib.hid hM2; have HB2 := Lib.hid hb2; clear hM2 hb2)
    | (go_at_call 15; refine (inv_ok _ d d (pickA d p) _ HM2.out.rdm (by omega) HV.out).mono ?_; rintro e w3 ⟨o3, rfl, hM3, hb3⟩; have HM3 := Lib.hid hM3; have HB3 := Lib.hid (bt HB2.out hb3); clear hM3 hb3))
  go_ret
  exact ⟨o3, rfl, HM3.out.mono HB2.out.size, HB3.out⟩

/-- Nothing is asked for. -/
theorem factors_nil (g b1 b2 : Option Addr) (n c k : Nat) (w : World) :
    Calls Try.prog 41 #[.pointer g, .slice b1 n c, .slice b2 0 k] w fun e w' => e = .returned (.slice none 0 0) ∧ w = w' := by
  go_enter Try.func41, Try.ntmps41
  go_wp2
  go_ret
  exact ⟨rfl, rfl⟩
theorem conflict_nil (a : Option Addr) (n c : Nat) (w : World) :
    Calls Try.prog 40 #[.slice a n c, .slice none 0 0] w fun e w' => e = .returned (.int .i64 (-1)) ∧ w = w' := by
  go_enter Try.func40, Try.ntmps40
  go_wp2
  go_loopw [5, 13] (fun f i wr => f = .int .i64 (-1) ∧ i = .int .i64 0 ∧ wr = w) (fun _ _ _ => 0)
  case atStart => exact ⟨rfl, rfl, rfl⟩
  case round =>
    obtain ⟨rfl, rfl, rfl⟩ := hrel
    go_wp2_with fail
    go_ret
    exact ⟨rfl, rfl⟩

set_option maxHeartbeats 1000000 in
theorem onelen_yes (a : Option Addr) (n c L : Nat) (F : Mat) (w : World) (h : RdM w a n c (mlist n L F)) (h1 : 0 < L) (h2 : L ≤ 65536) :
    Calls Try.prog 30 #[.slice a n c] w fun e w' => e = .returned (.bool true) ∧ Below w.heap.size w w' := by
  have hlim := h.lim
  have H := Lib.hid h
  clear h
  go_enter Try.func30, Try.ntmps30
  go_wp2
  go_loopw [7] (fun i wr => ∃ j : Nat, j ≤ n ∧ i = .int .i64 (j : Int) ∧ Hid (Below w.heap.size w wr)) (fun i _ => n - (intOf i).toNat)
  case atStart => exact ⟨0, by omega, rfl, below_refl _⟩
  case round =>
    obtain ⟨j, hj, rfl, hbe⟩ := hrel
    by_cases hlt : j < n
    · have i2 : (j : Int) < (n : Int) := by omega
      obtain ⟨m, ra, rn, rc, ba, ob, hm, rfl, c0, hrow⟩ := H.out.row hlt
      obtain rfl := mlist_row hm
      obtain rfl : L = rn := by have := hrow.len; rwa [mrow_length] at this
      obtain ⟨m2, ra2, rn2, rc2, ba2, ob2, hm2, ho2, c2, hrow2⟩ := H.out.row (show 0 < n by omega)
      cases ho2
      obtain rfl := mlist_row hm2
      obtain rfl : L = rn2 := by have := hrow2.len; rwa [mrow_length] at this
      have d0 := (cellBelow hbe.out (lt_of_cell c0)).trans c0
      have d2 := (cellBelow hbe.out (lt_of_cell c2)).trans c2
      rw [Nat.add_zero] at d2
      have i3 : ((L : Int) == 0) = false := by simp; omega
      have i4 : decide ((65536 : Int) < (L : Int)) = false := by simp; omega
      clear c0 c2
      go_wp2_with fail
      go_roundw
      case rel => exact ⟨j + 1, by omega, by go_num, hbe⟩
      case measure => simp [intOf]; omega
    · have hjn : j = n := by omega
      subst hjn
      go_wp2_with fail
      go_ret
      exact ⟨rfl, hbe.out⟩

set_option maxHeartbeats 1000000 in
theorem clone_some (b o n c : Nat) (M : List (List Nat)) (w : World) (h : RdM w (some ⟨b, o, none⟩) n c M) (hn : n ≤ 1000) :
    Calls Try.prog 31 #[.slice (some ⟨b, o, none⟩) n c] w fun e w' => ∃ a' c', e = .returned (.slice a' n c') ∧ RdM w' a' n c' M ∧ Below w.heap.size w w' := by
  obtain ⟨i1, hi1, hy0, hy1, hy2⟩ := info_parts infoB
  have u1 := Try.underlying30
  obtain ⟨L, h1, h2, h3⟩ := h
  have H1 := Lib.hid h1; have H2 := Lib.hid h2; have H3 := Lib.hid h3
  have B0 := Lib.hid (below_alloc (.cells (row vh []) 23 (0, 0)) (below_refl w))
  have N0 := Lib.hid ((blk_new vh 23 w []).own (Nat.le_refl _) (by simp [maxLen]))
  clear h1 h2 h3
  have hnil : ∀ W, (binOp .eql 30 (.slice (some ⟨b, o, none⟩) n c) (.slice none 0 0)).run Try.prog W = .ok (.bool false) W := fun W => Lib.run_eql_slice_some_nil W _ _ _ u1
  go_enter Try.func31, Try.ntmps31
  go_wp2_with (at_builtin; refine wpList_append_rd rfl (.tmp 5) (.tmp 6) 30 rfl vh vh_one w.heap.size 23 i1 (.slice none 0 0) 24 u1 hi1 hy0 hy1 hy2 rfl _ 0 0 [] rfl N0.out (some ⟨b, o, none⟩) n c L rfl (H1.out.fw B0.out) (by unfold maxLen; omega) (by omega) B0.out.size ?_; simp only [Nat.zero_add, List.nil_append]; intro sa c2 w7 hown7 hgr7; have B7 := Lib.hid (B0.out.grown hgr7 B0.out.size (fun x hx => own_ge N0.out hx)); have O7 := Lib.hid hown7; clear hown7 hgr7)
  go_ret
  exact ⟨sa, c2, rfl, ⟨L, O7.out.rd, H2.out, fun i x m hx hm => (H3.out i x m hx hm).fw B7.out⟩, B7.out⟩
end Go.Proofs.Ytioiaiifkfopnaa
