/- MatrixAssociates: the walk. -/
import Derived.Test.YtchhfpaicdhjbaaMw
import Derived.Test.YtchhfpaicdhjbaaMy
namespace Go.Proofs.Ytchhfpaicdhjbaa
open Go.RowKit Go.Kin Mat
set_option maxRecDepth 100000
set_option linter.unusedVariables false

theorem mul_some (a b : Option Addr) (n m c d : Nat) (A B : List (List Nat)) (w : World) (h1 : RdM w a n c A) (h2 : RdM w b m d B) (hA : ∀ m ∈ A, ∀ x ∈ m, x < 256) (hB : ∀ m ∈ B, ∀ x ∈ m, x < 256) :
    Calls Try.prog 25 #[.slice a n c, .slice b m d] w fun e w' => ∃ oa on oc r, e = .returned (.tuple #[.slice oa on oc, .int .i64 r]) ∧ Below w.heap.size w w' := by
  by_cases hok : MulOk A B
  · obtain ⟨vA, vB, hc⟩ := hok
    obtain ⟨q, f, v1, hq, rfl⟩ := valid_form h1 hA vA
    obtain ⟨L, g, v2, hL, rfl⟩ := valid_form h2 hB vB
    rw [mlist_length, ← hq] at hc
    subst hc
    exact (mul_ok a b n c q d L f g w h1 h2 v1 v2).mono fun e w' ⟨o, he, hM, hb⟩ => ⟨_, _, _, _, he, hb⟩
  · exact (mul_bad a b n m c d A B w h1 h2 hok).mono fun e w' ⟨he, hw⟩ => ⟨_, _, _, _, he, by rw [hw]; exact below_refl _⟩
theorem det_some (a : Option Addr) (n k c : Nat) (f : Mat) (w : World) (h : RdM w a n c (mlist n k f)) (hv : VM n k) :
    Calls Try.prog 32 #[.slice a n c] w fun e w' => ∃ (x : Nat) (r : Int), e = .returned (.tuple #[.int .u8 (x : Int), .int .i64 r]) ∧ Below w.heap.size w w' := by
  by_cases e : n = k
  · subst e
    exact (det_ok a n c f w h hv.hn).mono fun e w' ⟨he, hb⟩ => ⟨_, _, he, hb⟩
  · exact (det_bad a n c _ w h (fun h => e (by have := h.2; rwa [mlist_length, hv.cols] at this))).mono fun e w' ⟨he, hw⟩ => ⟨0, _, he, by rw [hw]; exact below_refl _⟩

set_option maxHeartbeats 8000000 in
theorem walk_MatrixAssociates (a : Option Addr) (n c : Nat) (A : List (List Nat)) (b : Option Addr) (m d : Nat) (B : List (List Nat)) (g : Option Addr) (l h : Nat) (C : List (List Nat)) (w : World) (h1 : RdM w a n c A) (hb1 : ∀ m ∈ A, ∀ x ∈ m, x < 256) (h2 : RdM w b m d B) (hb2 : ∀ m ∈ B, ∀ x ∈ m, x < 256) (h3 : RdM w g l h C) (hb3 : ∀ m ∈ C, ∀ x ∈ m, x < 256) :
    Calls Try.prog 8 #[.slice a n c, .slice b m d, .slice g l h] w fun e w' => e = .returned (.bool true) ∧ Below w.heap.size w w' := by
  by_cases hf : FewL A 5 ∧ FewL B 5 ∧ FewL C 5
  case neg =>
    have hsel : ¬ FewL A 5 ∨ (FewL A 5 ∧ ¬ FewL B 5) ∨ (FewL A 5 ∧ FewL B 5 ∧ ¬ FewL C 5) := by
      by_cases hA : FewL A 5
      · by_cases hB : FewL B 5
        · exact .inr (.inr ⟨hA, hB, fun hC => hf ⟨hA, hB, hC⟩⟩)
        · exact .inr (.inl ⟨hA, hB⟩)
      · exact .inl hA
    clear hf hb1 hb2 hb3
    rcases hsel with e | ⟨e, e'⟩ | ⟨e, e', e''⟩
    · have HF := decide_eq_false e
      clear e
      go_enter Try.func8, Try.ntmps8
      go_wp2_with (first
        | (go_at_call 13; refine (few_any _ _ _ _ 5 _ (by assumption)).mono ?_; rintro e w' ⟨rfl, rfl⟩)
        | (go_at_call 14; refine (awake_any _).mono ?_; rintro e w1 ⟨rfl, b1⟩))
      go_ret
      exact ⟨rfl, b1⟩
    · have HF := decide_eq_true e
      have HG := decide_eq_false e'
      clear e e'
      go_enter Try.func8, Try.ntmps8
      go_wp2_with (first
        | (go_at_call 13; refine (few_any _ _ _ _ 5 _ (by assumption)).mono ?_; rintro e w' ⟨rfl, rfl⟩)
        | (go_at_call 14; refine (awake_any _).mono ?_; rintro e w1 ⟨rfl, b1⟩))
      go_ret
      exact ⟨rfl, b1⟩
    · have HF := decide_eq_true e
      have HG := decide_eq_true e'
      have HH := decide_eq_false e''
      clear e e' e''
      go_enter Try.func8, Try.ntmps8
      go_wp2_with (first
        | (go_at_call 13; refine (few_any _ _ _ _ 5 _ (by assumption)).mono ?_; rintro e w' ⟨rfl, rfl⟩)
        | (go_at_call 14; refine (awake_any _).mono ?_; rintro e w1 ⟨rfl, b1⟩))
      go_ret
      exact ⟨rfl, b1⟩
  obtain ⟨hfA, hfB, hfC⟩ := hf
  have HF := decide_eq_true hfA
  have HG := decide_eq_true hfB
  have HH := decide_eq_true hfC
  clear hfA hfB hfC
  have HB1 := Lib.hid hb1; have HB2 := Lib.hid hb2; have HB3 := Lib.hid hb3
  by_cases hok : MulOk A B
  case neg =>
    have HO := Lib.hid hok
    clear hok hb1 hb2 hb3
    have tok : True := trivial
    go_enter Try.func8, Try.ntmps8
    go_wp2_with (first
      | (go_at_call 13; refine (few_any _ _ _ _ 5 _ (by assumption)).mono ?_; rintro e w' ⟨rfl, rfl⟩)
      | (go_at_call 25; have _t := tok; refine (mul_bad _ _ _ _ _ _ A B _ (by repeat (first | assumption | apply RdM.alloc | (apply RdM.fw2; assumption))) (by repeat (first | assumption | apply RdM.alloc | (apply RdM.fw2; assumption))) HO.out).mono ?_; rintro e w' ⟨rfl, rfl⟩; clear _t tok)
      | (go_at_call 25; refine (mul_some _ _ _ _ _ _ B C _ (by repeat (first | assumption | apply RdM.alloc | (apply RdM.fw2; assumption))) (by repeat (first | assumption | apply RdM.alloc | (apply RdM.fw2; assumption))) HB2.out HB3.out).mono ?_; rintro e w2 ⟨oa, on, oc, r, rfl, b2⟩)
      | (go_at_call 14; refine (awake_any _).mono ?_; rintro e w1 ⟨rfl, b1⟩))
    go_ret
    exact ⟨rfl, (by repeat (first | assumption | apply below_alloc | (apply bt'; assumption)))⟩
  obtain ⟨vA, vB, hc⟩ := hok
  obtain ⟨q, f, v1, hq, rfl⟩ := valid_form h1 hb1 vA
  obtain ⟨L, f2, v2, hL, rfl⟩ := valid_form h2 hb2 vB
  rw [mlist_length, ← hq] at hc
  subst hc
  by_cases hok2 : MulOk (mlist q L f2) C
  case neg =>
    have HO := Lib.hid hok2
    clear hok2 vA vB hq hL hb1 hb2 hb3
    have tok : True := trivial
    go_enter Try.func8, Try.ntmps8
    go_wp2_with (first
      | (go_at_call 13; refine (few_any _ _ _ _ 5 _ (by assumption)).mono ?_; rintro e w' ⟨rfl, rfl⟩)
      | (go_at_call 25; have _t := tok; refine (mul_ok _ _ _ _ _ _ _ f f2 _ (by repeat (first | assumption | apply RdM.alloc | (apply RdM.fw2; assumption))) (by repeat (first | assumption | apply RdM.alloc | (apply RdM.fw2; assumption))) v1 v2).mono ?_; rintro e w3 ⟨o3, rfl, hM, b3⟩; clear _t tok hM)
      | (go_at_call 25; refine (mul_bad _ _ _ _ _ _ _ C _ (by repeat (first | assumption | apply RdM.alloc | (apply RdM.fw2; assumption))) (by repeat (first | assumption | apply RdM.alloc | (apply RdM.fw2; assumption))) HO.out).mono ?_; rintro e w' ⟨rfl, rfl⟩)
      | (go_at_call 14; refine (awake_any _).mono ?_; rintro e w1 ⟨rfl, b1⟩))
    go_ret
    exact ⟨rfl, (by repeat (first | assumption | apply below_alloc | (apply bt'; assumption)))⟩
  obtain ⟨_, vC, hc2⟩ := hok2
  obtain ⟨p, f3, v3, hp, rfl⟩ := valid_form h3 hb3 vC
  rw [mlist_length, ← hL] at hc2
  subst hc2
  have hcB := v2.cols f2
  clear vA vB vC hq hL hp hb1 hb2 hb3 HB1 HB2 HB3
  by_cases hz : q = 0 ∨ L = 0
  · rcases hz with hz | hz
    · have e1 : (((q : Nat) : Int) == 0) = true := by rw [hz]; rfl
      clear hz
      have tok : True := trivial
      go_enter Try.func8, Try.ntmps8
      go_wp2_with (first
        | (go_at_call 13; refine (few_any _ _ _ _ 5 _ (by assumption)).mono ?_; rintro e w' ⟨rfl, rfl⟩)
        | (go_at_call 25; have _t := tok; refine (mul_ok _ _ _ _ _ _ _ f f2 _ (by repeat (first | assumption | apply RdM.alloc | (apply RdM.fw2; assumption))) (by repeat (first | assumption | apply RdM.alloc | (apply RdM.fw2; assumption))) v1 v2).mono ?_; rintro e w3 ⟨o3, rfl, hM, b3⟩; clear _t tok hM)
        | (go_at_call 25; refine (mul_ok _ _ _ _ _ _ _ f2 f3 _ (by repeat (first | assumption | apply RdM.alloc | (apply RdM.fw2; assumption))) (by repeat (first | assumption | apply RdM.alloc | (apply RdM.fw2; assumption))) v2 v3).mono ?_; rintro e w4 ⟨o4, rfl, hM, b4⟩; clear hM)
        | (go_at_call 14; refine (awake_any _).mono ?_; rintro e w1 ⟨rfl, b1⟩))
      go_ret
      exact ⟨rfl, (by repeat (first | assumption | apply below_alloc | (apply bt'; assumption)))⟩
    · rcases Nat.eq_zero_or_pos q with hq0 | hq0
      · have e1 : (((q : Nat) : Int) == 0) = true := by rw [hq0]; rfl
        clear hz hq0
        have tok : True := trivial
        go_enter Try.func8, Try.ntmps8
        go_wp2_with (first
          | (go_at_call 13; refine (few_any _ _ _ _ 5 _ (by assumption)).mono ?_; rintro e w' ⟨rfl, rfl⟩)
          | (go_at_call 25; have _t := tok; refine (mul_ok _ _ _ _ _ _ _ f f2 _ (by repeat (first | assumption | apply RdM.alloc | (apply RdM.fw2; assumption))) (by repeat (first | assumption | apply RdM.alloc | (apply RdM.fw2; assumption))) v1 v2).mono ?_; rintro e w3 ⟨o3, rfl, hM, b3⟩; clear _t tok hM)
          | (go_at_call 25; refine (mul_ok _ _ _ _ _ _ _ f2 f3 _ (by repeat (first | assumption | apply RdM.alloc | (apply RdM.fw2; assumption))) (by repeat (first | assumption | apply RdM.alloc | (apply RdM.fw2; assumption))) v2 v3).mono ?_; rintro e w4 ⟨o4, rfl, hM, b4⟩; clear hM)
          | (go_at_call 14; refine (awake_any _).mono ?_; rintro e w1 ⟨rfl, b1⟩))
        go_ret
        exact ⟨rfl, (by repeat (first | assumption | apply below_alloc | (apply bt'; assumption)))⟩
      · have e1 : (((q : Nat) : Int) == 0) = false := by simp; omega
        have e2 : (((L : Nat) : Int) == 0) = true := by rw [hz]; rfl
        clear hz
        have tok : True := trivial
        go_enter Try.func8, Try.ntmps8
        go_wp2_with (first
          | (go_at_call 13; refine (few_any _ _ _ _ 5 _ (by assumption)).mono ?_; rintro e w' ⟨rfl, rfl⟩)
          | (go_at_call 25; have _t := tok; refine (mul_ok _ _ _ _ _ _ _ f f2 _ (by repeat (first | assumption | apply RdM.alloc | (apply RdM.fw2; assumption))) (by repeat (first | assumption | apply RdM.alloc | (apply RdM.fw2; assumption))) v1 v2).mono ?_; rintro e w3 ⟨o3, rfl, hM, b3⟩; clear _t tok hM)
          | (go_at_call 25; refine (mul_ok _ _ _ _ _ _ _ f2 f3 _ (by repeat (first | assumption | apply RdM.alloc | (apply RdM.fw2; assumption))) (by repeat (first | assumption | apply RdM.alloc | (apply RdM.fw2; assumption))) v2 v3).mono ?_; rintro e w4 ⟨o4, rfl, hM, b4⟩; clear hM)
          | (go_at_call 19; refine (rcols_any _ _ _ _ _ (by repeat (first | assumption | apply RdM.alloc | (apply RdM.fw2; assumption)))).mono ?_; rw [hcB]; rintro e w' ⟨rfl, rfl⟩)
          | (go_at_call 14; refine (awake_any _).mono ?_; rintro e w1 ⟨rfl, b1⟩))
        go_ret
        exact ⟨rfl, (by repeat (first | assumption | apply below_alloc | (apply bt'; assumption)))⟩
  have hq0 : 0 < q := by omega
  have hL0 : 0 < L := by omega
  have hn0 : 0 < n := by
    rcases Nat.eq_zero_or_pos n with e | e
    · have := v1.hz e; omega
    · exact e
  have e1 : (((q : Nat) : Int) == 0) = false := by simp; omega
  have e2 : (((L : Nat) : Int) == 0) = false := by simp; omega
  have v4 : VM n L := ⟨v1.hn, v2.hk, fun e => by omega⟩
  have v5 : VM q p := ⟨v1.hk, v3.hk, fun e => by omega⟩
  have AS : Hid (mlist n p (mul L (mul q f f2) f3) = mlist n p (mul q f (mul L f2 f3))) := mlist_congr fun i c _ _ => mul_assoc q L f f2 f3 i c
  clear hz
  by_cases hnq : n = q
  · subst hnq
    by_cases hqL : n = L
    · subst hqL
      obtain ⟨x, hx⟩ : ∃ x, x = (det n f).n := ⟨_, rfl⟩
      obtain ⟨y, hy⟩ : ∃ y, y = (det n f2).n := ⟨_, rfl⟩
      have x1 : x < 256 := by rw [hx]; exact (det n f).h
      have y1 : y < 256 := by rw [hy]; exact (det n f2).h
      have hm : Gf.mul x y = (det n (mul n f f2)).n := by rw [det_mul, Fq.mul_n, hx, hy]
      have HX := Lib.hid hx; have HY := Lib.hid hy; have HM := Lib.hid hm
      have hn64 := v1.hn
      clear hx hy hm
      have tok : True := trivial
      have tok2 : 0 ≤ 0 := Nat.le_refl 0
      have tok3 : 0 ≤ 1 := Nat.zero_le 1
      go_enter Try.func8, Try.ntmps8
      go_wp2_with (first
        | (go_at_call 13; refine (few_any _ _ _ _ 5 _ (by assumption)).mono ?_; rintro e w' ⟨rfl, rfl⟩)
        | (go_at_call 25; have _t := tok; refine (mul_ok _ _ _ _ _ _ _ f f2 _ (by repeat (first | assumption | apply RdM.alloc | (apply RdM.fw2; assumption))) (by repeat (first | assumption | apply RdM.alloc | (apply RdM.fw2; assumption))) v1 v2).mono ?_; rintro e w3 ⟨o3, rfl, hM, b3⟩; have r3 := hM.rdm; clear _t tok hM)
        | (go_at_call 25; have _t := tok2; refine (mul_ok _ _ _ _ _ _ _ f2 f3 _ (by repeat (first | assumption | apply RdM.alloc | (apply RdM.fw2; assumption))) (by repeat (first | assumption | apply RdM.alloc | (apply RdM.fw2; assumption))) v2 v3).mono ?_; rintro e w4 ⟨o4, rfl, hM, b4⟩; have r4 := hM.rdm; clear _t tok2 hM)
        | (go_at_call_of 25 o3; refine (mul_ok _ _ _ _ _ _ _ (mul n f f2) f3 _ (by repeat (first | assumption | apply RdM.alloc | (apply RdM.fw2; assumption))) (by repeat (first | assumption | apply RdM.alloc | (apply RdM.fw2; assumption))) v4 v3).mono ?_; rintro e w5 ⟨o5, rfl, hM, b5⟩; have r5 := hM.rdm; rw [AS.out] at r5; clear hM)
        | (go_at_call_of 25 o4; refine (mul_ok _ _ _ _ _ _ _ f (mul n f2 f3) _ (by repeat (first | assumption | apply RdM.alloc | (apply RdM.fw2; assumption))) (by repeat (first | assumption | apply RdM.alloc | (apply RdM.fw2; assumption))) v1 v5).mono ?_; rintro e w6 ⟨o6, rfl, hM, b6⟩; have r6 := hM.rdm; clear hM)
        | (go_at_call 19; refine (rcols_any _ _ _ _ _ (by repeat (first | assumption | apply RdM.alloc | (apply RdM.fw2; assumption)))).mono ?_; rw [hcB]; rintro e w' ⟨rfl, rfl⟩)
        | (go_at_call 21; refine (msame_eq _ _ _ _ _ _ _ _ _ (by repeat (first | assumption | apply RdM.alloc | (apply RdM.fw2; assumption))) (by repeat (first | assumption | apply RdM.alloc | (apply RdM.fw2; assumption))) mlist_b rfl).mono ?_; rintro e w7 ⟨rfl, hd⟩; have b7 := hd.fw; clear hd)
        | (go_at_call_of 32 o3; refine (det_ok _ _ _ (mul n f f2) _ (by repeat (first | assumption | apply RdM.alloc | (apply RdM.fw2; assumption))) hn64).mono ?_; rw [← HM.out]; rintro e w10 ⟨rfl, b10⟩)
        | (go_at_call 32; have _t := tok3; refine (det_ok _ _ _ f _ (by repeat (first | assumption | apply RdM.alloc | (apply RdM.fw2; assumption))) hn64).mono ?_; rw [← HX.out]; rintro e w8 ⟨rfl, b8⟩; clear _t tok3)
        | (go_at_call 32; refine (det_ok _ _ _ f2 _ (by repeat (first | assumption | apply RdM.alloc | (apply RdM.fw2; assumption))) hn64).mono ?_; rw [← HY.out]; rintro e w9 ⟨rfl, b9⟩)
        | (go_at_call 33; refine (rmul4_any x y _ x1 y1).mono ?_; rintro e w' ⟨rfl, rfl⟩)
        | (go_at_call 14; refine (awake_any _).mono ?_; rintro e w1 ⟨rfl, b1⟩))
      go_ret
      exact ⟨rfl, (by repeat (first | assumption | apply below_alloc | (apply bt'; assumption)))⟩
    · have HB : Hid (¬ (ValidL (mlist n L f2) ∧ (mlist n L f2).length = colsL (mlist n L f2))) := fun hh => hqL (by have := hh.2; rwa [mlist_length, hcB] at this)
      have hn64 := v1.hn
      clear hqL
      have tok : True := trivial
      have tok2 : 0 ≤ 0 := Nat.le_refl 0
      have tok3 : 0 ≤ 1 := Nat.zero_le 1
      go_enter Try.func8, Try.ntmps8
      go_wp2_with (first
        | (go_at_call 13; refine (few_any _ _ _ _ 5 _ (by assumption)).mono ?_; rintro e w' ⟨rfl, rfl⟩)
        | (go_at_call 25; have _t := tok; refine (mul_ok _ _ _ _ _ _ _ f f2 _ (by repeat (first | assumption | apply RdM.alloc | (apply RdM.fw2; assumption))) (by repeat (first | assumption | apply RdM.alloc | (apply RdM.fw2; assumption))) v1 v2).mono ?_; rintro e w3 ⟨o3, rfl, hM, b3⟩; have r3 := hM.rdm; clear _t tok hM)
        | (go_at_call 25; have _t := tok2; refine (mul_ok _ _ _ _ _ _ _ f2 f3 _ (by repeat (first | assumption | apply RdM.alloc | (apply RdM.fw2; assumption))) (by repeat (first | assumption | apply RdM.alloc | (apply RdM.fw2; assumption))) v2 v3).mono ?_; rintro e w4 ⟨o4, rfl, hM, b4⟩; have r4 := hM.rdm; clear _t tok2 hM)
        | (go_at_call_of 25 o3; refine (mul_ok _ _ _ _ _ _ _ (mul n f f2) f3 _ (by repeat (first | assumption | apply RdM.alloc | (apply RdM.fw2; assumption))) (by repeat (first | assumption | apply RdM.alloc | (apply RdM.fw2; assumption))) v4 v3).mono ?_; rintro e w5 ⟨o5, rfl, hM, b5⟩; have r5 := hM.rdm; rw [AS.out] at r5; clear hM)
        | (go_at_call_of 25 o4; refine (mul_ok _ _ _ _ _ _ _ f (mul L f2 f3) _ (by repeat (first | assumption | apply RdM.alloc | (apply RdM.fw2; assumption))) (by repeat (first | assumption | apply RdM.alloc | (apply RdM.fw2; assumption))) v1 v5).mono ?_; rintro e w6 ⟨o6, rfl, hM, b6⟩; have r6 := hM.rdm; clear hM)
        | (go_at_call 19; refine (rcols_any _ _ _ _ _ (by repeat (first | assumption | apply RdM.alloc | (apply RdM.fw2; assumption)))).mono ?_; rw [hcB]; rintro e w' ⟨rfl, rfl⟩)
        | (go_at_call 21; refine (msame_eq _ _ _ _ _ _ _ _ _ (by repeat (first | assumption | apply RdM.alloc | (apply RdM.fw2; assumption))) (by repeat (first | assumption | apply RdM.alloc | (apply RdM.fw2; assumption))) mlist_b rfl).mono ?_; rintro e w7 ⟨rfl, hd⟩; have b7 := hd.fw; clear hd)
        | (go_at_call_of 32 o3; refine (det_some _ _ _ _ (mul n f f2) _ (by repeat (first | assumption | apply RdM.alloc | (apply RdM.fw2; assumption))) v4).mono ?_; rintro e w10 ⟨x10, e10, rfl, b10⟩)
        | (go_at_call 32; have _t := tok3; refine (det_ok _ _ _ f _ (by repeat (first | assumption | apply RdM.alloc | (apply RdM.fw2; assumption))) hn64).mono ?_; rintro e w8 ⟨rfl, b8⟩; clear _t tok3)
        | (go_at_call 32; refine (det_bad _ _ _ _ _ (by repeat (first | assumption | apply RdM.alloc | (apply RdM.fw2; assumption))) HB.out).mono ?_; rintro e w' ⟨rfl, rfl⟩)
        | (go_at_call 14; refine (awake_any _).mono ?_; rintro e w1 ⟨rfl, b1⟩))
      go_ret
      exact ⟨rfl, (by repeat (first | assumption | apply below_alloc | (apply bt'; assumption)))⟩
  · have HB : Hid (¬ (ValidL (mlist n q f) ∧ (mlist n q f).length = colsL (mlist n q f))) := fun hh => hnq (by have := hh.2; rwa [mlist_length, v1.cols] at this)
    clear hnq
    have tok : True := trivial
    have tok2 : 0 ≤ 0 := Nat.le_refl 0
    have tok3 : 0 ≤ 1 := Nat.zero_le 1
    go_enter Try.func8, Try.ntmps8
    go_wp2_with (first
      | (go_at_call 13; refine (few_any _ _ _ _ 5 _ (by assumption)).mono ?_; rintro e w' ⟨rfl, rfl⟩)
      | (go_at_call 25; have _t := tok; refine (mul_ok _ _ _ _ _ _ _ f f2 _ (by repeat (first | assumption | apply RdM.alloc | (apply RdM.fw2; assumption))) (by repeat (first | assumption | apply RdM.alloc | (apply RdM.fw2; assumption))) v1 v2).mono ?_; rintro e w3 ⟨o3, rfl, hM, b3⟩; have r3 := hM.rdm; clear _t tok hM)
      | (go_at_call 25; have _t := tok2; refine (mul_ok _ _ _ _ _ _ _ f2 f3 _ (by repeat (first | assumption | apply RdM.alloc | (apply RdM.fw2; assumption))) (by repeat (first | assumption | apply RdM.alloc | (apply RdM.fw2; assumption))) v2 v3).mono ?_; rintro e w4 ⟨o4, rfl, hM, b4⟩; have r4 := hM.rdm; clear _t tok2 hM)
      | (go_at_call_of 25 o3; refine (mul_ok _ _ _ _ _ _ _ (mul q f f2) f3 _ (by repeat (first | assumption | apply RdM.alloc | (apply RdM.fw2; assumption))) (by repeat (first | assumption | apply RdM.alloc | (apply RdM.fw2; assumption))) v4 v3).mono ?_; rintro e w5 ⟨o5, rfl, hM, b5⟩; have r5 := hM.rdm; rw [AS.out] at r5; clear hM)
      | (go_at_call_of 25 o4; refine (mul_ok _ _ _ _ _ _ _ f (mul L f2 f3) _ (by repeat (first | assumption | apply RdM.alloc | (apply RdM.fw2; assumption))) (by repeat (first | assumption | apply RdM.alloc | (apply RdM.fw2; assumption))) v1 v5).mono ?_; rintro e w6 ⟨o6, rfl, hM, b6⟩; have r6 := hM.rdm; clear hM)
      | (go_at_call 19; refine (rcols_any _ _ _ _ _ (by repeat (first | assumption | apply RdM.alloc | (apply RdM.fw2; assumption)))).mono ?_; rw [hcB]; rintro e w' ⟨rfl, rfl⟩)
      | (go_at_call 21; refine (msame_eq _ _ _ _ _ _ _ _ _ (by repeat (first | assumption | apply RdM.alloc | (apply RdM.fw2; assumption))) (by repeat (first | assumption | apply RdM.alloc | (apply RdM.fw2; assumption))) mlist_b rfl).mono ?_; rintro e w7 ⟨rfl, hd⟩; have b7 := hd.fw; clear hd)
      | (go_at_call_of 32 o3; refine (det_some _ _ _ _ (mul q f f2) _ (by repeat (first | assumption | apply RdM.alloc | (apply RdM.fw2; assumption))) v4).mono ?_; rintro e w10 ⟨x10, e10, rfl, b10⟩)
      | (go_at_call 32; have _t := tok3; refine (det_bad _ _ _ _ _ (by repeat (first | assumption | apply RdM.alloc | (apply RdM.fw2; assumption))) HB.out).mono ?_; rintro e w' ⟨rfl, rfl⟩; clear _t tok3)
      | (go_at_call 32; refine (det_some _ _ _ _ f2 _ (by repeat (first | assumption | apply RdM.alloc | (apply RdM.fw2; assumption))) v2).mono ?_; rintro e w9 ⟨x9, e9, rfl, b9⟩)
      | (go_at_call 14; refine (awake_any _).mono ?_; rintro e w1 ⟨rfl, b1⟩))
    go_ret
    exact ⟨rfl, (by repeat (first | assumption | apply below_alloc | (apply bt'; assumption)))⟩
end Go.Proofs.Ytchhfpaicdhjbaa
