/- matrix.Inverse, Solve. -/
import Derived.Test.YtioiaiifkfopnaaMo
namespace Go.Kin
open Go.RowKit
theorem Rd.dropk {α : Type} {f : α → Value} {w : World} {b o n c : Nat} {l : List α} (h : Rd f w (some ⟨b, o, none⟩) n c l) {k : Nat} (hk : k ≤ n) : Rd f w (some ⟨b, o + k, none⟩) (n - k) (c - k) (l.drop k) := by
  refine ⟨by rw [List.length_drop, h.len], by have := h.cap; omega, by have := h.max; omega, by simp, fun i x hx => ?_⟩
  rw [List.getElem?_drop] at hx
  obtain ⟨b2, o2, hb, hc⟩ := h.cell _ x hx
  cases hb
  exact ⟨b, o + k, rfl, by rw [Nat.add_assoc]; exact hc⟩
end Go.Kin
namespace Mat
theorem mrow_drop (n m : Nat) (f : Nat → Fq) : (mrow (n + m) f).drop n = mrow m fun c => f (n + c) := by
  apply List.ext_getElem?
  intro i
  rw [List.getElem?_drop]
  by_cases h : i < m
  · rw [mrow_get _ (show n + i < n + m by omega), mrow_get _ h]
  · rw [List.getElem?_eq_none (by rw [mrow_length]; omega), List.getElem?_eq_none (by rw [mrow_length]; omega)]
theorem mrow_one (f : Nat → Fq) : mrow 1 f = [(f 0).n] := rfl
/-- The solution that elimination tells: the last column at the pivots. -/
def solV (s : EState) (k : Nat) : Nat → (Nat → Fq)
  | 0 => fun _ => 0
  | j + 1 => fun c => if s.piv[j]? = some c then s.R j k else solV s k j c
def kerV (s : EState) (col : Nat) : Nat → (Nat → Fq)
  | 0 => fun c => if c = col then 1 else 0
  | j + 1 => fun c => if s.piv[j]? = some c then s.R j col else kerV s col j c
def colM (v : List Nat) : Mat := fun i _ => Fq.of (v.getD i 0)
end Mat
namespace Go.Proofs.Ytioiaiifkfopnaa
open Go.RowKit Go.Kin Mat
open Fq (sum)
set_option maxRecDepth 100000
set_option linter.unusedVariables false

/-- The first j rows laid into a block of n headers. -/
def PartR (w : World) (g n k : Nat) (f : Mat) (j : Nat) : Prop :=
  ∃ L : List (Option Addr × Nat × Nat), L.length = j ∧ Blk vh 23 w g (L ++ List.replicate (n - j) (none, 0, 0)) ∧ ∀ i h, L[i]? = some h → Own vb 0 5 w h.1 h.2.1 h.2.2 (mrow k (f i))
theorem PartR.start {w : World} {g n k : Nat} {f : Mat} (h : Blk vh 23 w g (List.replicate n (none, 0, 0))) : PartR w g n k f 0 := ⟨[], rfl, h, by simp⟩
theorem PartR.fw {w w' : World} {g n k : Nat} {f : Mat} {j : Nat} (h : PartR w g n k f j) (hb : Below w.heap.size w w') : PartR w' g n k f j := by
  obtain ⟨L, h1, h2, h3⟩ := h
  exact ⟨L, h1, h2.fw hb, fun i x hx => (h3 i x hx).fw hb⟩
theorem PartR.cell {w : World} {g n k : Nat} {f : Mat} {j : Nat} (h : PartR w g n k f j) (hj : j < n) : w.cell? ⟨g, j, none⟩ = some (.slice none 0 0) ∧ w.frozen? ⟨g, j, none⟩ = false ∧ g < w.heap.size := by
  obtain ⟨L, h1, h2, h3⟩ := h
  exact ⟨h2.cell (get_next h1 hj), h2.frozen j, h2.lt⟩
theorem PartR.next {w : World} {g n k : Nat} {f : Mat} {j : Nat} (h : PartR w g n k f j) (hj : j < n) {ra : Option Addr} {rc : Nat} (hr : Own vb 0 5 w ra k rc (mrow k (f j))) : PartR (w.setCell ⟨g, j, none⟩ (.slice ra k rc)) g n k f (j + 1) := by
  obtain ⟨L, h1, h2, h3⟩ := h
  refine ⟨L ++ [(ra, k, rc)], by rw [List.length_append, h1]; rfl, ?_, fun i x hx => ?_⟩
  · have := h2.set j (ra, k, rc)
    rw [set_next h1 hj] at this
    exact this
  · by_cases hi : i < L.length
    · rw [List.getElem?_append_left hi] at hx
      exact (h3 i x hx).otherT (p := ⟨g, j, none⟩) h2 tt' _
    · rw [List.getElem?_append_right (by omega)] at hx
      have e : i = j := by
        rcases Nat.eq_zero_or_pos (i - L.length) with e | e
        · omega
        · rw [List.getElem?_eq_none (by simp; omega)] at hx; cases hx
      subst e
      rw [h1, Nat.sub_self] at hx
      cases hx
      exact hr.otherT (p := ⟨g, i, none⟩) h2 tt' _
theorem PartR.done {w : World} {g n k B : Nat} {f : Mat} (h : PartR w g n k f n) (hB : B ≤ g) (hn : n ≤ 1000) : MatR w B (some ⟨g, 0, none⟩) n n k f := by
  obtain ⟨L, h1, h2, h3⟩ := h
  rw [Nat.sub_self, List.replicate_zero, List.append_nil] at h2
  have := h2.own hB (by rw [h1]; unfold maxLen; omega)
  rw [h1] at this
  exact ⟨L, this, h3⟩

set_option maxHeartbeats 2000000 in
theorem inv_ok (a : Option Addr) (n c : Nat) (f : Mat) (w : World) (h : RdM w a n c (mlist n n f)) (hn : n ≤ 64) (hs : (elimE n (aug n f idm) n).piv.length = n) :
    Calls Try.prog 15 #[.slice a n c] w fun e w' => ∃ o, e = .returned (.tuple #[.slice (some ⟨o, 0, none⟩) n n, .int .i64 0]) ∧ MatR w' w.heap.size (some ⟨o, 0, none⟩) n n n (fun i c => (elimE n (aug n f idm) n).R i (n + c)) ∧ Below w.heap.size w w' := by
  have hv : VM n n := ⟨hn, hn, fun e => e⟩
  have hd := decide_eq_true (hv.valid f)
  have hc := hv.cols f
  have e1 : ((n : Int) != (n : Int)) = false := by simp
  obtain ⟨s, hss⟩ : ∃ s, s = elimE n (aug n f idm) n := ⟨_, rfl⟩
  rw [← hss] at hs ⊢
  have HSS := Lib.hid hss; have HS := Lib.hid hs
  obtain ⟨i0, hi, hz0, hz1, hz2⟩ := info_parts info5
  obtain ⟨i1, hi1, hy0, hy1, hy2⟩ := info_parts infoB
  have u0 := Try.underlying23
  have u1 := Try.underlying30
  have H := Lib.hid h
  clear h hv hss hs
  go_enter Try.func15, Try.ntmps15
  go_wp2_with (first
    | (go_at_call 36; refine (valid_any _ _ _ _ _ H.out).mono ?_; rw [hd]; rintro e w' ⟨rfl, rfl⟩)
    | (go_at_call 37; refine (columns_any _ _ _ _ _ H.out).mono ?_; rw [hc]; rintro e w' ⟨rfl, rfl⟩)
    | (go_at_call 28; refine (ident_any n _ hn).mono ?_; rintro e w1 ⟨o1, rfl, hM1, hb1⟩; have HM1 := Lib.hid (hM1.rdm (by omega)); have HB1 := Lib.hid hb1; clear hM1 hb1)
    | (go_at_call 38; refine (eliminate_two _ _ _ _ _ n n f idm _ (H.out.fw HB1.out) HM1.out (by omega) (by omega)).mono ?_; rw [← HSS.out]; rintro e w2 ⟨rfl, ⟨ra, rc, pa, pc, h1, h2, h3⟩, h4⟩; rw [HS.out] at h1; have c0 := h1.c0; have c1 := h1.c1; have HE := Lib.hid h1; have HM2 := Lib.hid h2; have HB2 := Lib.hid (bt HB1.out h4); clear h1 h2 h3 h4)
    | (at_make; refine wpList_make_blk rfl (.tmp 32) (.tmp 32) 30 rfl vh (none, 0, 0) 23 i1 u1 hi1 hy0 hy1 rfl _ _ _ _ n rfl rfl rfl rfl (by rw [hy2]; omega) (by omega) ?_; intro w3 hk3 hb3 hs3; have HP3 := Lib.hid (PartR.start (k := n) (f := fun i c => s.R i (n + c)) hk3); have HM3 := Lib.hid (HM2.out.fw hb3); have HB3 := Lib.hid hb3; have d0 := (HE.out.fw hb3).c0; have hle := HE.out.lt; clear hk3 hs3))
  clear c0 c1 H
  go_loopw [6, 7, 39] (fun _ _ i wr => ∃ j : Nat, j ≤ n ∧ i = .int .i64 (j : Int) ∧ Hid (PartR wr w2.heap.size n n (fun i c => s.R i (n + c)) j) ∧ Hid (Below w2.heap.size w2 wr)) (fun _ _ i _ => n - (intOf i).toNat)
  case atStart => exact ⟨0, by omega, rfl, HP3.out, HB3.out⟩
  case round =>
    obtain ⟨j, hj, rfl, hP, hbe⟩ := hrel
    by_cases hlt : j < n
    · have i2 : (j : Int) < (n : Int) := by omega
      obtain ⟨o, rra, rrc, rfl, hBo, q1, _, how, _⟩ := HM2.out.at hlt
      have q2 := (cellBelow hbe.out (lt_of_cell q1)).trans q1
      obtain ⟨g, rfl, _, _, _, cur, hcur⟩ := how.cell (mrow_get _ (show 0 < n + n by omega))
      have hrc := how.rd.cap
      have hrm := how.rd.max
      have hdr := how.rd.dropk (k := n) (by omega)
      rw [mrow_drop, show n + n - n = n from by omega, Nat.zero_add] at hdr
      unfold maxLen at hrm
      obtain ⟨p1, p2, p3⟩ := hP.out.cell hlt
      have hb1 := below_alloc (.cells (row vb []) 5 (0, 0)) (below_refl wr)
      have N1 := Lib.hid ((blk_new vb 5 wr []).own (Nat.le_refl _) (by simp [maxLen]))
      have HR := Lib.hid ((hdr.fw hbe.out).fw hb1)
      have B1 := Lib.hid hb1
      have i3 : ¬ rrc = n := by omega
      have i4 : ¬ rrc - n = 0 := by omega
      have i5 : (n : Int) ≤ ((n + n : Nat) : Int) := by omega
      have i6 : ((n + n : Nat) : Int) - (n : Int) = ((n : Nat) : Int) := by omega
      have i7 : n + n - n = n := by omega
      clear how hdr hb1 hcur q1
      go_wp2_with (at_builtin; refine wpList_append_rd rfl (.tmp 46) (.tmp 50) 23 rfl vb (fun _ => rfl) wr.heap.size 5 i0 (.int .u8 0) 1 u0 hi hz0 hz1 hz2 rfl _ 0 0 [] rfl N1.out (some ⟨g, n, none⟩) n (rrc - n) (mrow n fun c => s.R j (n + c)) rfl HR.out (by unfold maxLen; omega) (by omega) B1.out.size ?_; simp only [Nat.zero_add, List.nil_append]; intro ra2 rc2 w5 hown5 hgr5; have b5 : Below wr.heap.size wr w5 := B1.out.grown hgr5 B1.out.size (fun x hx => (N1.out.ownsRow.lt x hx).1); have O5 := Lib.hid (hown5.mono (Nat.zero_le _)); have B5 := Lib.hid b5; have P5 := Lib.hid (hP.out.fw b5); have v1 := (P5.out.cell hlt).1; have v2 := (P5.out.cell hlt).2.1; clear hown5 hgr5 b5)
      go_roundw
      case rel =>
        exact ⟨j + 1, by omega, by go_num, P5.out.next hlt O5.out, (bt hbe.out B5.out).setCell (p := ⟨w2.heap.size, j, none⟩) (Nat.le_refl _) _⟩
      case measure => simp [intOf]; omega
    · have hjn : j = n := by omega
      subst hjn
      clear i0 hi hz0 hz1 hz2 i1 hi1 hy0 hy1 hy2 u0 u1
      go_wp2_with fail
      go_ret2
      exact ⟨w2.heap.size, rfl, hP.out.done HB2.out.size (by omega), bt HB2.out hbe.out⟩
end Go.Proofs.Ytioiaiifkfopnaa
