/- quota: Allowed. -/
import Derived.Test.YtpecepfnmkpmmaaQk
import Derived.Deep.RegionLaw
import Derived.Deep.CutRange
namespace Go.Proofs.Ytpecepfnmkpmmaa
open Go.RowKit Go.Kin Quo
set_option maxRecDepth 100000
set_option linter.unusedVariables false

set_option maxHeartbeats 1000000 in
theorem allowed_no (ta : Option Addr) (n tc : Nat) (T : Tab) (qa : Option Addr) (m qc : Nat) (q : List Int) (al ho ow : Int) (w : World) (h : RdT w ta n tc T) (h2 : Rd vi w qa m qc q)
    (hno : ¬ (Fit T q ∧ 0 ≤ al ∧ al ≤ maxC ∧ 0 ≤ ho ∧ ho < n ∧ 0 ≤ ow ∧ ow < n ∧ ho ≠ ow)) :
    Calls Try.prog 18 #[.slice ta n tc, .slice qa m qc, .int .i64 al, .int .i64 ho, .int .i64 ow] w fun e w' => e = .returned (.tuple #[.int .i64 0, .int .i64 1]) ∧ w = w' := by
  unfold maxC at hno
  by_cases hf : Fit T q
  · have hd := decide_eq_true hf
    have hsel : al < 0 ∨ (0 ≤ al ∧ 1099511627776 < al) ∨ (0 ≤ al ∧ al ≤ 1099511627776 ∧ ho < 0) ∨ (0 ≤ al ∧ al ≤ 1099511627776 ∧ 0 ≤ ho ∧ (n : Int) ≤ ho) ∨ (0 ≤ al ∧ al ≤ 1099511627776 ∧ 0 ≤ ho ∧ ho < n ∧ ow < 0) ∨ (0 ≤ al ∧ al ≤ 1099511627776 ∧ 0 ≤ ho ∧ ho < n ∧ 0 ≤ ow ∧ (n : Int) ≤ ow) ∨ (0 ≤ al ∧ al ≤ 1099511627776 ∧ 0 ≤ ho ∧ ho < n ∧ 0 ≤ ow ∧ ow < n ∧ ho = ow) := by
      have : ¬ (0 ≤ al ∧ al ≤ 1099511627776 ∧ 0 ≤ ho ∧ ho < n ∧ 0 ≤ ow ∧ ow < n ∧ ho ≠ ow) := fun k => hno ⟨hf, k⟩
      omega
    have H := Lib.hid h; have H2 := Lib.hid h2
    clear hno h h2 hf
    rcases hsel with k1 | ⟨k1, k2⟩ | ⟨k1, k2, k3⟩ | ⟨k1, k2, k3, k4⟩ | ⟨k1, k2, k3, k4, k5⟩ | ⟨k1, k2, k3, k4, k5, k6⟩ | ⟨k1, k2, k3, k4, k5, k6, rfl⟩
    all_goals
      go_enter Try.func18, Try.ntmps18
      go_wp2_with (go_at_call 39; refine (fitting_any _ _ _ T _ _ _ q _ H.out H2.out).mono ?_; rw [hd]; rintro e w' ⟨rfl, rfl⟩)
      go_ret2
      exact ⟨rfl, rfl⟩
  · have hd := decide_eq_false hf
    have H := Lib.hid h; have H2 := Lib.hid h2
    clear hno h h2 hf
    go_enter Try.func18, Try.ntmps18
    go_wp2_with (go_at_call 39; refine (fitting_any _ _ _ T _ _ _ q _ H.out H2.out).mono ?_; rw [hd]; rintro e w' ⟨rfl, rfl⟩)
    go_ret2
    exact ⟨rfl, rfl⟩
def allowF (T : Tab) (q : List Int) (al : Int) (ho ow : Nat) : Int := max 0 (min (q.getD ho 0 - (heldF T).getD ho 0) (al - (balF T).getD ow 0))
theorem held_bound {T : Tab} (h : VT T) {i : Nat} (hi : i < T.length) : 0 ≤ (heldF T).getD i 0 ∧ (heldF T).getD i 0 ≤ 12 * maxC := by
  have e : (heldF T)[i]? = some (T.getD i []).sum := by unfold heldF; rw [List.getElem?_map, get_some hi []]; rfl
  rw [getD_of e]
  have hr := h.row (get_some hi [])
  have b := cnt_sum hr.2.2
  rw [hr.1] at b
  have h12 := h.1
  unfold maxC at b ⊢
  omega
theorem bal_bound {T : Tab} (h : VT T) {i : Nat} (hi : i < T.length) : -(12 * maxC) ≤ (balF T).getD i 0 ∧ (balF T).getD i 0 ≤ 12 * maxC := by
  have e : (balF T)[i]? = some ((col T i).sum - (T.getD i []).sum) := by unfold balF; rw [List.getElem?_map, List.getElem?_range hi]; rfl
  rw [getD_of e]
  have hr := h.row (get_some hi [])
  have b := cnt_sum hr.2.2
  rw [hr.1] at b
  have b2 := cnt_sum (h.col hi)
  rw [show (col T i).length = T.length by unfold col; simp] at b2
  have h12 := h.1
  unfold maxC at b b2 ⊢
  omega

set_option maxHeartbeats 1000000 in
theorem allowed_ok (ta : Option Addr) (n tc : Nat) (T : Tab) (qa : Option Addr) (qc : Nat) (q : List Int) (al : Int) (ho ow : Nat) (w : World) (h : RdT w ta n tc T) (h2 : Rd vi w qa n qc q)
    (hf : Fit T q) (ha : 0 ≤ al) (ha2 : al ≤ 1099511627776) (hh : ho < n) (hw : ow < n) (hne : ho ≠ ow) :
    Calls Try.prog 18 #[.slice ta n tc, .slice qa n qc, .int .i64 al, .int .i64 (ho : Int), .int .i64 (ow : Int)] w fun e w' => e = .returned (.tuple #[.int .i64 (allowF T q al ho ow), .int .i64 0]) ∧ Below w.heap.size w w' := by
  have hd := decide_eq_true hf
  have hlen := h.len
  have i1 : (ho : Int) < (n : Int) := by omega
  have i2 : (ow : Int) < (n : Int) := by omega
  have i3 : ((ho : Int) == (ow : Int)) = false := by simp; omega
  have j1 : decide ((ho : Int) < 0) = false := by simp
  have j2 : decide ((ow : Int) < 0) = false := by simp
  have j5 : decide (n ≤ ho) = false := by simp; omega
  have j6 : decide (n ≤ ow) = false := by simp; omega
  have j7 : decide ((n : Int) ≤ (ho : Int)) = false := by simp; omega
  have j8 : decide ((n : Int) ≤ (ow : Int)) = false := by simp; omega
  have j3 : decide (al < 0) = false := by simp; omega
  have j4 : decide (1099511627776 < al) = false := by simp; omega
  have x0 : q[ho]? = some (q.getD ho 0) := get_some (by rw [h2.len]; exact hh) 0
  have y0 : (heldF T)[ho]? = some ((heldF T).getD ho 0) := get_some (by rw [held_length, hlen]; exact hh) 0
  have z0 : (balF T)[ow]? = some ((balF T).getD ow 0) := get_some (by rw [bal_length, hlen]; exact hw) 0
  have xb := hf.2.2 _ (List.mem_of_getElem? x0)
  have yb := held_bound hf.1 (i := ho) (by rw [hlen]; exact hh)
  have zb := bal_bound hf.1 (i := ow) (by rw [hlen]; exact hw)
  obtain ⟨x, hx⟩ : ∃ x, x = q.getD ho 0 := ⟨_, rfl⟩
  obtain ⟨y, hy⟩ : ∃ y, y = (heldF T).getD ho 0 := ⟨_, rfl⟩
  obtain ⟨z, hz⟩ : ∃ z, z = (balF T).getD ow 0 := ⟨_, rfl⟩
  have HA : Hid (allowF T q al ho ow = max 0 (min (x - y) (al - z))) := by show allowF T q al ho ow = _; unfold allowF; rw [hx, hy, hz]
  rw [← hx] at x0 xb; rw [← hy] at y0 yb; rw [← hz] at z0 zb
  unfold maxC at xb yb zb
  have q1 : IntKind.i64.wrap (x - y) = x - y := by rw [IntKind.wrap_i64]; omega
  have q2 : wrap64 (x - y) = x - y := by unfold wrap64; omega
  have q3 : IntKind.i64.wrap (al - z) = al - z := by rw [IntKind.wrap_i64]; omega
  have q4 : wrap64 (al - z) = al - z := by unfold wrap64; omega
  have Q1 := Lib.hid q1; have Q2 := Lib.hid q2
  obtain ⟨b1, o1, rfl, x1⟩ := h2.cell ho _ x0
  unfold vi at x1
  have H := Lib.hid h; have H2 := Lib.hid h2; have HV := Lib.hid hf.1; have HY := Lib.hid y0; have HZ := Lib.hid z0
  clear h h2 hf hx hy hz x0 y0 z0 xb yb zb hlen
  go_enter Try.func18, Try.ntmps18
  go_wp2_with (go_at_call 39; refine (fitting_any _ _ _ T _ _ _ q _ H.out H2.out).mono ?_; rw [hd]; rintro e w' ⟨rfl, rfl⟩)
  go_cut [13] from 50 to 59 (fun v wq => v = .int .i64 (x - y) ∧ Hid (Below w.heap.size w wq))
  case first =>
    go_region_law (go_simp; go_at_call 40; refine (held_any _ _ _ T _ (H.out.fw (fdrewN (below_refl w) 1)) HV.out).mono ?_; rintro e w2 ⟨g2, rfl, hg2, hB2, hb2⟩; have y1 := hB2.cell HY.out; have x2 := (cellBelow hb2 (lt_of_cell x1)).trans x1; unfold vi at y1; have HB2 := Lib.hid (bt (fdrewN (below_refl w) 1) hb2); clear hB2 hb2 hg2)
    all_goals
      go_wp2_with fail
      go_meet
      refine ⟨?_, HB2.out⟩
      first | rfl | (show Value.int .i64 (IntKind.i64.wrap (x - y)) = _; rw [Q1.out]) | (show Value.int .i64 (wrap64 (x - y)) = _; rw [Q2.out])
  case rest =>
    obtain ⟨rfl, hb1⟩ := hcut
    have HT := Lib.hid (H.out.fw hb1.out)
    go_wp2_with (first
      | (go_at_call 38; refine (bal_any _ _ _ T _ HT.out HV.out).mono ?_; rintro e w3 ⟨g3, rfl, hg3, hB3, hb3⟩; have z1 := hB3.cell HZ.out; unfold vi at z1; have HB3 := Lib.hid (bt hb1.out hb3); clear hB3 hb3)
      | (refine wpList_min2 rfl (.tmp 67) (.tmp 68) 3 rfl (x - y) (al - z) rfl rfl ?_)
      | (refine wpList_max2 rfl (.const (.int .i64 0)) (.tmp 69) 3 rfl 0 (min (x - y) (al - z)) rfl rfl ?_; rw [← HA.out]))
    go_ret2
    exact ⟨rfl, HB3.out⟩
end Go.Proofs.Ytpecepfnmkpmmaa
