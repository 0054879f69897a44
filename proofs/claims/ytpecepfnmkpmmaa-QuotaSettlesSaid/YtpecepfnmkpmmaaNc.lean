/- quota: add. -/
import Derived.Test.YtpecepfnmkpmmaaNb
import Derived.Deep.CutRange
import Derived.Deep.RegionLaw
namespace Go.Proofs.Ytpecepfnmkpmmaa
open Go.RowKit Go.Kin Quo
set_option maxRecDepth 100000
set_option linter.unusedVariables false
theorem infoA : (Try.prog.info? 73).map (fun i => (i.zero, i.size, i.bytes)) = some (some (.agg #[.int .i64 0, .int .i64 0]), 2, 16) := by kernel_rfl
theorem pushAt_get {o : List (List Nat)} {i : Nat} (hi : i < o.length) (k : Nat) : pushAt o i k = o.set i (o.getD i [] ++ [k]) := rfl

set_option maxHeartbeats 2000000 in
theorem add_any (bg f t : Nat) (r : Int) (B : Nat) (X : List Nat) (g : Net) (w : World) (h : NetM w B X bg g) (hf : f < g.out.length) (ht : t < g.out.length) (hX : ∀ x ∈ X, x < w.heap.size) (hB : B ≤ w.heap.size) (ha : g.arcs.length ≤ 10000) (ho : g.out.length ≤ 1000) (hr : ∀ m ∈ g.out, m.length ≤ 10000) :
    Calls Try.prog 60 #[.pointer (some ⟨bg, 0, none⟩), .int .i64 (f : Int), .int .i64 (t : Int), .int .i64 r] w fun e w' => e = .returned (.int .i64 (g.arcs.length : Int)) ∧ NetM w' B X bg (g.add f t r) ∧ Fr B X w w' := by
  obtain ⟨ia, hia, hza0, hza1, hza2⟩ := info_parts infoA
  obtain ⟨i0, hi0, hz0, hz1, hz2⟩ := info_parts infoI
  have ua := Try.underlying74
  have u0 := Try.underlying26
  obtain ⟨aa, ac, oo, oc, d0, d1, e0, hA, hBb, hstep⟩ := h.head
  have hb1 := below_alloc (.cells #[.int .i64 (t : Int), .int .i64 r, .int .i64 (f : Int), .int .i64 0] 73) (below_refl w)
  have HA := Lib.hid ((hA.same (w' := w.alloc (.cells #[.int .i64 (t : Int), .int .i64 r, .int .i64 (f : Int), .int .i64 0] 73)) fun x hx => hb1.block _ (hA.blt hx).1).ownsRow va_len)
  have HS := Lib.hid hstep
  have HB1 := Lib.hid hb1
  have HXX := Lib.hid hX
  have HN := Lib.hid h; have HR := Lib.hid hr
  have f0 := (cellBelow hb1 (lt_of_cell d0)).trans d0
  clear hstep hb1 h hA hX hr
  go_enter Try.func60, Try.ntmps60
  go_wp2_with (at_builtin; go_loud (refine wpList_append_lies _ rfl (.tmp 19) (.tmp 25) 74 rfl B 73 ia (.agg #[.int .i64 0, .int .i64 0]) 2 16 ua hia hza0 hza1 hza2 rfl (by omega) _ _ _ rfl HA.out ⟨w.heap.size, 0, none⟩ 2 2 [.int .i64 (t : Int), .int .i64 r, .int .i64 (f : Int), .int .i64 0] rfl rfl ?c1 ?c2 (by omega) (by unfold maxLen; omega) (by omega) (Nat.le_trans hB HB1.out.size) _ rfl ?next))
  case c1 =>
    intro j u hu
    have hj : j < 4 := by have := (List.getElem?_eq_some_iff.1 hu).1; simpa using this
    have e : (⟨w.heap.size, 0, none⟩ : Addr).add j = ⟨w.heap.size, 0 + j, none⟩ := by unfold Addr.add; split <;> simp_all
    rw [Nat.zero_add] at e
    rw [e, cell_of_row _ w.heap.size j _ _ _ (heap_alloc_new w _), ← hu]
    exact Array.getElem?_toList.symm
  case c2 =>
    intro u hu
    simp at hu
    rcases hu with rfl | rfl | rfl | rfl <;> rfl
  case next =>
    intro g5 c5 w5 hown hg hlies _
    have ho5 : OwnA va 2 B 73 w5 (some ⟨g5, 0, none⟩) (g.arcs.length + 2) c5 (g.arcs ++ [(t, r), (f, 0)]) := OwnA.of_ownsRow (by rw [List.flatMap_append]; exact hown) (by simp)
    obtain ⟨hN1, hF1, k0, k1⟩ := HS.out _ w5 g5 c5 (t, r) (f, 0) HXX.out HB1.out hg ho5 (hlies.imp id fun e => by rw [e]; simp)
    have HN1 := Lib.hid hN1; have HF1 := Lib.hid hF1
    clear hN1 hF1 hown hg hlies ho5 d0 d1 e0 f0
    go_wp2_with fail
    generalize w5.setCell ⟨bg, 0, none⟩ (.slice (some ⟨g5, 0, none⟩) (g.arcs.length + 2) c5) = w6 at HN1 HF1 ⊢
    clear k0 k1
    have HX6 : Hid (∀ x ∈ X, x < w6.heap.size) := fun x hx => Nat.lt_of_lt_of_le (HXX.out x hx) HF1.out.size
    have hB6 : B ≤ w6.heap.size := Nat.le_trans hB HF1.out.size
    obtain ⟨m, hm⟩ : ∃ m, m = g.out.getD f [] := ⟨_, rfl⟩
    have hm0 : g.out[f]? = some m := by rw [hm]; exact get_some hf []
    have hml : m.length ≤ 10000 := HR.out m (List.mem_of_getElem? hm0)
    obtain ⟨oo, oc, ra, rc, c1, c2, c3, c4, hBo, hst⟩ := HN1.out.rowAt (i := f) (m := m) hm0
    change w6.cell? ⟨bg, 1, none⟩ = some (.slice (some ⟨oo, 0, none⟩) g.out.length oc) at c1
    have HC4 := Lib.hid c4; have HST := Lib.hid hst
    have i1 : (f : Int) < (g.out.length : Int) := by omega
    have HM := Lib.hid hm; have HM0 := Lib.hid hm0
    have c1a : ∀ o, (w6.alloc o).cell? ⟨bg, 1, none⟩ = some (.slice (some ⟨oo, 0, none⟩) g.out.length oc) := fun o => (cellBelow (below_alloc o (below_refl w6)) (lt_of_cell c1)).trans c1
    have c2a : ∀ o, (w6.alloc o).cell? ⟨oo, f, none⟩ = some (.slice ra m.length rc) := fun o => (cellBelow (below_alloc o (below_refl w6)) (lt_of_cell c2)).trans c2
    go_cut [] from 29 to 44 (fun wq => Hid (NetM wq B X bg ⟨g.arcs ++ [(t, r), (f, 0)], pushAt g.out f g.arcs.length⟩) ∧ Hid (Fr B X w wq))
    case first =>
      clear hm hm0 c4 hst
      go_region_law (refine step_push _ (by rfl) (.tmp 40) (.tmp 42) 26 (by rfl) vi vi_one B 3 i0 (.int .i64 0) 8 u0 hi0 hz0 hz1 hz2 rfl ra m.length rc _ (by rfl) (HC4.out.fw (by repeat (first | exact below_refl _ | refine Below.drew ?_ | refine below_alloc _ ?_))) w6.heap.size (g.arcs.length : Int) 3 (0, 0) (by rfl) (by first | exact hp_new rfl | exact hp_old (hp_new rfl)) (by omega) (by omega) (Nat.le_trans hB6 (Below.size (show Below w6.heap.size w6 _ from (by repeat (first | exact below_refl _ | refine Below.drew ?_ | refine below_alloc _ ?_))))) ?_; intro g7 c7 w7 hown hg hlies; obtain ⟨hN7, hF7, c2', c3', c1'⟩ := HST.out _ w7 g7 c7 g.arcs.length HX6.out (by repeat (first | exact below_refl _ | refine Below.drew ?_ | refine below_alloc _ ?_)) hg hown hlies; have HN7 := Lib.hid hN7; have HF7 := Lib.hid (HF1.out.trans hF7); clear hN7 hF7 hown hg hlies)
      all_goals
        go_wp2_with fail
        go_meet
        refine ⟨?_, HF7.out⟩
        have := HN7.out
        show NetM _ B X bg ⟨_, pushAt g.out f g.arcs.length⟩
        unfold pushAt
        rw [← HM.out]
        exact this
    case rest =>
      obtain ⟨hNc, hFc⟩ := hcut
      clear c1a c2a c1 c2 c3 c4 hst HC4 HST HM HM0 hm hm0 HN1 HF1 HX6 hB6
      rename World => wd
      have HX6 : Hid (∀ x ∈ X, x < wd.heap.size) := fun x hx => Nat.lt_of_lt_of_le (HXX.out x hx) hFc.out.size
      have hB6 : B ≤ wd.heap.size := Nat.le_trans hB hFc.out.size
      obtain ⟨m, hm⟩ : ∃ m, m = (pushAt g.out f g.arcs.length).getD t [] := ⟨_, rfl⟩
      have hm0 : (pushAt g.out f g.arcs.length)[t]? = some m := by rw [hm]; exact get_some (by rw [pushAt_length]; exact ht) []
      have hml : m.length ≤ 10001 := by
        rw [hm]
        unfold pushAt
        rw [List.getD_eq_getElem?_getD, List.getElem?_set]
        have h1 : (g.out.getD f []).length ≤ 10000 := HR.out _ (List.mem_of_getElem? (get_some hf []))
        have h2 : (g.out.getD t []).length ≤ 10000 := HR.out _ (List.mem_of_getElem? (get_some ht []))
        rw [show (if f < g.out.length then some (g.out.getD f [] ++ [g.arcs.length]) else none) = some (g.out.getD f [] ++ [g.arcs.length]) from if_pos hf]
        split
        · show (g.out.getD f [] ++ [g.arcs.length]).length ≤ 10001
          rw [List.length_append]
          show _ + 1 ≤ 10001
          omega
        · rw [← List.getD_eq_getElem?_getD]; omega
      obtain ⟨oo, oc, ra, rc, c1, c2, c3, c4, hBo, hst⟩ := hNc.out.rowAt (i := t) (m := m) hm0
      have hol : (pushAt g.out f g.arcs.length).length = g.out.length := pushAt_length _ _ _
      change wd.cell? ⟨bg, 1, none⟩ = some (.slice (some ⟨oo, 0, none⟩) (pushAt g.out f g.arcs.length).length oc) at c1
      rw [hol] at c1
      have HC4 := Lib.hid c4; have HST := Lib.hid hst; have HOL := Lib.hid hol
      have i1 : (t : Int) < (g.out.length : Int) := by omega
      have HM := Lib.hid hm; have HM0 := Lib.hid hm0
      have c1a : ∀ o, (wd.alloc o).cell? ⟨bg, 1, none⟩ = some (.slice (some ⟨oo, 0, none⟩) g.out.length oc) := fun o => (cellBelow (below_alloc o (below_refl wd)) (lt_of_cell c1)).trans c1
      have c2a : ∀ o, (wd.alloc o).cell? ⟨oo, t, none⟩ = some (.slice ra m.length rc) := fun o => (cellBelow (below_alloc o (below_refl wd)) (lt_of_cell c2)).trans c2
      have q3 : IntKind.i64.wrap ((g.arcs.length : Int) + 1) = (g.arcs.length : Int) + 1 := by rw [IntKind.wrap_i64]; omega
      have q4 : wrap64 ((g.arcs.length : Int) + 1) = (g.arcs.length : Int) + 1 := by unfold wrap64; omega
      go_wp2_with fail
      go_cut [] from 45 to 61 (fun wq => Hid (NetM wq B X bg (g.add f t r)) ∧ Hid (Fr B X w wq))
      case first =>
        clear hm hm0 c4 hst hol
        go_region_law (refine step_push _ (by rfl) (.tmp 56) (.tmp 59) 26 (by rfl) vi vi_one B 3 i0 (.int .i64 0) 8 u0 hi0 hz0 hz1 hz2 rfl ra m.length rc _ (by rfl) (HC4.out.fw (by repeat (first | exact below_refl _ | refine Below.drew ?_ | refine below_alloc _ ?_))) wd.heap.size ((g.arcs.length : Int) + 1) 3 (0, 0) (by rfl) (by first | exact hp_new rfl | exact hp_old (hp_new rfl)) (by omega) (by omega) (Nat.le_trans hB6 (Below.size (show Below wd.heap.size wd _ from (by repeat (first | exact below_refl _ | refine Below.drew ?_ | refine below_alloc _ ?_))))) ?_; intro g7 c7 w7 hown hg hlies; obtain ⟨hN7, hF7, c2', c3', c1'⟩ := HST.out _ w7 g7 c7 (g.arcs.length + 1) HX6.out (by repeat (first | exact below_refl _ | refine Below.drew ?_ | refine below_alloc _ ?_)) hg hown hlies; rw [HOL.out] at c1'; have HN7 := Lib.hid hN7; have HF7 := Lib.hid (hFc.out.trans hF7); clear hN7 hF7 hown hg hlies)
        all_goals
          go_wp2_with fail
          go_meet
          refine ⟨?_, HF7.out⟩
          have := HN7.out
          show NetM _ B X bg ⟨_, pushAt (pushAt g.out f g.arcs.length) t (g.arcs.length + 1)⟩
          rw [show pushAt (pushAt g.out f g.arcs.length) t (g.arcs.length + 1) = (pushAt g.out f g.arcs.length).set t ((pushAt g.out f g.arcs.length).getD t [] ++ [g.arcs.length + 1]) from rfl, ← HM.out]
          exact this
      case rest =>
        obtain ⟨hN9, hF9⟩ := hcut
        clear q3 q4 c1a c2a
        go_wp2_with fail
        go_ret
        exact ⟨rfl, hN9.out, hF9.out⟩
end Go.Proofs.Ytpecepfnmkpmmaa
