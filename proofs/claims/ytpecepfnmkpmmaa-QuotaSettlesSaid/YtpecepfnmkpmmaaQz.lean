/- quota: Share. -/
import Derived.Test.YtpecepfnmkpmmaaNj
import Derived.Test.YtpecepfnmkpmmaaQs
import Derived.OwnWalk
import Derived.Test.YtpecepfnmkpmmaaQl
namespace Quo
/-- A fraction in lowest terms. -/
def fracF (x q : Int) : Int × Int := if x = 0 then (0, 1) else (((x.toNat / Nat.gcd x.toNat q.toNat : Nat) : Int), ((q.toNat / Nat.gcd x.toNat q.toNat : Nat) : Int))
def shareL (T : Tab) (q : List Int) (j : Nat) : List (Int × Int) := (List.range j).map fun d => fracF (loadOf T d) (q.getD d 0)
/-- A device that holds something and offers nothing. -/
def badD (T : Tab) (q : List Int) (d : Nat) : Prop := loadOf T d ≠ 0 ∧ q.getD d 0 = 0
theorem shareL_length (T : Tab) (q : List Int) (j : Nat) : (shareL T q j).length = j := by unfold shareL; simp
theorem shareL_succ (T : Tab) (q : List Int) (j : Nat) : shareL T q (j + 1) = shareL T q j ++ [fracF (loadOf T j) (q.getD j 0)] := by unfold shareL; rw [List.range_succ, List.map_append]; rfl
end Quo
namespace Go.Kin
set_option linter.unusedVariables false
open Go.RowKit
theorem OwnA.put2 {α : Type} {f : α → List Value} {B : Nat} {E : TypeId} {w : World} {g j c : Nat} {l : List α} (hf : ∀ x, (f x).length = 2) (h : OwnA f 2 B E w (some ⟨g, 0, none⟩) j c l) (hj : j < c) (x : α) {u v : Value} (hx : f x = [u, v]) :
    OwnA f 2 B E ((w.setCell ⟨g, j * 2, none⟩ u).setCell ⟨g, j * 2 + 1, none⟩ v) (some ⟨g, 0, none⟩) (j + 1) c (l ++ [x]) := by
  obtain ⟨hl, ⟨h1, _⟩ | ⟨g', cur, h1, hB, hg, hnc, hm, hc, ht⟩⟩ := h
  · cases h1
  · cases h1
    refine ⟨by rw [List.length_append, hl]; rfl, .inr ⟨g, (cur.setIfInBounds (j * 2) u).setIfInBounds (j * 2 + 1) v, rfl, hB, heap_setCell_same _ g _ _ _ _ (heap_setCell_same w g _ _ _ _ hg), hj, hm, by simpa using hc, ?_⟩⟩
    have hcl : cur.toList.length = c * 2 := by simpa using hc
    have h2 : (l.flatMap f).length = j * 2 := by rw [← ht, List.length_take, hcl]; omega
    rw [Array.toList_setIfInBounds, Array.toList_setIfInBounds, List.flatMap_append, ← ht]
    apply List.ext_getElem?
    intro i
    rw [List.getElem?_take]
    by_cases hi : i < (j + 1) * 2
    · rw [if_pos hi, List.getElem?_set, List.getElem?_set]
      by_cases e1 : j * 2 + 1 = i
      · subst e1
        rw [if_pos rfl, if_pos (by simp; omega), List.getElem?_append_right (by rw [ht, h2]; omega), ht, h2]
        simp [hx]
      · rw [if_neg e1]
        by_cases e2 : j * 2 = i
        · subst e2
          rw [if_pos rfl, if_pos (by omega), List.getElem?_append_right (by rw [ht, h2]; omega), ht, h2]
          simp [hx]
        · rw [if_neg e2, List.getElem?_append_left (by rw [ht, h2]; omega), List.getElem?_take, if_pos (by omega)]
    · rw [if_neg hi, List.getElem?_eq_none]
      rw [List.length_append, ht, h2]; simp [hx]; omega
theorem OwnA.start {α : Type} (f : α → List Value) {s B : Nat} {E : TypeId} {w : World} {g n c : Nat} {L : List Value} (h : w.ownsRow B E s (.slice (some ⟨g, 0, none⟩) n c) n L) : OwnA f s B E w (some ⟨g, 0, none⟩) 0 c [] := by
  obtain ⟨_, ⟨h1, _⟩ | ⟨g', cap, cur, h1, hB, hg, hnc, hm, hc, ht⟩⟩ := h
  · cases h1
  · cases h1
    exact ⟨rfl, .inr ⟨g, cur, rfl, hB, hg, Nat.zero_le _, hm, hc, by simp⟩⟩
/-- The two cells behind those that are filled, and after a store into the first. -/
theorem OwnA.two {α : Type} {f : α → List Value} {B : Nat} {E : TypeId} {w : World} {g j c : Nat} {l : List α} (h : OwnA f 2 B E w (some ⟨g, 0, none⟩) j c l) (hj : j < c) (u : Value) :
    ∃ z1 z2, w.cell? ⟨g, j * 2, none⟩ = some z1 ∧ w.frozen? ⟨g, j * 2, none⟩ = false ∧ (w.setCell ⟨g, j * 2, none⟩ u).cell? ⟨g, j * 2 + 1, none⟩ = some z2 ∧ (w.setCell ⟨g, j * 2, none⟩ u).frozen? ⟨g, j * 2 + 1, none⟩ = false := by
  obtain ⟨hl, ⟨h1, _⟩ | ⟨g', cur, h1, hB, hg, hnc, hm, hc, ht⟩⟩ := h
  · cases h1
  · cases h1
    have h2 : (w.setCell ⟨g, j * 2, none⟩ u).heap[g]? = _ := heap_setCell_same w g (j * 2) _ _ _ hg
    refine ⟨cur[j * 2]'(by omega), (cur.setIfInBounds (j * 2) u)[j * 2 + 1]'(by rw [Array.size_setIfInBounds]; omega), ?_, frozen_of_row w g _ _ _ hg, ?_, frozen_of_row _ g _ _ _ h2⟩
    · rw [cell_of_row w g _ cur _ _ hg]; exact Array.getElem?_eq_getElem _
    · rw [cell_of_row _ g _ _ _ _ h2]; exact Array.getElem?_eq_getElem _
theorem OwnA.free {α : Type} {f : α → List Value} {s B : Nat} {E : TypeId} {w : World} {g n c : Nat} {l : List α} (h : OwnA f s B E w (some ⟨g, 0, none⟩) n c l) : ∃ cur, w.heap[g]? = some (.cells cur E (0, 0)) ∧ cur.size = c * s := by
  obtain ⟨hl, ⟨h1, _⟩ | ⟨g', cur, h1, hB, hg, hnc, hm, hc, ht⟩⟩ := h
  · cases h1
  · cases h1; exact ⟨cur, hg, hc⟩
end Go.Kin
namespace Go.Proofs.Ytpecepfnmkpmmaa
open Go.RowKit Go.Kin Quo
set_option maxRecDepth 100000
set_option linter.unusedVariables false
/-- A fraction's cells. -/
def vfr (x : Int × Int) : List Value := [.int .i64 x.1, .int .i64 x.2]
theorem vfr_len (x : Int × Int) : (vfr x).length = 2 := rfl
theorem infoFr : (Try.prog.info? 56).map (fun i => (i.zero, i.size, i.bytes)) = some (some (.agg #[.int .i64 0, .int .i64 0]), 2, 16) := by kernel_rfl
theorem share_no (ta : Option Addr) (n tc : Nat) (T : Tab) (qa : Option Addr) (m qc : Nat) (q : List Int) (w : World) (h : RdT w ta n tc T) (h2 : Rd vi w qa m qc q) (hf : ¬ Fit T q) :
    Calls Try.prog 32 #[.slice ta n tc, .slice qa m qc] w fun e w' => e = .returned (.tuple #[.slice none 0 0, .int .i64 1]) ∧ w = w' := by
  have H := Lib.hid h; have H2 := Lib.hid h2
  have hd := decide_eq_false hf
  clear h h2 hf
  go_enter Try.func32, Try.ntmps32
  go_wp2_with (go_at_call 39; refine (fitting_any _ _ _ T _ _ _ q _ H.out H2.out).mono ?_; rw [hd]; rintro e w' ⟨rfl, rfl⟩)
  go_ret2
  exact ⟨rfl, rfl⟩
set_option maxHeartbeats 4000000 in
theorem share_any (ta : Option Addr) (n tc : Nat) (T : Tab) (qa : Option Addr) (qc : Nat) (q : List Int) (w : World) (h : RdT w ta n tc T) (h2 : Rd vi w qa n qc q) (hf : Fit T q) :
    Calls Try.prog 32 #[.slice ta n tc, .slice qa n qc] w fun e w' => Below w.heap.size w w' ∧ (((∃ d, d < n ∧ badD T q d) ∧ e = .returned (.tuple #[.slice none 0 0, .int .i64 6])) ∨
      ((∀ d, d < n → ¬ badD T q d) ∧ ∃ g, e = .returned (.tuple #[.slice (some ⟨g, 0, none⟩) n n, .int .i64 0]) ∧ OwnA vfr 2 w.heap.size 56 w' (some ⟨g, 0, none⟩) n n (shareL T q n))) := by
  obtain ⟨i0, hi, hz0, hz1, hz2⟩ := info_parts infoFr
  have u0 := Try.underlying50
  have hn : n ≤ 12 := by have := hf.1.1; rw [h.len] at this; exact this
  have hd := decide_eq_true hf
  have H := Lib.hid h; have H2 := Lib.hid h2
  have hlen := Lib.hid h.len
  have HF := Lib.hid hf
  clear h h2 hf
  go_enter Try.func32, Try.ntmps32
  go_wp2_with (first
    | (go_at_call 39; refine (fitting_any _ _ _ T _ _ _ q _ H.out H2.out).mono ?_; rw [hd]; rintro e w' ⟨rfl, rfl⟩)
    | (at_make; refine wpList_make_full _ rfl (.tmp 16) (.tmp 16) 50 rfl w.heap.size 56 i0 _ 2 u0 hi hz0 hz1 _ _ _ _ n rfl rfl rfl rfl (by rw [hz2]; omega) (by unfold maxLen; omega) (Nat.le_refl _) ?_; intro w2 hr2 hg2; have B2 : Hid (Below w.heap.size w w2) := (below_refl w).grown hg2 (Nat.le_refl _) (fun k e => by cases e); have O2 := Lib.hid hr2; have H3 := Lib.hid (H.out.fw B2.out); clear hr2 hg2)
    | (go_at_call 40; refine (held_any _ _ _ T _ H3.out HF.out.1).mono ?_; rintro e w3 ⟨gh, rfl, hgh, hB3, hb3⟩; have HB3 := Lib.hid hB3; have B3 := Lib.hid (bt B2.out hb3); have BB3 := Lib.hid hb3; have HGH := Lib.hid hgh; clear hB3 hb3 hgh)
    | fail)
  have O3 : Hid (OwnA vfr 2 w.heap.size 56 w3 (some ⟨w.heap.size, 0, none⟩) 0 n []) := (OwnA.start vfr O2.out).same fun x hx => BB3.out.block _ (O2.out.lt _ (by cases hx; rfl)).2
  have HGN : Hid (w.heap.size < gh) := by have := (O2.out.lt w.heap.size rfl).2; have := HGH.out; show _ < _; omega
  go_loopw [7, 8, 9, 10, 21] (fun _ _ _ _ i wr => ∃ j : Nat, j ≤ n ∧ i = .int .i64 (j : Int) ∧ Hid (∀ d, d < j → ¬ badD T q d) ∧ Hid (OwnA vfr 2 w.heap.size 56 wr (some ⟨w.heap.size, 0, none⟩) j n (shareL T q j)) ∧ Hid (Blk vi 3 wr gh (heldF T)) ∧ Hid (Below w.heap.size w wr)) (fun _ _ _ _ i _ => n - (intOf i).toNat)
  case atStart => exact ⟨0, by omega, rfl, fun d hd => by omega, O3.out, HB3.out, B3.out⟩
  case round =>
    obtain ⟨j, hj, rfl, hv, hO, hB, hbe⟩ := hrel
    rename World => wo
    by_cases hlt : j < n
    · have i2 : (j : Int) < (n : Int) := by omega
      have x0 : (heldF T)[j]? = some (loadOf T j) := get_some (by rw [held_length, hlen.out]; exact hlt) 0
      have xb := held_bound HF.out.1 (i := j) (by rw [hlen.out]; exact hlt)
      have y0 : q[j]? = some (q.getD j 0) := get_some (by rw [H2.out.len]; exact hlt) 0
      have yb := HF.out.2.2 _ (List.mem_of_getElem? y0)
      have hsn := shareL_succ T q j
      obtain ⟨x, hx⟩ : ∃ x, x = loadOf T j := ⟨_, rfl⟩
      obtain ⟨y, hy⟩ : ∃ y, y = q.getD j 0 := ⟨_, rfl⟩
      have xb2 : 0 ≤ x ∧ x ≤ 12 * maxC := by rw [hx]; exact xb
      rw [← hx] at x0 hsn; rw [← hy] at y0 yb hsn
      unfold maxC at xb2 yb
      obtain ⟨X, rfl⟩ := Int.eq_ofNat_of_zero_le xb2.1
      obtain ⟨Y, rfl⟩ := Int.eq_ofNat_of_zero_le yb.1
      have c1 := hB.out.cell x0
      obtain ⟨qb, qo, rfl, c2⟩ := (H2.out.fw hbe.out).cell j _ y0
      unfold vi at c1 c2
      have HSN := Lib.hid hsn; have HX := Lib.hid hx; have HY := Lib.hid hy
      clear hsn hx hy x0 y0 xb
      by_cases hX0 : X = 0
      · subst hX0
        have hput := OwnA.put2 vfr_len hO.out hlt (0, 1) (u := .int .i64 0) (v := .int .i64 1) rfl
        have HPUT := Lib.hid hput
        have hv2 : Hid (∀ d, d < j + 1 → ¬ badD T q d) := by
          intro d hd
          by_cases e : d = j
          · subst e; exact fun hb => hb.1 HX.out.symm
          · exact hv.out d (by omega)
        obtain ⟨z1, z2, k1, k2, k3, k4⟩ := hO.out.two hlt (.int .i64 0)
        clear hput
        go_wp2_with fail
        clear k1 k2 k3 k4
        refine ⟨⟨j + 1, by omega, by go_num, hv2.out, ?_, ?_, ?_⟩, ?_⟩
        · rw [HSN.out]; exact HPUT.out
        · exact (hB.out.other ⟨w.heap.size, j * 2, none⟩ _ (by have := HGN.out; show gh ≠ w.heap.size; omega)).other ⟨w.heap.size, j * 2 + 1, none⟩ _ (by have := HGN.out; show gh ≠ w.heap.size; omega)
        · exact (hbe.out.setCell (p := ⟨w.heap.size, j * 2, none⟩) (Nat.le_refl _) _).setCell (p := ⟨w.heap.size, j * 2 + 1, none⟩) (Nat.le_refl _) _
        · simp [intOf]; omega
      · by_cases hY0 : Y = 0
        · subst hY0
          have hbad : Hid (∃ d, d < n ∧ badD T q d) := ⟨j, hlt, fun e => hX0 (by rw [← HX.out] at e; omega), HY.out.symm⟩
          have e1 : ((X : Int) == 0) = false := by simp; omega
          clear hX0
          go_wp2_with fail
          go_ret2
          exact ⟨hbe.out, .inl ⟨hbad.out, rfl⟩⟩
        · have hv2 : Hid (∀ d, d < j + 1 → ¬ badD T q d) := by
            intro d hd
            by_cases e : d = j
            · subst e; exact fun hb => hY0 (by have := hb.2; rw [← HY.out] at this; omega)
            · exact hv.out d (by omega)
          obtain ⟨G, hG⟩ : ∃ G, G = Nat.gcd X Y := ⟨_, rfl⟩
          have hGp : 0 < G := by rw [hG]; exact Nat.gcd_pos_of_pos_left _ (by omega)
          have HG := Lib.hid hG
          have HFR : Hid (fracF (X : Int) (Y : Int) = (((X / G : Nat) : Int), ((Y / G : Nat) : Int))) := by
            show _ = _
            unfold fracF
            rw [if_neg (by omega), Int.toNat_natCast, Int.toNat_natCast, ← HG.out]
          have e1 : ((X : Int) == 0) = false := by simp; omega
          have e2 : ((Y : Int) == 0) = false := by simp; omega
          have hY1 : 0 < Y := by omega
          clear hG hX0 hY0
          go_wp2_with fail
          go_quiet (fail)
          have hbq := fdrewN (below_refl wo) nq
          have HBQ := Lib.hid (bt hbe.out hbq); have OQ := Lib.hid (hO.out.same fun x hx => hbq.block _ (hO.out.blt hx).1); have BQ := Lib.hid (hB.out.fw hbq)
          have c2' := (cellBelow hbq (lt_of_cell c2)).trans c2
          clear c1 c2 hO hB hbe
          go_wp2_with fail
          generalize wo.drewN nq = wq at *
          go_loopw [9, 10] (fun y z wr => ∃ a b : Nat, y = .int .i64 (a : Int) ∧ z = .int .i64 (b : Int) ∧ Nat.gcd a b = G ∧ a ≤ 13194139533312 ∧ b ≤ 13194139533312 ∧ Hid (Drw wq wr)) (fun _ z _ => (intOf z).toNat)
          case atStart => exact ⟨X, Y, rfl, rfl, HG.out.symm, by omega, by omega, Drw.refl wq⟩
          case round =>
            obtain ⟨a, b, rfl, rfl, hg, ha, hb, hd⟩ := hrel
            rename World => wo2
            by_cases hb0 : b = 0
            · subst hb0
              have haG : a = G := by rw [← hg, Nat.gcd_zero_right]
              subst haG
              have hput := OwnA.put2 vfr_len (OQ.out.same fun x hx => hd.out.fw.block _ (OQ.out.blt hx).1) hlt (((X / a : Nat) : Int), ((Y / a : Nat) : Int)) (u := .int .i64 ((X / a : Nat) : Int)) (v := .int .i64 ((Y / a : Nat) : Int)) rfl
              rw [← HFR.out, ← HSN.out] at hput
              have HPUT := Lib.hid hput
              obtain ⟨z1, z2, k1, k2, k3, k4⟩ := OwnA.two (OQ.out.same fun x hx => hd.out.fw.block _ (OQ.out.blt hx).1) hlt (.int .i64 ((X / a : Nat) : Int))
              have HB2 := Lib.hid (BQ.out.fw hd.out.fw); have HBE2 := Lib.hid (bt HBQ.out hd.out.fw)
              have c3 := (cellBelow hd.out.fw (lt_of_cell c2')).trans c2'
              have ha0 : (a : Int) ≠ 0 := by omega
              have haN : (a = 0) = False := by simp; omega
              have hXa : X / a ≤ X := Nat.div_le_self _ _
              have hYa : Y / a ≤ Y := Nat.div_le_self _ _
              obtain ⟨P, hP⟩ : ∃ P, P = X / a := ⟨_, rfl⟩
              obtain ⟨R, hR⟩ : ∃ R, R = Y / a := ⟨_, rfl⟩
              have p1 : (X : Int).tdiv (a : Int) = (P : Int) := by rw [hP]; rfl
              have p2 : (Y : Int).tdiv (a : Int) = (R : Int) := by rw [hR]; rfl
              have p3 : (X : Int) / (a : Int) = (P : Int) := by rw [hP]; rfl
              have p4 : (Y : Int) / (a : Int) = (R : Int) := by rw [hR]; rfl
              rw [← hP, ← hR] at HPUT
              rw [← hP] at k3 k4
              have p5 := iwq (a := (P : Int)) (by omega)
              have p6 := w64q (a := (P : Int)) (by omega)
              have p7 := iwq (a := (R : Int)) (by omega)
              have p8 := w64q (a := (R : Int)) (by omega)
              clear hput hP hR hXa hYa hg c2'
              go_wp2_with fail
              go_still_tail 13, (by kernel_rfl)
              change wpList _ _ _ _ _ wo2.drew
              have k1d : wo2.drew.cell? ⟨w.heap.size, j * 2, none⟩ = some z1 := k1
              have k2d : wo2.drew.frozen? ⟨w.heap.size, j * 2, none⟩ = false := k2
              have k3d : (wo2.drew.setCell ⟨w.heap.size, j * 2, none⟩ (.int .i64 (P : Int))).cell? ⟨w.heap.size, j * 2 + 1, none⟩ = some z2 := k3
              have k4d : (wo2.drew.setCell ⟨w.heap.size, j * 2, none⟩ (.int .i64 (P : Int))).frozen? ⟨w.heap.size, j * 2 + 1, none⟩ = false := k4
              go_wp2_with fail
              clear p1 p2 p3 p4 p5 p6 p7 p8 k1 k2 k3 k4 k1d k2d k3d k4d c3
              refine ⟨⟨j + 1, by omega, by go_num, hv2.out, ?_, ?_, ?_⟩, ?_⟩
              · exact HPUT.out
              · exact (HB2.out.other ⟨w.heap.size, j * 2, none⟩ _ (by have := HGN.out; show gh ≠ w.heap.size; omega)).other ⟨w.heap.size, j * 2 + 1, none⟩ _ (by have := HGN.out; show gh ≠ w.heap.size; omega)
              · exact Below.drew ((HBE2.out.setCell (p := ⟨w.heap.size, j * 2, none⟩) (Nat.le_refl _) _).setCell (p := ⟨w.heap.size, j * 2 + 1, none⟩) (Nat.le_refl _) _)
              · simp [intOf]; omega
            · have hb1 : (b : Int) ≠ 0 := by omega
              have e3 : ((b : Int) != 0) = true := by simp; omega
              have hlt2 : a % b < b := Nat.mod_lt _ (by omega)
              obtain ⟨r, hr⟩ : ∃ r, r = a % b := ⟨_, rfl⟩
              have hgr : Hid (Nat.gcd b r = G) := by show _ = _; rw [hr, Nat.gcd_comm, ← Nat.gcd_rec, Nat.gcd_comm, hg]
              rw [← hr] at hlt2
              have p1 : (a : Int).tmod (b : Int) = (r : Int) := by rw [hr]; rfl
              have p2 : (a : Int) % (b : Int) = (r : Int) := by rw [hr]; rfl
              have p3 := iwq (a := (r : Int)) (by omega)
              have p4 := w64q (a := (r : Int)) (by omega)
              have hbN : (b = 0) = False := by simp; omega
              clear hr hb0
              go_wp2_with fail
              go_quiet (fail)
              go_wp2_with fail
              clear p1 p2 p3 p4
              refine ⟨⟨b, r, rfl, rfl, hgr.out, hb, by omega, hd.out.step nq⟩, ?_⟩
              simp [intOf]; omega
    · have hjn : j = n := by omega
      subst hjn
      go_wp2_with fail
      go_ret2
      exact ⟨hbe.out, .inr ⟨hv.out, _, rfl, hO.out⟩⟩
end Go.Proofs.Ytpecepfnmkpmmaa
