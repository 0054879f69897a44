/- matrix: clear, the search for a pivot, reduce, eliminate. -/
import Derived.Test.YtioiaiifkfopnaaMs
import Derived.Deep.RegionHeld3
import Derived.Deep.CutRange
import Derived.Deep.RegionWith
namespace Go.Proofs.Ytioiaiifkfopnaa
open Go.RowKit Go.Kin Mat
set_option maxRecDepth 100000

theorem scale_m (a : Option Addr) (k c : Nat) (f : Nat → Fq) (x : Nat) (w : World) (h : Rd vb w a k c (mrow k f)) (hx : x < 256) (hk : k ≤ 1000) :
    Calls Try.prog 67 #[.slice a k c, .int .u8 (x : Int)] w fun e w' => ∃ g, e = .returned (.slice (some ⟨g, 0, none⟩) k k) ∧ w.heap.size ≤ g ∧ Blk vb 5 w' g (mrow k fun c => Fq.of x * f c) ∧ Below w.heap.size w w' :=
  (scale_any a k c (mrow k f) (x : Int) w h (mrow_byt _ _) (by omega) (by omega) (by omega)).mono fun e w' ⟨g, he, hg, hB, hb⟩ => by
    rw [Int.toNat_natCast, mrow_scale _ _ hx] at he hB
    rw [mrow_length] at he
    exact ⟨g, he, hg, hB, hb⟩
theorem mulAdd_mrow (k : Nat) (p q : Nat → Fq) {x : Nat} (hx : x < 256) : Gf.mulAdd (mrow k p) (mrow k q) x = mrow k fun c => p c + Fq.of x * q c := by
  apply List.ext_getElem?
  intro i
  by_cases h : i < k
  · rw [Gf.mulAdd_get _ _ _ _ _ _ (mrow_get p h) (mrow_get q h), mrow_get _ h]
    show some (Gf.mul x (q i).n ^^^ (p i).n) = some ((p i).n ^^^ Gf.mul (Fq.of x).n (q i).n)
    rw [Fq.of_n hx, Nat.xor_comm]
  · rw [List.getElem?_eq_none (by rw [Gf.mulAdd_length _ _ _ (by rw [mrow_length, mrow_length]), mrow_length]; omega), List.getElem?_eq_none (by rw [mrow_length]; omega)]
theorem muladd_m (a b : Option Addr) (k c d : Nat) (p q : Nat → Fq) (x : Nat) (w : World) (h1 : Rd vb w a k c (mrow k p)) (h2 : Rd vb w b k d (mrow k q)) (hx : x < 256) (hk : k ≤ 1000) :
    Calls Try.prog 59 #[.slice a k c, .slice b k d, .int .u8 (x : Int)] w fun e w' => ∃ g, e = .returned (.tuple #[.slice (some ⟨g, 0, none⟩) k k, .int .i64 0]) ∧ w.heap.size ≤ g ∧ Blk vb 5 w' g (mrow k fun c => p c + Fq.of x * q c) ∧ Below w.heap.size w w' :=
  (muladd_any a b k c d _ _ (x : Int) w h1 h2 (mrow_byt _ _) (mrow_byt _ _) (by omega) (by omega) (by omega)).mono fun e w' ⟨g, he, hg, hB, hb⟩ => by
    rw [Int.toNat_natCast, mulAdd_mrow _ _ _ hx] at he hB
    rw [mrow_length] at he
    exact ⟨g, he, hg, hB, hb⟩

/-- The struct of an elimination. -/
def ECell (w : World) (ge : Nat) (rv pv : Value) (pr : Int) : Prop := w.heap[ge]? = some (.cells #[rv, pv, .int .u8 pr] 72 (0, 0))
theorem ECell.c0 {w : World} {ge : Nat} {rv pv : Value} {pr : Int} (h : ECell w ge rv pv pr) : w.cell? ⟨ge, 0, none⟩ = some rv := by rw [cell_of_row w ge 0 _ _ _ h]; rfl
theorem ECell.c1 {w : World} {ge : Nat} {rv pv : Value} {pr : Int} (h : ECell w ge rv pv pr) : w.cell? ⟨ge, 1, none⟩ = some pv := by rw [cell_of_row w ge 1 _ _ _ h]; rfl
theorem ECell.c2 {w : World} {ge : Nat} {rv pv : Value} {pr : Int} (h : ECell w ge rv pv pr) : w.cell? ⟨ge, 2, none⟩ = some (.int .u8 pr) := by rw [cell_of_row w ge 2 _ _ _ h]; rfl
theorem ECell.frozen {w : World} {ge : Nat} {rv pv : Value} {pr : Int} (h : ECell w ge rv pv pr) (i : Nat) : w.frozen? ⟨ge, i, none⟩ = false := frozen_of_row w ge i _ _ h
theorem ECell.lt {w : World} {ge : Nat} {rv pv : Value} {pr : Int} (h : ECell w ge rv pv pr) : ge < w.heap.size := (Array.getElem?_eq_some_iff.1 h).1
theorem ECell.fw {w w' : World} {ge : Nat} {rv pv : Value} {pr : Int} (h : ECell w ge rv pv pr) (hb : Below w.heap.size w w') : ECell w' ge rv pv pr := (hb.block ge h.lt).trans h
theorem ECell.other {w : World} {ge : Nat} {rv pv : Value} {pr : Int} (h : ECell w ge rv pv pr) (p : Addr) (v : Value) (hp : p.block ≠ ge) : ECell (w.setCell p v) ge rv pv pr := by
  unfold ECell
  rw [Below.heap_setCell _ _ _ _ (fun e => hp e.symm)]; exact h
theorem te1 : (23 : TypeId) ≠ 72 := by decide
theorem ECell.ne {w : World} {ge : Nat} {rv pv : Value} {pr : Int} (h : ECell w ge rv pv pr) {o : Nat} {cur : Array Value} (ho : w.heap[o]? = some (.cells cur 23 (0, 0))) : o ≠ ge := by
  rintro rfl
  unfold ECell at h
  rw [h] at ho
  cases ho

theorem ECell.grown {w w' : World} {ge : Nat} {rv pv : Value} {pr : Int} (h : ECell w ge rv pv pr) {o : Nat} (hg : w.grownBy w' (some o)) (hne : o ≠ ge) : ECell w' ge rv pv pr :=
  (hg.block ge h.lt (by intro e; cases e; exact hne rfl)).trans h

set_option maxHeartbeats 4000000 in
theorem clear_any (ge o n rc wd B top col : Nat) (pv : Value) (pr : Int) (R : Mat) (w : World) (hE : ECell w ge (.slice (some ⟨o, 0, none⟩) n rc) pv pr) (hM : MatR w B (some ⟨o, 0, none⟩) n rc wd R) (ht : top < n) (hc : col < wd) (h0 : R top col ≠ 0) (hn : n ≤ 1000) (hwd : wd ≤ 1000) :
    Calls Try.prog 70 #[.pointer (some ⟨ge, 0, none⟩), .int .i64 (top : Int), .int .i64 (col : Int)] w fun e w' => e = .returned (.tuple #[]) ∧ MatR w' B (some ⟨o, 0, none⟩) n rc wd (clearR R top col) ∧ w.grownBy w' (some o) := by
  obtain ⟨o', ra, rrc, ho', hBo, hc1, hf1, hr, cur, hcur⟩ := hM.at ht
  cases ho'
  have hoge := hE.ne hcur
  have c0 := hE.c0
  obtain ⟨gr, rfl, _, d1, _⟩ := hr.cell (mrow_get _ hc)
  obtain ⟨z, hz⟩ : ∃ z, z = (R top col).n := ⟨_, rfl⟩
  have bz : z < 256 := by rw [hz]; exact (R top col).h
  have z0 : 0 < z := by
    rcases Nat.eq_zero_or_pos z with e | e
    · exact absurd (Fq.n_eq_zero.1 (hz ▸ e)) h0
    · exact e
  have biv := Gf.inv_lt z bz
  have hiv : Hid (Fq.of (Gf.inv z) = Fq.inv (R top col)) := by
    show _ = _
    rw [Fq.of_inv bz, hz, Fq.of_val]
  rw [← hz] at d1
  unfold vb at d1
  have HE := Lib.hid hE; have HM := Lib.hid hM; have HR := Lib.hid hr
  have i1 : (top : Int) < (n : Int) := by omega
  have i2 : (col : Int) < (wd : Int) := by omega
  have lge := hE.lt
  clear hE hM hr hz h0
  go_enter Try.func70, Try.ntmps70
  go_wp2_with (go_at_call 56; refine (inv_any _ _ (by omega) (by omega)).mono ?_; rintro e w' ⟨rfl, rfl⟩)
  go_cut [] from 24 to 38 (fun wq => Hid (MatR wq B (some ⟨o, 0, none⟩) n rc wd (Mat.setRow R top (fun c => Fq.inv (R top col) * R top c))) ∧ Hid (ECell wq ge (.slice (some ⟨o, 0, none⟩) n rc) pv pr) ∧ Hid (w.grownBy wq (some o)))
  case first =>
    go_region_with (go_at_call 67; refine (scale_m _ wd _ (R top) _ _ (HR.out.rd.fw (fdrewN (below_refl w) 1)) (by omega) hwd).mono ?_; rintro e w5 ⟨g5, rfl, hg5, hB5, hb5⟩; obtain ⟨o5, ra5, rc5, e5, _, q5, f5, _, _⟩ := ((HM.out.fw (fdrewN (below_refl w) 1)).fw hb5).at ht; cases e5; have k5 := (cellBelow ((fdrewN (below_refl w) 1).trans (hb5.mono (Nat.le_refl _))) lge).trans c0)
    all_goals
      go_wp2_with fail
      go_meet
      have hb6 := (fdrewN (below_refl w) 1)
      have hown5 := hB5.own (B := 0) (Nat.zero_le _) (by rw [mrow_length]; unfold maxLen; omega)
      rw [mrow_length, hiv.out] at hown5
      exact ⟨((HM.out.fw hb6).fw hb5).set ht hown5, ((HE.out.fw hb6).fw hb5).other ⟨o, top, none⟩ _ hoge, grown_set (grown_of_fw (bt hb6 hb5) _) _ _ rfl⟩
  case rest =>
  obtain ⟨HM1, HE1, HG1⟩ := hcut
  obtain ⟨R1, hR1⟩ : ∃ R1, R1 = Mat.setRow R top (fun c => Fq.inv (R top col) * R top c) := ⟨_, rfl⟩
  rw [← hR1] at HM1
  have r1 : Hid (R1 top = fun c => Fq.inv (R top col) * R top c) := by show _ = _; rw [hR1, Mat.setRow_same]
  have r2 : Hid (∀ i, i ≠ top → R1 i = R i) := fun i hi => by rw [hR1, Mat.setRow_other _ _ hi]
  have e0 := HE1.out.c0
  have lo := HG1.out.size
  clear hf1 hc1 c0 d1 hR1
  go_wp2_with fail
  go_loopw [8, 9, 44] (fun _ _ i wr => ∃ m : Nat, m ≤ n ∧ i = .int .i64 (m : Int) ∧ Hid (MatR wr B (some ⟨o, 0, none⟩) n rc wd (clearTo R1 top (fun i => R i col) m)) ∧ Hid (w.grownBy wr (some o))) (fun _ _ i _ => n - (intOf i).toNat)
  case atStart =>
    refine ⟨0, by omega, rfl, ?_, HG1.out⟩
    refine HM1.out.congr fun i c _ _ => ?_
    unfold clearTo; rw [if_neg (by omega)]
  case round =>
    obtain ⟨m, hm, rfl, hM, hg⟩ := hrel
    have hE := Lib.hid (HE.out.grown hg.out hoge)
    have c0 := hE.out.c0
    by_cases hlt : m < n
    · obtain ⟨o2, ra2, rc2, ho2, _, c2, f2, hr2, cur2, hcur2⟩ := hM.out.at hlt
      cases ho2
      have i3 : (m : Int) < (n : Int) := by omega
      by_cases hmt : m = top
      · have e1 : (((m : Nat) : Int) != ((top : Nat) : Int)) = false := by simp; omega
        have hM2 : Hid (MatR wr B (some ⟨o, 0, none⟩) n rc wd (clearTo R1 top (fun i => R i col) (m + 1))) := by
          refine hM.out.congr fun i c _ _ => ?_
          unfold clearTo
          by_cases h : i < m ∧ i ≠ top
          · rw [if_pos h, if_pos ⟨by omega, h.2⟩]
          · rw [if_neg h, if_neg (fun h2 => h ⟨by omega, h2.2⟩)]
        clear hr2 hcur2 hmt
        go_wp2_with fail
        go_roundw
        case rel => exact ⟨m + 1, by omega, by go_num, hM2, hg.out⟩
        case measure => simp [intOf]; omega
      · have e1 : (((m : Nat) : Int) != ((top : Nat) : Int)) = true := by simp; omega
        have hrow : clearTo R1 top (fun i => R i col) m m = R m := by
          funext c
          unfold clearTo
          rw [if_neg (by omega), r2.out m hmt]
        have htop : clearTo R1 top (fun i => R i col) m top = R1 top := by
          funext c
          unfold clearTo
          rw [if_neg (fun h => h.2 rfl)]
        rw [hrow] at hr2
        obtain ⟨gm, rfl, _, d2, _, curm, hcurm⟩ := hr2.cell (mrow_get _ hc)
        obtain ⟨y, hy⟩ : ∃ y, y = (R m col).n := ⟨_, rfl⟩
        have by' : y < 256 := by rw [hy]; exact (R m col).h
        have hyq : Hid (Fq.of y = R m col) := by show _ = _; rw [hy, Fq.of_val]
        rw [← hy] at d2
        unfold vb at d2
        have HR2 := Lib.hid hr2
        clear hr2 hrow
        by_cases hy0 : y = 0
        · have e2 : (((y : Nat) : Int) != 0) = false := by rw [hy0]; rfl
          have hM2 : Hid (MatR wr B (some ⟨o, 0, none⟩) n rc wd (clearTo R1 top (fun i => R i col) (m + 1))) := by
            refine hM.out.congr fun i c _ _ => ?_
            unfold clearTo
            by_cases h : i < m ∧ i ≠ top
            · rw [if_pos h, if_pos ⟨by omega, h.2⟩]
            · rw [if_neg h]
              by_cases h2 : i = m
              · subst h2
                have : R i col = 0 := by rw [← hyq.out, hy0]; rfl
                rw [if_pos ⟨by omega, hmt⟩]
                show R1 i c = R1 i c + R i col * R1 top c
                rw [this, Fq.zero_mul, Fq.add_zero]
              · rw [if_neg (fun h3 => h ⟨by omega, h3.2⟩)]
          clear hcur2 hmt hy hy0 htop hcurm
          go_wp2_with fail
          go_roundw
          case rel => exact ⟨m + 1, by omega, by go_num, hM2, hg.out⟩
          case measure => simp [intOf]; omega
        · have e2 : (((y : Nat) : Int) != 0) = true := by simp; omega
          have hogm : o ≠ gm := by
            rintro rfl
            rw [hcur2] at hcurm
            cases hcurm
          obtain ⟨o3, ra3, rc3, ho3, _, c3, f3, hr3, _⟩ := hM.out.at ht
          cases ho3
          rw [htop, r1.out] at hr3
          have HR3 := Lib.hid hr3
          have ngm := (Array.getElem?_eq_some_iff.1 hcurm).1
          have ngw := hE.out.lt
          clear hr3 hcurm hy hy0 htop
          go_wp2_with fail
          have n7 : (⟨o, m, none⟩ : Addr) ≠ ⟨o, top, none⟩ := by intro e; cases e; exact hmt rfl
          have ngo := (Array.getElem?_eq_some_iff.1 hcur2).1
          go_region_held3 (fun w' => w'.cell? ⟨ge, 0, none⟩ = some (.slice (some ⟨o, 0, none⟩) n rc) ∧ w'.cell? ⟨gm, col, none⟩ = some (.int .u8 (y : Int)) ∧ w'.cell? ⟨o, top, none⟩ = some (.slice ra3 wd rc3))
            (first
              | exact ⟨c0, d2, c3⟩
              | exact ⟨k7, l7, m7⟩
              | exact ⟨s7 _, t7 _, x7 _⟩)
            (first
              | (go_simp; go_at_call 59; refine (muladd_m _ _ wd _ _ (R m) (fun c => Fq.inv (R top col) * R top c) _ _ (HR2.out.rd.fw (fdrewN (below_refl wr) 1)) (HR3.out.rd.fw (fdrewN (below_refl wr) 1)) by' hwd).mono ?_; rintro e w7 ⟨g7, rfl, hg7, hB7, hb7⟩; obtain ⟨o8, ra8, rc8, e8, _, q8, f8, _, _⟩ := ((hM.out.fw (fdrewN (below_refl wr) 1)).fw hb7).at hlt; cases e8; have k7 := (cellBelow hb7 ngw).trans c0; have l7 := (cellBelow hb7 ngm).trans d2; have m7 := (cellBelow hb7 ngo).trans c3; have s7 := fun v => (World.cell?_setCell_far w7 ⟨o, m, none⟩ ⟨ge, 0, none⟩ v hoge).trans k7; have t7 := fun v => (World.cell?_setCell_far w7 ⟨o, m, none⟩ ⟨gm, col, none⟩ v hogm).trans l7; have x7 := fun v => (World.cell?_setCell_other w7 ⟨o, m, none⟩ ⟨o, top, none⟩ v n7).trans m7))
          go_wp2_with fail
          go_roundw
          case rel =>
            have hb6 := fdrewN (below_refl wr) 1
            have hown7 := hB7.own (B := 0) (Nat.zero_le _) (by rw [mrow_length]; unfold maxLen; omega)
            rw [mrow_length] at hown7
            have hM7 := ((hM.out.fw hb6).fw hb7).set hlt hown7
            refine ⟨m + 1, by omega, by go_num, ?_, ?_⟩
            · refine hM7.congr fun i c _ _ => ?_
              by_cases h2 : i = m
              · subst h2
                rw [Mat.setRow_same]
                unfold clearTo
                rw [if_pos ⟨by omega, hmt⟩, r1.out, r2.out i hmt, hyq.out]
              · rw [Mat.setRow_other _ _ h2]
                unfold clearTo
                by_cases h : i < m ∧ i ≠ top
                · rw [if_pos h, if_pos ⟨by omega, h.2⟩]
                · rw [if_neg h, if_neg (fun h3 => h ⟨by omega, h3.2⟩)]
            · have hb8 := bt hb6 hb7
              have hg7 : w.grownBy w7 (some o) := ⟨hb8.os.trans hg.out.os, hb8.tape.trans hg.out.tape, hb8.output.trans hg.out.output, Nat.le_trans hg.out.size hb8.size, fun k hk hne => (hb8.block k (Nat.lt_of_lt_of_le hk hg.out.size)).trans (hg.out.block k hk hne)⟩
              exact grown_set hg7 _ _ rfl
          case measure => simp [intOf]; omega
    · have hmn : m = n := by omega
      have hfin : Hid (MatR wr B (some ⟨o, 0, none⟩) n rc wd (clearR R top col)) := by
        refine hM.out.congr fun i c hi _ => ?_
        unfold clearTo clearR
        by_cases e : i = top
        · rw [if_neg (fun h => h.2 e), if_pos e, e, r1.out]
        · rw [if_pos ⟨by omega, e⟩, if_neg e, r2.out i e, r1.out]
      clear hmn
      go_wp2_with fail
      go_end0
      exact ⟨rfl, hfin.out, hg.out⟩
end Go.Proofs.Ytioiaiifkfopnaa
