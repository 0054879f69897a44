/- matrix: reduce. -/
import Derived.Test.YtioiaiifkfopnaaMg
import Derived.Test.YtioiaiifkfopnaaTail
import Derived.WalkMore
import Derived.StillTailTactics
import Derived.Deep.CutRange
import Derived.Deep.RegionLaw
import Derived.Deep.AppendLies
namespace Go.Proofs.Ytioiaiifkfopnaa
open Go.RowKit Go.Kin Mat
set_option maxRecDepth 100000

/-- The state of an elimination in memory. -/
def ESt (w : World) (ge B n wd : Nat) (s : EState) : Prop :=
  ∃ (ra : Option Addr) (rc : Nat) (pa : Option Addr) (pc : Nat), ECell w ge (.slice ra n rc) (.slice pa s.piv.length pc) (s.prod.n : Int) ∧ MatR w B ra n rc wd s.R ∧ Own vi B 3 w pa s.piv.length pc (s.piv.map Int.ofNat)
theorem ESt.fw {w w' : World} {ge B n wd : Nat} {s : EState} (h : ESt w ge B n wd s) (hb : Below w.heap.size w w') : ESt w' ge B n wd s := by
  obtain ⟨ra, rc, pa, pc, h1, h2, h3⟩ := h
  exact ⟨ra, rc, pa, pc, h1.fw hb, h2.fw hb, h3.fw hb⟩
theorem findV_none {R : Mat} {col n top : Nat} (h : findP R col n top = none) : findV R col n top = -1 := by unfold findV; rw [h]
theorem findV_some {R : Mat} {col n top i : Nat} (h : findP R col n top = some i) : findV R col n top = (i : Int) := by unfold findV; rw [h]
theorem elimE_none {n : Nat} {M : Mat} {m : Nat} (h : findP (elimE n M m).R m n (elimE n M m).piv.length = none) : elimE n M (m + 1) = elimE n M m := by
  show stepE n _ m = _
  unfold stepE; rw [h]
theorem elimE_some {n : Nat} {M : Mat} {m i : Nat} (h : findP (elimE n M m).R m n (elimE n M m).piv.length = some i) : elimE n M (m + 1) = ⟨clearR (swapR (elimE n M m).R (elimE n M m).piv.length i) (elimE n M m).piv.length m, (elimE n M m).piv ++ [m], (elimE n M m).prod * (elimE n M m).R i m⟩ := by
  show stepE n _ m = _
  unfold stepE; rw [h]

theorem MatR.otherT {E' : TypeId} {w : World} {B : Nat} {a : Option Addr} {n c k : Nat} {f : Mat} {cur : Array Value} {p : Addr} (h : MatR w B a n c k f) (hp : w.heap[p.block]? = some (.cells cur E' (0, 0))) (h1 : 23 ≠ E') (h2 : 5 ≠ E') (v : Value) : MatR (w.setCell p v) B a n c k f := by
  obtain ⟨L, h3, h4⟩ := h
  exact ⟨L, h3.otherT hp h1 v, fun i x hx => (h4 i x hx).otherT hp h2 v⟩
theorem MatR.grownT {β : Type} {f' : β → Value} {B' : Nat} {E' : TypeId} {w w' : World} {a' : Option Addr} {n' c' : Nat} {l' : List β} {B : Nat} {a : Option Addr} {n c k : Nat} {f : Mat} (h : MatR w B a n c k f) (h' : Own f' B' E' w a' n' c' l') (h1 : 23 ≠ E') (h2 : 5 ≠ E') (hg : w.grownBy w' (Value.slice a' n' c').ownBlock) : MatR w' B a n c k f := by
  obtain ⟨L, h3, h4⟩ := h
  exact ⟨L, h3.grownT h' h1 hg, fun i x hx => (h4 i x hx).grownT h' h2 hg⟩
theorem ECell.set1 {w : World} {ge : Nat} {rv pv : Value} {pr : Int} (h : ECell w ge rv pv pr) (v : Value) : ECell (w.setCell ⟨ge, 1, none⟩ v) ge rv v pr := heap_setCell_same w ge 1 _ _ _ h
theorem ECell.set2 {w : World} {ge : Nat} {rv pv : Value} {pr : Int} (h : ECell w ge rv pv pr) (v : Int) : ECell (w.setCell ⟨ge, 2, none⟩ (.int .u8 v)) ge rv pv v := heap_setCell_same w ge 2 _ _ _ h
theorem _root_.Go.Kin.Own.grownB {α : Type} {f : α → Value} {B : Nat} {E : TypeId} {w w' : World} {a : Option Addr} {n c : Nat} {l : List α} {b : Nat} (h : Own f B E w a n c l) (hg : w.grownBy w' (some b)) (hne : ∀ x, a = some x → x.block ≠ b) : Own f B E w' a n c l := by
  obtain ⟨hl, h1 | ⟨g, cur, rfl, hB1, hgr, r⟩⟩ := h
  · exact ⟨hl, .inl h1⟩
  · exact ⟨hl, .inr ⟨g, cur, rfl, hB1, (hg.block g (Array.getElem?_eq_some_iff.1 hgr).1 (fun e => hne _ rfl (by cases e; rfl))).trans hgr, r⟩⟩

theorem _root_.Go.Kin.Own.neB {α : Type} {f : α → Value} {B o : Nat} {E E' : TypeId} {w : World} {a : Option Addr} {n c : Nat} {l : List α} {cur : Array Value} (h : Own f B E w a n c l) (ho : w.heap[o]? = some (.cells cur E' (0, 0))) (hE : E ≠ E') : ∀ x, a = some x → x.block ≠ o := by
  rintro x rfl rfl
  obtain ⟨hl, h1 | ⟨g, cur2, e, hB1, hgr, r⟩⟩ := h
  · cases h1.1
  · cases e
    rw [hgr] at ho
    cases ho
    exact hE rfl
theorem OneB.neB {w : World} {b o : Nat} {v : Value} {T E' : TypeId} {cur : Array Value} (h : OneB w b v T) (ho : w.heap[o]? = some (.cells cur E' (0, 0))) (hE : T ≠ E') : o ≠ b := by
  rintro rfl
  unfold OneB at h
  rw [h] at ho
  cases ho
  exact hE rfl
theorem tip : (3 : TypeId) ≠ 69 := by decide
theorem own_neB {α : Type} {f : α → Value} {B o : Nat} {E E' : TypeId} {w : World} {a : Option Addr} {n c : Nat} {l : List α} {cur : Array Value} (h : Own f B E w a n c l) (ho : w.heap[o]? = some (.cells cur E' (0, 0))) (hE : E ≠ E') : some o ≠ (Value.slice a n c).ownBlock := by
  intro e
  cases a with
  | none => cases e
  | some x => exact h.neB ho hE x rfl (by cases e; rfl)
theorem own_ge {α : Type} {f : α → Value} {B k : Nat} {E : TypeId} {w : World} {a : Option Addr} {n c : Nat} {l : List α} (h : Own f B E w a n c l) (hk : (Value.slice a n c).ownBlock = some k) : B ≤ k := by
  obtain ⟨hl, h1 | ⟨g, cur2, rfl, hB1, hgr, r⟩⟩ := h
  · rw [h1.1] at hk; cases hk
  · cases hk; exact hB1
theorem tei : (3 : TypeId) ≠ 72 := by decide
theorem tie : (23 : TypeId) ≠ 3 := by decide
theorem tue : (5 : TypeId) ≠ 72 := by decide
theorem tui : (5 : TypeId) ≠ 3 := by decide
theorem tib : (3 : TypeId) ≠ 23 := by decide
theorem tpb : (69 : TypeId) ≠ 23 := by decide

theorem ownI_block {α : Type} {f : α → Value} {B : Nat} {E : TypeId} {w : World} {a : Option Addr} {n c : Nat} {l : List α} (h : Own f B E w a n c l) : ∀ x, a = some x → B ≤ x.block ∧ x.block < w.heap.size := by
  intro x hx
  obtain ⟨hl, h | ⟨g, cur, rfl, hB1, hg, r⟩⟩ := h
  · rw [h.1] at hx; cases hx
  · cases hx; exact ⟨hB1, (Array.getElem?_eq_some_iff.1 hg).1⟩

set_option maxHeartbeats 8000000 in
theorem reduce_any (ge n wd B cols : Nat) (M : Mat) (w : World) (hS : ESt w ge B n wd (elimE n M 0)) (hB : B ≤ ge) (hc : cols ≤ wd) (hn : n ≤ 1000) (hwd : wd ≤ 1000) :
    Calls Try.prog 58 #[.pointer (some ⟨ge, 0, none⟩), .int .i64 (cols : Int)] w fun e w' => e = .returned (.tuple #[]) ∧ ESt w' ge B n wd (elimE n M cols) ∧ Below B w w' := by
  obtain ⟨i0, hi, hz0, hz1, hz2⟩ := info_parts infoI
  have lge : ge < w.heap.size := by obtain ⟨_, _, _, _, h, _⟩ := hS; exact h.lt
  have P0 := Lib.hid (OneB.new w (.pointer (some ⟨ge, 0, none⟩)) 69)
  have b0 := below_alloc (.cells #[.pointer (some ⟨ge, 0, none⟩)] 69 (0, 0)) (below_refl w)
  have HS := Lib.hid (hS.fw b0)
  have hb0 := Lib.hid (b0.mono (show B ≤ w.heap.size by omega))
  clear hS b0
  go_enter Try.func58, Try.ntmps58
  go_wp2
  go_step3
  go_wp2
  go_step3
  go_wp2
  go_loopw [4, 5, 6, 7, 9] (fun _ _ _ _ i wr => ∃ m : Nat, m ≤ cols ∧ i = .int .i64 (m : Int) ∧ Hid (ESt wr ge B n wd (elimE n M m)) ∧ Hid (OneB wr w.heap.size (.pointer (some ⟨ge, 0, none⟩)) 69) ∧ Hid (Below B w wr)) (fun _ _ _ _ i _ => cols - (intOf i).toNat)
  case atStart => exact ⟨0, by omega, rfl, HS.out, P0.out, hb0.out⟩
  case round =>
    obtain ⟨m, hm, rfl, hS, hP, hbe⟩ := hrel
    have hbe' : Hid (B ≤ wr.heap.size) := Nat.le_trans (show B ≤ w.heap.size by omega) hbe.out.size
    by_cases hlt : m < cols
    · have hlen := (ech_elim n M m).len
      obtain ⟨s, hs⟩ : ∃ s, s = elimE n M m := ⟨_, rfl⟩
      rw [← hs] at hS hlen
      have HSS := Lib.hid hs
      obtain ⟨ra, rc, pa, pc, hE, hM, hO⟩ := hS.out
      obtain ⟨top, htop⟩ : ∃ top, top = s.piv.length := ⟨_, rfl⟩
      rw [← htop] at hE hO hlen
      have HTOP := Lib.hid htop
      clear hs htop hS
      have HO0 : Hid (∀ x, pa = some x → x.block < wr.heap.size) := fun x hx => (ownI_block hO x hx).2
      have i1 : (m : Int) < (cols : Int) := by omega
      have l0 := hP.out.lt
      have ba := below_alloc (.cells #[.int .i64 (top : Int)] 3 (0, 0)) (below_alloc (.cells #[.int .i64 (m : Int)] 3 (0, 0)) (below_refl wr))
      have hC : OneB ((wr.alloc (.cells #[.int .i64 (m : Int)] 3 (0, 0))).alloc (.cells #[.int .i64 (top : Int)] 3 (0, 0))) wr.heap.size (.int .i64 (m : Int)) 3 := heap_alloc2_old wr _ _
      have hT : OneB ((wr.alloc (.cells #[.int .i64 (m : Int)] 3 (0, 0))).alloc (.cells #[.int .i64 (top : Int)] 3 (0, 0))) (wr.heap.size + 1) (.int .i64 (top : Int)) 3 := heap_alloc2_new wr _ _
      have P2 := Lib.hid (hP.out.fw ba); have E2 := Lib.hid (hE.fw ba); have M2 := Lib.hid (hM.fw ba); have O2 := Lib.hid (hO.fw ba); have C2 := Lib.hid hC; have T2 := Lib.hid hT
      have ba1 := below_alloc (.cells #[.int .i64 (m : Int)] 3 (0, 0)) (below_refl wr)
      have p0 := (hP.out.fw ba1).cell
      have c1a := (hE.fw ba1).c1
      clear hE hM hO hC hT
      rcases findP_cases s.R m n top with ⟨hf, _⟩ | ⟨f, hf, hf1, hf2, hf3⟩
      · have hv := Lib.hid (findV_none hf)
        have hnx : Hid (elimE n M (m + 1) = s) := by
          show _ = _
          rw [HSS.out]; exact elimE_none (by rw [← HSS.out, ← HTOP.out]; exact hf)
        clear hf
        go_wp2_with (go_at_call 69; refine (find_any (wr.heap.size + 1) w.heap.size wr.heap.size ge n rc wd B top m ra _ _ s.R _ T2.out.cell P2.out.cell C2.out.cell E2.out M2.out hlen (by omega) hn).mono ?_; rw [hv.out]; rintro e w3 ⟨rfl, hd⟩; have HD := Lib.hid hd; clear hd)
        go_roundw
        case rel =>
          have bw := bt ba HD.out.fw
          refine ⟨m + 1, by omega, by go_num, ?_, hP.out.fw bw, hbe.out.trans (bw.mono ?_)⟩
          · show ESt _ _ _ _ _ _
            rw [hnx.out]
            refine ESt.fw ⟨ra, rc, pa, pc, ?_, M2.out, ?_⟩ HD.out.fw
            · rw [← HTOP.out]; exact E2.out
            · rw [← HTOP.out]; exact O2.out
          · have := hbe.out.size; omega
        case measure => simp [intOf]; omega
      · have hv := Lib.hid (findV_some hf)
        have hnx : Hid (elimE n M (m + 1) = ⟨clearR (swapR s.R top f) top m, s.piv ++ [m], s.prod * s.R f m⟩) := by
          show _ = _
          rw [HSS.out, HTOP.out, HSS.out]; exact elimE_some (by rw [← HSS.out, ← HTOP.out]; exact hf)
        have e1 : decide ((f : Int) < 0) = false := by simp
        clear hf
        go_wp2_with (go_at_call 69; refine (find_any (wr.heap.size + 1) w.heap.size wr.heap.size ge n rc wd B top m ra _ _ s.R _ T2.out.cell P2.out.cell C2.out.cell E2.out M2.out hlen (by omega) hn).mono ?_; rw [hv.out]; rintro e w3 ⟨rfl, hd⟩; have HD := Lib.hid hd; clear hd)
        have B3 := Lib.hid (hbe.out.trans ((bt ba HD.out.fw).mono (by have := hbe.out.size; omega) : Below B wr w3))
        have P3 := Lib.hid (P2.out.fw HD.out.fw); have E3 := Lib.hid (E2.out.fw HD.out.fw); have M3 := Lib.hid (M2.out.fw HD.out.fw); have O3 := Lib.hid (O2.out.fw HD.out.fw); have C3 := Lib.hid (C2.out.fw HD.out.fw); have T3 := Lib.hid (T2.out.fw HD.out.fw)
        have sz3 : wr.heap.size + 2 ≤ w3.heap.size := by have := T3.out.lt; omega
        clear P2 E2 M2 O2 C2 T2 ba hP hbe HD p0 c1a ba1
        obtain ⟨o, ra1, rc1, rfl, hBo, q1, f1, ow1, cur, hcur⟩ := M3.out.at (show top < n by omega)
        obtain ⟨o', ra2, rc2, ho', _, q2, f2, ow2, _⟩ := M3.out.at hf2
        cases ho'
        have p3 := P3.out.cell; have e3 := E3.out.c0; have t3 := T3.out.cell
        have hoge := E3.out.ne hcur
        have no1 := P3.out.neB hcur tpb
        have no2 := C3.out.neB hcur tib
        have no3 := T3.out.neB hcur tib
        have no4 := Lib.hid (O3.out.neB hcur tib)
        have OW1 := Lib.hid ow1; have OW2 := Lib.hid ow2; have HCUR := Lib.hid hcur
        have i3 : (top : Int) < (n : Int) := by omega
        have i4 : (f : Int) < (n : Int) := by omega
        clear ow1 ow2 hcur
        obtain ⟨v4, hv4⟩ := cell?_setCell_some (w := w3) (p := ⟨o, top, none⟩) (x := .slice ra2 wd rc2) (q := ⟨o, f, none⟩) q2
        go_cut [] from 22 to 48 (fun wq => Hid (MatR wq B (some ⟨o, 0, none⟩) n rc wd (swapR s.R top f)) ∧ Hid (OneB wq w.heap.size (.pointer (some ⟨ge, 0, none⟩)) 69) ∧ Hid (ECell wq ge (.slice (some ⟨o, 0, none⟩) n rc) (.slice pa top pc) (s.prod.n : Int)) ∧ Hid (Own vi B 3 wq pa top pc (s.piv.map Int.ofNat)) ∧ Hid (OneB wq wr.heap.size (.int .i64 (m : Int)) 3) ∧ Hid (OneB wq (wr.heap.size + 1) (.int .i64 (top : Int)) 3) ∧ Hid (w3.grownBy wq (some o)))
        case first =>
          refine wp_region_still_tail_move 24 9 [(24, 9), (25, 7), (25, 6), (25, 5), (25, 9), (25, 19), (25, 18), (25, 17), (25, 22), (25, 21)] _ _ (by kernel_rfl) rfl rfl (by kernel_rfl) (by kernel_rfl) (by kernel_rfl) (by kernel_rfl) (by kernel_rfl) (by kernel_rfl) (by kernel_rfl) (by kernel_rfl) (fun _ _ _ _ h => h) ?_
          simp only [List.take_succ_cons, List.take_zero, List.drop_succ_cons, List.drop_zero]
          repeat still_step
          refine wpStill_nil ?_
          go_wp2_with fail
          go_meet
          have G4 : w3.grownBy ((w3.setCell ⟨o, top, none⟩ (.slice ra2 wd rc2)).setCell ⟨o, f, none⟩ (.slice ra1 wd rc1)) (some o) := grown_set (grown_set (grown_refl w3 _) ⟨o, top, none⟩ _ rfl) ⟨o, f, none⟩ _ rfl
          have G4d : w3.grownBy ((w3.setCell ⟨o, top, none⟩ (.slice ra2 wd rc2)).setCell ⟨o, f, none⟩ (.slice ra1 wd rc1)).drew (some o) := ⟨G4.os, G4.tape, G4.output, G4.size, G4.block⟩
          have M4 : MatR ((w3.setCell ⟨o, top, none⟩ (.slice ra2 wd rc2)).setCell ⟨o, f, none⟩ (.slice ra1 wd rc1)) B (some ⟨o, 0, none⟩) n rc wd (swapR s.R top f) := by
            have a1 := M3.out.set (show top < n by omega) OW2.out
            have a2 := OW1.out.otherT (p := ⟨o, top, none⟩) (cur := cur) HCUR.out tt' (.slice ra2 wd rc2)
            refine (a1.set hf2 a2).congr fun i c _ _ => ?_
            unfold swapR
            by_cases h1 : i = f
            · by_cases h2 : i = top
              · subst h1; subst h2; rw [Mat.setRow_same, if_pos rfl]
              · subst h1; rw [Mat.setRow_same, if_neg h2, if_pos rfl]
            · rw [Mat.setRow_other _ _ h1]
              by_cases h2 : i = top
              · subst h2; rw [Mat.setRow_same, if_pos rfl]
              · rw [Mat.setRow_other _ _ h2, if_neg h2, if_neg h1]
          exact ⟨M4.fw (below_refl _).drew, P3.out.grown G4d no1, E3.out.grown G4d hoge, O3.out.grownB G4d no4.out, C3.out.grown G4d no2, T3.out.grown G4d no3, G4d⟩
        case rest =>
        obtain ⟨M4, P4, E4, O4, C4, T4, G4⟩ := hcut
        clear p3 e3 t3 q1 f1 q2 f2 hv4 OW1 OW2
        have hsw : swapR s.R top f top = s.R f := by
          funext c; unfold swapR
          by_cases h1 : top = f
          · subst h1; simp
          · simp
        obtain ⟨o', ra4, rc4, ho', _, q4, f4, ow4, _⟩ := M4.out.at (show top < n by omega)
        cases ho'
        rw [hsw] at ow4
        obtain ⟨g4, rfl, _, d4, _⟩ := ow4.cell (mrow_get _ (show m < wd by omega))
        obtain ⟨z, hz⟩ : ∃ z, z = (s.R f m).n := ⟨_, rfl⟩
        obtain ⟨y, hy⟩ : ∃ y, y = s.prod.n := ⟨_, rfl⟩
        have bz : z < 256 := by rw [hz]; exact (s.R f m).h
        have by' : y < 256 := by rw [hy]; exact s.prod.h
        have HZ : Hid (Fq.of y * Fq.of z = s.prod * s.R f m) := by show _ = _; rw [hz, hy, Fq.of_val, Fq.of_val]
        rw [← hz] at d4
        rw [← hy] at E4
        unfold vb at d4
        have HSW := Lib.hid hsw
        have p4 := P4.out.cell; have e40 := E4.out.c0; have e42 := E4.out.c2; have ef2 := E4.out.frozen 2; have t4 := T4.out.cell; have c4 := C4.out.cell
        have i5 : (m : Int) < (wd : Int) := by omega
        have E1 := fun wx => mul_any (y : Int) (z : Int) wx (by omega) (by omega) (by omega) (by omega)
        clear ow4 hz hy hsw
        go_wp2_with fail
        go_still_tail 16, (by kernel_rfl)
        refine wpStill_step (fun K hK => ?_)
        go_simp
        refine ⟨_, (E1 _).mono (fun e w' h => ⟨h.1, h.2.symm⟩), hK _ ?_⟩
        clear hK K
        refine wpStill_nil ?_
        have hgw : ge ≠ w.heap.size := by omega
        have hgr : ge ≠ wr.heap.size := by omega
        have hgr1 : ge ≠ wr.heap.size + 1 := by omega
        have hb9 : Below _ (wc.setCell ⟨ge, 2, none⟩ (.int .u8 ((Gf.mul y z : Nat) : Int))) (wc.setCell ⟨ge, 2, none⟩ (.int .u8 ((Gf.mul y z : Nat) : Int))).drew := (below_refl _).drew
        have E5 := Lib.hid ((E4.out.set2 (Gf.mul y z : Nat)).fw hb9)
        have M5 := Lib.hid ((M4.out.otherT (p := ⟨ge, 2, none⟩) E4.out te1 tue (.int .u8 ((Gf.mul y z : Nat) : Int))).fw hb9)
        have P5 := Lib.hid ((P4.out.other ⟨ge, 2, none⟩ (.int .u8 ((Gf.mul y z : Nat) : Int)) hgw).fw hb9)
        have C5 := Lib.hid ((C4.out.other ⟨ge, 2, none⟩ (.int .u8 ((Gf.mul y z : Nat) : Int)) hgr).fw hb9)
        have O5 := Lib.hid ((O4.out.otherT (p := ⟨ge, 2, none⟩) E4.out tei (.int .u8 ((Gf.mul y z : Nat) : Int))).fw hb9)
        have B4 := Lib.hid (B3.out.grown G4.out (show B ≤ w3.heap.size from Nat.le_trans hbe'.out (by omega)) (fun k e => by cases e; exact hBo))
        have B5 := Lib.hid ((B4.out.setCell (p := ⟨ge, 2, none⟩) hB (.int .u8 ((Gf.mul y z : Nat) : Int))).drew)
        go_wp2_with (go_at_call 70; refine (clear_any ge o n rc wd B top m _ _ (swapR s.R top f) _ E5.out M5.out (by omega) (by omega) (by rw [HSW.out]; exact hf3) hn hwd).mono ?_; rintro e w6 ⟨rfl, hM6, hG6⟩; have M6 := Lib.hid hM6; have G6 := Lib.hid hG6; have E6 := Lib.hid (E5.out.grown hG6 hoge); have P6 := Lib.hid (P5.out.grown hG6 no1); have C6 := Lib.hid (C5.out.grown hG6 no2); have O6 := Lib.hid (O5.out.grownB hG6 no4.out); have B6 := Lib.hid (B5.out.grown hG6 (Nat.le_trans hB (Nat.le_of_lt E5.out.lt)) (fun k e => by cases e; exact hBo)); clear hM6 hG6)
        have p6 := P6.out.cell; have c6 := C6.out.cell; have e6 := E6.out.c1; have ef6 := E6.out.frozen 1
        clear p4 e40 e42 ef2 t4 c4 q4 f4 d4 E1
        have hb7 : Below w6.heap.size w6 (w6.alloc (.cells #[.int .i64 (m : Int)] 3 (0, 0))).drew := (below_alloc _ (below_refl w6)).drew
        have P7 := Lib.hid (P6.out.fw hb7); have E7 := Lib.hid (E6.out.fw hb7); have O7 := Lib.hid (O6.out.fw hb7); have M7 := Lib.hid (M6.out.fw hb7)
        have B7 := Lib.hid (B6.out.trans (hb7.mono (Nat.le_trans hB (Nat.le_of_lt E6.out.lt))))
        have np := own_neB O7.out P7.out tip
        have ng := own_neB O7.out E7.out tei
        have HS7 : Hid (∀ k, (Value.slice pa top pc).ownBlock = some k → B ≤ k) := fun k hk => own_ge O7.out hk
        have l6 := E6.out.lt; have l6p := P6.out.lt
        have hx1 : top + 1 ≤ maxLen := by unfold maxLen; omega
        have hx2 : (top + 1) * 8 ≤ 140737488355328 := by omega
        have hx3 : B ≤ (w6.alloc (.cells #[.int .i64 (m : Int)] 3 (0, 0))).drew.heap.size := Nat.le_trans (Nat.le_trans hB (Nat.le_of_lt l6)) hb7.size
        have hx4 := World.news_of_block (w := (w6.alloc (.cells #[.int .i64 (m : Int)] 3 (0, 0))).drew) (cs := #[.int .i64 (m : Int)]) (t := 3) (fr := (0, 0)) (B := w6.heap.size) (heap_alloc_new w6 _)
        have hx5 : (w6.alloc (.cells #[.int .i64 (m : Int)] 3 (0, 0))).drew.heap.size = w6.heap.size + 1 := by simp
        have hx6 := Try.underlying22
        have hx7 := O7.out.ownsRow
        have FIN : ∀ (w8 : World) (gg cap : Nat), w8.ownsRow B 3 1 (.slice (some ⟨gg, 0, none⟩) (top + 1) cap) (top + 1) ((s.piv.map Int.ofNat).map vi ++ [.int .i64 (m : Int)]) → (w6.alloc (.cells #[.int .i64 (m : Int)] 3 (0, 0))).drew.grownBy w8 (Value.slice pa top pc).ownBlock →
            Hid (ESt (w8.setCell ⟨ge, 1, none⟩ (.slice (some ⟨gg, 0, none⟩) (top + 1) cap)) ge B n wd (elimE n M (m + 1)) ∧ OneB (w8.setCell ⟨ge, 1, none⟩ (.slice (some ⟨gg, 0, none⟩) (top + 1) cap)) w.heap.size (.pointer (some ⟨ge, 0, none⟩)) 69 ∧ Below B w (w8.setCell ⟨ge, 1, none⟩ (.slice (some ⟨gg, 0, none⟩) (top + 1) cap))) := by
          intro w8 gg cap hown8 hgrow8
          have E8 : ECell w8 ge _ _ _ := (hgrow8.block _ E7.out.lt ng).trans E7.out
          have P8 : OneB w8 w.heap.size _ _ := (hgrow8.block _ P7.out.lt np).trans P7.out
          have M8 := M7.out.grownT O7.out tie tui hgrow8
          have B8 := B7.out.grown hgrow8 hx3 HS7.out
          obtain ⟨a8, c8, h8, O8⟩ := Own.of_ownsRow (own_snoc (f := vi) (x := (m : Int)) hown8 rfl)
          cases h8
          refine ⟨?_, P8.other _ _ hgw, B8.setCell hB _⟩
          show ESt _ _ _ _ _ _
          rw [hnx.out]
          refine ⟨some ⟨o, 0, none⟩, rc, some ⟨gg, 0, none⟩, cap, ?_, M8.otherT (p := ⟨ge, 1, none⟩) E8 te1 tue _, ?_⟩
          · have := E8.set1 (.slice (some ⟨gg, 0, none⟩) (top + 1) cap)
            have e2 : (Gf.mul y z : Nat) = (s.prod * s.R f m).n := by rw [← HZ.out, ← Fq.of_mul by' bz, Fq.of_n (Gf.mul_lt y z by')]
            rw [e2] at this
            rw [List.length_append, ← HTOP.out]
            exact this
          · have := O8.otherT (p := ⟨ge, 1, none⟩) E8 tei (.slice (some ⟨gg, 0, none⟩) (top + 1) cap)
            rw [List.length_append, ← HTOP.out, List.map_append]
            exact this

        go_region_law (refine step_append_lies _ (by rfl) _ _ _ (by rfl) B 3 i0 _ 1 8 hx6 hi hz0 hz1 hz2 rfl Nat.one_pos (.slice pa top pc) top ((s.piv.map Int.ofNat).map vi) (by rfl) hx7 ⟨w6.heap.size, 0, none⟩ 1 1 [.int .i64 (m : Int)] (by rfl) (by rfl) hx4 (by simp [Value.oneCell']) Nat.one_pos hx1 hx2 hx3 (w6.heap.size + 1) hx5 ?_; intro gg cap w8 hown8 hgrow8 hat8 hlt8; have F8 := FIN w8 gg cap hown8 hgrow8; have p8 := ((show OneB w8 w.heap.size (.pointer (some ⟨ge, 0, none⟩)) 69 from (hgrow8.block _ P7.out.lt np).trans P7.out)).cell; have e8 := (show ECell w8 ge _ _ _ from (hgrow8.block _ E7.out.lt ng).trans E7.out).c1; have ef8 := (show ECell w8 ge _ _ _ from (hgrow8.block _ E7.out.lt ng).trans E7.out).frozen 1)
        all_goals
          go_wp2_with fail
          go_roundw
          case rel => exact ⟨m + 1, by omega, by go_num, F8.out.1, F8.out.2.1, F8.out.2.2⟩
          case measure => simp [intOf]; omega
    · have hmc : m = cols := by omega
      subst hmc
      clear i0 hi hz0 hz1 hz2
      go_wp2
      rw [Exit.noGoto_normal]
      go_end0
      exact ⟨rfl, hS.out, hbe.out⟩
end Go.Proofs.Ytioiaiifkfopnaa
