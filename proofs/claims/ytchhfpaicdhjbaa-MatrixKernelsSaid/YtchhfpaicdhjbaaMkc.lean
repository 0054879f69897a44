/- kinkeepref04.Reduce: the walk. -/
import Derived.Test.YtchhfpaicdhjbaaMkb
namespace Go.Proofs.Ytchhfpaicdhjbaa
open Go.RowKit Go.Kin Mat
open Fq (sum)
set_option maxRecDepth 100000
set_option linter.unusedVariables false

/-- What kinkeepref04.Reduce gives. -/
def RedRet (w : World) (n k : Nat) (s : EState) (e : Ending) (w' : World) : Prop :=
  ∃ oa oc pa pc, e = .returned (.tuple #[.slice oa n oc, .slice pa s.piv.length pc]) ∧ RS w w' oa oc n k s.R pa s.piv.length pc (s.piv.map Int.ofNat)
theorem MatB.grownT {β : Type} {f' : β → Value} {B' : Nat} {E' : TypeId} {w w' : World} {B : Nat} {a a' : Option Addr} {n c k n' c' : Nat} {f : Mat} {l' : List β} (h : MatB w B a n c k f) (h' : Own f' B' E' w a' n' c' l') (h1 : 34 ≠ E') (h2 : 5 ≠ E') (hg : w.grownBy w' (Value.slice a' n' c').ownBlock) : MatB w' B a n c k f := by
  obtain ⟨G, g1, g2, g3, g4⟩ := h
  exact ⟨G, g1, g2, g3.grownT h' h1 hg, fun i g hi => (g4 i g hi).grownT h' h2 hg⟩
theorem RS.swap {w wr : World} {o oc n k : Nat} {R : Mat} {pa : Option Addr} {m pc : Nat} {P : List Int} (h : RS w wr (some ⟨o, 0, none⟩) oc n k R pa m pc P) {i j gi gj : Nat} (hi : i < n) (hj : j < n)
    (hgi : wr.cell? ⟨o, i, none⟩ = some (.slice (some ⟨gi, 0, none⟩) k k)) (hgj : wr.cell? ⟨o, j, none⟩ = some (.slice (some ⟨gj, 0, none⟩) k k)) :
    RS w ((wr.setCell ⟨o, i, none⟩ (.slice (some ⟨gj, 0, none⟩) k k)).setCell ⟨o, j, none⟩ (.slice (some ⟨gi, 0, none⟩) k k)) (some ⟨o, 0, none⟩) oc n k (swapR R i j) pa m pc P := by
  obtain ⟨h1, h2, h3⟩ := h
  refine ⟨h1.swap hi hj hgi hgj, ?_, ?_⟩
  · obtain ⟨G, _, _, g3, _⟩ := h1
    have ei := MatB.hd (f := R) g3 hgi hi
    obtain ⟨o2, ho, _, _, _, cur, hcur⟩ := g3.cell (i := i) (x := hdr k gi) (by rw [List.getElem?_map, ei]; rfl)
    cases ho
    obtain ⟨hl, h5 | ⟨g2, cur2, rfl, hB1, hg2, r⟩⟩ := h2
    · exact ⟨hl, .inl h5⟩
    · have hne : g2 ≠ o := fun e => by
        subst e
        rw [hcur] at hg2
        cases hg2
      exact ⟨hl, .inr ⟨g2, cur2, rfl, hB1, by rw [Below.heap_setCell _ _ _ _ (by exact hne), Below.heap_setCell _ _ _ _ (by exact hne)]; exact hg2, r⟩⟩
  · obtain ⟨o2, _, ho, hBo, _⟩ := h1.at hi
    cases ho
    exact (h3.setCell (p := ⟨o, i, none⟩) hBo _).setCell (p := ⟨o, j, none⟩) hBo _
theorem RS.push {w wr w' : World} {oa : Option Addr} {oc n k : Nat} {R : Mat} {pa : Option Addr} {m pc : Nat} {P : List Int} (h : RS w wr oa oc n k R pa m pc P) {sa : Option Addr} {c' : Nat} {x : Int} (hown : Own vi w.heap.size 3 w' sa (m + 1) c' (P ++ [x])) (hg : wr.grownBy w' (Value.slice pa m pc).ownBlock) :
    RS w w' oa oc n k R sa (m + 1) c' (P ++ [x]) :=
  ⟨h.1.grownT h.2.1 tie tui hg, hown, h.2.2.grown hg h.2.2.size (fun _ hx => own_ge h.2.1 hx)⟩
theorem RS.hfro {w wr : World} {o oc n k : Nat} {R : Mat} {pa : Option Addr} {m pc : Nat} {P : List Int} (h : RS w wr (some ⟨o, 0, none⟩) oc n k R pa m pc P) {i : Nat} (hi : i < n) : wr.frozen? ⟨o, i, none⟩ = false := by
  obtain ⟨G, _, _, g3, _⟩ := h.1
  have hlen := g3.len
  rw [List.length_map] at hlen
  obtain ⟨o2, ho, _, _, hf, _⟩ := g3.cell (i := i) (x := hdr k G[i]) (by rw [List.getElem?_map, List.getElem?_eq_getElem (show i < G.length by omega)]; rfl)
  cases ho
  exact hf
theorem RS.fw {w wr w' : World} {oa : Option Addr} {oc n k : Nat} {R : Mat} {pa : Option Addr} {m pc : Nat} {P : List Int} (h : RS w wr oa oc n k R pa m pc P) (hb : Below wr.heap.size wr w') : RS w w' oa oc n k R pa m pc P :=
  ⟨h.1.fw hb, h.2.1.fw hb, bt h.2.2 hb⟩

set_option maxHeartbeats 8000000 in
theorem rreduce_any (a : Option Addr) (n c k : Nat) (f : Mat) (w : World) (h : RdM w a n c (mlist n k f)) (hv : VM n k) :
    Calls Try.prog 18 #[.slice a n c] w (RedRet w n k (elimE n f k)) := by
  have hC := hv.cols f
  have hn := hv.hn
  have hk := hv.hk
  obtain ⟨i0, hi, hz0, hz1, hz2⟩ := info_parts info5
  have s1 : (Try.prog.info? 5).map (·.size) = some 1 := by rw [hi]; simp [hz1]
  have u0 := Try.underlying34
  obtain ⟨ii, hii, hiz0, hiz1, hiz2⟩ := info_parts infoI
  have ui := Try.underlying29
  have H := Lib.hid h
  clear h hv hz0 hz1 hz2 hi
  go_enter Try.func18, Try.ntmps18
  go_wp2_with (first
    | (go_at_call 19; refine (rcols_any _ _ _ _ _ H.out).mono ?_; rw [hC]; rintro e w' ⟨rfl, rfl⟩)
    | (go_at_call 24; refine (rzero_any n k _ (by omega) (by omega)).mono ?_; rintro e w1 ⟨oa, oc, rfl, hM1, hb1⟩; have HM1 := Lib.hid hM1; have HB1 := Lib.hid hb1; clear hM1 hb1))
  go_loopw [5] (fun i wr => ∃ j : Nat, j ≤ n ∧ i = .int .i64 (j : Int) ∧ Hid (MatB wr w.heap.size oa n oc k (fun a b => if a < j then f a b else 0)) ∧ Hid (Below w.heap.size w wr)) (fun i _ => n - (intOf i).toNat)
  case atStart => exact ⟨0, by omega, rfl, HM1.out.congr fun a b _ _ => by rw [if_neg (by omega)], HB1.out⟩
  case round =>
    obtain ⟨j, hj, rfl, hM, hbe⟩ := hrel
    by_cases hlt : j < n
    · have i2 : (j : Int) < (n : Int) := by omega
      obtain ⟨m, ra, rn, rc, ba, ob, hm, rfl, c0, hrow⟩ := (H.out.fw hbe.out).row hlt
      obtain rfl := mlist_row hm
      obtain rfl : k = rn := by have := hrow.len; rwa [mrow_length] at this
      obtain ⟨o, g, rfl, hBo, hBg, c1, hK, _⟩ := hM.out.at hlt
      have HK := Lib.hid (hK.fw (below_refl wr).drew); have HR := Lib.hid (hrow.fw (below_refl wr).drew)
      have HM := Lib.hid hM.out.drew
      have c1d : wr.drew.cell? ⟨o, j, none⟩ = some (.slice (some ⟨g, 0, none⟩) k k) := c1
      have C1 := Lib.hid c1d
      have HBD := Lib.hid hbe.out.drew
      clear hm hK hrow c1d
      go_wp2_with fail
      go_still_tail 8, (by kernel_rfl)
      change wpList _ _ _ _ _ wr.drew
      generalize wr.drew = wd at HK HR HM C1 HBD
      go_wp2_with (refine wpList_copy_blk rfl (.tmp 29) (.tmp 33) 34 34 rfl 5 u0 s1 vb vb_one g 0 k k k rc ra rfl rfl _ (mrow k (f j)) 5 HK.out HR.out (by rw [mrow_length, Nat.zero_add]; exact Nat.min_le_right _ _) ?_; rw [show Nat.min k k = k from Nat.min_self k, List.take_of_length_le (by rw [mrow_length]; exact Nat.le_refl _), over_all _ _ (by rw [mrow_length, mrow_length])]; intro w3 hw3; have HW3 := Lib.hid hw3; clear hw3)
      go_roundw
      case rel =>
        refine ⟨j + 1, by omega, by go_num, (HM.out.wrote hlt C1.out HW3.out).congr fun a b _ _ => ?_, HW3.out.below HBD.out hBg⟩
        unfold Mat.setRow
        by_cases e : a = j
        · rw [if_pos e, if_pos (by omega), e]
        · rw [if_neg e]
          show (if a < j then f a b else 0) = _
          by_cases h : a < j
          · rw [if_pos h, if_pos (by omega)]
          · rw [if_neg h, if_neg (by omega)]
      case measure => simp [intOf]; omega
    · have hjn : j = n := by omega
      subst hjn
      have hM2 := Lib.hid (hM.out.congr (g := f) fun a b ha _ => if_pos ha)
      have hP := (blk_new vi 3 wr []).own (B := w.heap.size) hbe.out.size (by simp [maxLen])
      have hb1 := below_alloc (.cells (row vi []) 3 (0, 0)) (below_refl wr)
      have S0 : Hid (RS w (wr.alloc (.cells (row vi []) 3 (0, 0))) oa oc j k (elimE j f 0).R (some ⟨wr.heap.size, 0, none⟩) 0 0 ((elimE j f 0).piv.map Int.ofNat)) := ⟨hM2.out.fw hb1, hP, bt hbe.out hb1⟩
      clear hM hP hb1 hM2 hbe
      go_wp2_with fail
      go_loopw [6, 7, 8, 9, 10, 11, 12, 13, 14] (fun p i _ _ _ _ _ _ _ wr => ∃ (col : Nat) (pa : Option Addr) (pc : Nat), col ≤ k ∧ i = .int .i64 (col : Int) ∧ p = .slice pa (elimE j f col).piv.length pc ∧ Hid (RS w wr oa oc j k (elimE j f col).R pa (elimE j f col).piv.length pc ((elimE j f col).piv.map Int.ofNat))) (fun _ i _ _ _ _ _ _ _ _ => k - (intOf i).toNat)
      case atStart => exact ⟨0, _, _, by omega, rfl, rfl, S0.out⟩
      case round =>
        obtain ⟨col, pa, pc, hcol, rfl, rfl, hS⟩ := hrel
        by_cases hlt : col < k
        · have i2 : (col : Int) < (k : Int) := by omega
          obtain ⟨s, hs⟩ : ∃ s, s = elimE j f col := ⟨_, rfl⟩
          rw [← hs] at hS
          have hech : Ech j col s := by rw [hs]; exact ech_elim j f col
          have htn := hech.len
          obtain ⟨top, ht⟩ : ∃ top, top = s.piv.length := ⟨_, rfl⟩
          rw [← ht] at htn hS
          have HSS := Lib.hid hs; have HT := Lib.hid ht
          rw [← hs, ← ht]
          clear hs ht hech
          go_wp2_with (go_at_call 19; refine (rcols_any _ _ _ _ _ (H.out.fw hS.out.2.2)).mono ?_; rw [hC]; rintro e w' ⟨rfl, rfl⟩)
          go_loop [9] (fun p => ∃ q : Nat, top ≤ q ∧ q ≤ j ∧ p = .int .i64 (q : Int) ∧ Hid (∀ t, top ≤ t → t < q → s.R t col = 0)) (fun p => j - (intOf p).toNat)
          case atStart => exact ⟨top, by omega, htn, rfl, fun t h1 h2 => by omega⟩
          case round =>
            obtain ⟨q, hq1, hq2, rfl, hz⟩ := hrel
            by_cases hqj : q < j
            · have i3 : (q : Int) < (j : Int) := by omega
              obtain ⟨x, hx⟩ : ∃ x, x = (s.R q col).n := ⟨_, rfl⟩
              have x1 : x < 256 := by rw [hx]; exact (s.R q col).h
              have HX : Hid (Fq.of x = s.R q col) := by show _ = _; rw [hx, Fq.of_val]
              obtain ⟨o, gq, rfl, hBq, c1, d1, _, _⟩ := hS.out.el hqj hlt hx
              clear hx
              by_cases hx0 : x = 0
              · have e1 : (((x : Nat) : Int) == 0) = true := by rw [hx0]; rfl
                have hz2 : Hid (∀ t, top ≤ t → t < q + 1 → s.R t col = 0) := fun t h1 h2 => by
                  by_cases e : t = q
                  · rw [e, ← HX.out, hx0]; rfl
                  · exact hz.out t h1 (by omega)
                clear hx0
                go_wp2_with fail
                go_round
                case rel => exact ⟨q + 1, by omega, by omega, by go_num, hz2⟩
                case measure => simp [intOf]; omega
              · have e1 : (((x : Nat) : Int) == 0) = false := by simp; omega
                have e2 : (((q : Nat) : Int) == ((j : Nat) : Int)) = false := by simp; omega
                have hne : s.R q col ≠ 0 := fun e => by rw [← HX.out] at e; exact hx0 ((Fq.of_eq_zero x1).1 e)
                have hfp := findP_some hq1 hqj hne hz.out
                have HNX : Hid (elimE j f (col + 1) = ⟨clearR (swapR s.R top q) top col, s.piv ++ [col], s.prod * s.R q col⟩) := by
                  show _ = _
                  rw [HSS.out, HT.out, HSS.out]; exact elimE_some (by rw [← HSS.out, ← HT.out]; exact hfp)
                have htj : top < j := by omega
                obtain ⟨o', gt, ho', hBt, ct, _, _⟩ := hS.out.at htj
                cases ho'
                have j1 : (top : Int) < (j : Int) := by omega
                have SD := Lib.hid hS.out.drew
                have c1d : wr.drew.cell? ⟨o, q, none⟩ = some (.slice (some ⟨gq, 0, none⟩) k k) := c1
                have ctd : wr.drew.cell? ⟨o, top, none⟩ = some (.slice (some ⟨gt, 0, none⟩) k k) := ct
                have f1 := SD.out.hfro hqj
                have f2 := SD.out.hfro htj
                obtain ⟨v4, hv4⟩ := cell?_setCell_some (w := wr.drew) (p := ⟨o, top, none⟩) (x := .slice (some ⟨gq, 0, none⟩) k k) (q := ⟨o, q, none⟩) c1d
                have S2 := Lib.hid (SD.out.swap htj hqj ctd c1d)
                clear hx0 hne hfp hz
                go_wp2_with fail
                refine wp_region_still_tail_moves 12 2 3 [(12, 2), (12, 3), (12, 10), (12, 9), (12, 8), (13, 2), (13, 3), (13, 10), (13, 9), (13, 8)] _ _ _ _ (by kernel_rfl) rfl rfl (by decide) rfl rfl (by kernel_rfl) (by kernel_rfl) (by kernel_rfl) (by kernel_rfl) (by kernel_rfl) (by kernel_rfl) (by kernel_rfl) (by kernel_rfl) (by kernel_rfl) (by kernel_rfl) (by kernel_rfl) (by kernel_rfl) (fun _ _ _ _ h => h) (fun _ _ _ _ h => h) ?_
                simp only [List.take_succ_cons, List.take_zero, List.drop_succ_cons, List.drop_zero]
                repeat still_step
                refine wpStill_nil ?_
                change wpList _ _ _ _ _ wr.drew
                generalize wr.drew = wd at SD c1d ctd f1 f2 hv4 S2
                go_upto_region 16 with (fail)
                generalize ((wd.setCell ⟨o, top, none⟩ (.slice (some ⟨gq, 0, none⟩) k k)).setCell ⟨o, q, none⟩ (.slice (some ⟨gt, 0, none⟩) k k)) = w5 at S2 ⊢
                clear SD c1d ctd f1 f2 hv4 hS
                obtain ⟨S, hSw⟩ : ∃ S, S = swapR s.R top q := ⟨_, rfl⟩
                have hst : x = (S top col).n := by
                  rw [hSw]; unfold swapR; rw [if_pos rfl, ← HX.out, Fq.of_n x1]
                rw [← hSw] at S2 HNX
                clear hSw
                have hinv : Hid (Fq.of (Gf.inv x) = Fq.inv (S top col)) := by show _ = _; rw [Fq.of_inv x1, hst, Fq.of_val]
                obtain ⟨o', g5, ho', _, d5, d6, _, _⟩ := S2.out.el htj hlt hst
                cases ho'
                obtain ⟨y, hy⟩ : ∃ y, y = Gf.inv x := ⟨_, rfl⟩
                have y1 : y < 256 := by rw [hy]; exact Gf.inv_lt x x1
                rw [← hy] at hinv
                have E0 := fun wx => rinv4_any x wx x1
                rw [← hy] at E0
                clear hst hy
                go_wp2_with (go_at_call 47; refine (E0 _).mono ?_; rintro e w' ⟨rfl, rfl⟩)
                clear E0 d5 d6
                obtain ⟨v, HV⟩ : ∃ v, Hid (v = Fq.inv (S top col)) := ⟨_, rfl⟩
                have hinv2 : Hid (Fq.of y = v) := by show _ = _; rw [hinv.out, HV.out]
                clear hinv
                go_loopw [11] (fun i wr => ∃ c' : Nat, c' ≤ k ∧ i = .int .i64 (c' : Int) ∧ Hid (RS w wr (some ⟨o, 0, none⟩) oc j k (scTo S top v c') pa top pc (s.piv.map Int.ofNat))) (fun i _ => k - (intOf i).toNat)
                case atStart => exact ⟨0, by omega, rfl, S2.out.congr fun a b _ _ => scTo_zero _ _ _ _ _⟩
                case round =>
                  obtain ⟨c', hc', rfl, hR⟩ := hrel
                  by_cases hlc : c' < k
                  · have l1 : (c' : Int) < (k : Int) := by omega
                    obtain ⟨t, ht⟩ : ∃ t, t = (scTo S top v c' top c').n := ⟨_, rfl⟩
                    have t1 : t < 256 := by rw [ht]; exact (scTo S top v c' top c').h
                    obtain ⟨o', g6, ho', _, d5, d6, f6, hset⟩ := hR.out.el htj hlc ht
                    cases ho'
                    have hm := Gf.mul_lt t y t1
                    obtain ⟨u, hu⟩ : ∃ u, u = Gf.mul t y := ⟨_, rfl⟩
                    rw [← hu] at hm
                    have HU : Hid (Fq.of u = v * S top c') := by
                      show _ = _
                      rw [hu, Fq.of_mul t1 y1, hinv2.out, ht, Fq.of_val, scTo_at, Fq.mul_comm]
                    have HS := Lib.hid (hset u hm)
                    have E1 := fun wx => rmul4_any t y wx t1 y1
                    rw [← hu] at E1
                    clear ht hset hu
                    go_wp2_with fail
                    go_still_tail 15, (by kernel_rfl)
                    refine wpStill_step (fun K hK => ?_)
                    go_simp
                    refine ⟨_, (E1 _).mono (fun e w' h => ⟨h.1, h.2.symm⟩), hK _ ?_⟩
                    clear hK K
                    repeat still_step
                    refine wpStill_nil ?_
                    change wpList _ _ _ _ _ wr.drew
                    go_wp2_with fail
                    go_roundw
                    case rel =>
                      refine ⟨c' + 1, by omega, by go_num, (HS.out.congr fun a b _ _ => ?_).drew⟩
                      rw [HU.out, scTo_step]
                    case measure => simp [intOf]; omega
                  · have hck : c' = k := by omega
                    subst hck
                    obtain ⟨S1, hS1⟩ : ∃ S1, S1 = Mat.setRow S top (fun x => Fq.inv (S top col) * S top x) := ⟨_, rfl⟩
                    have hR1 : Hid (RS w wr (some ⟨o, 0, none⟩) oc j c' (clearTo S1 top (fun i => S i col) 0) pa top pc (s.piv.map Int.ofNat)) := by
                      refine hR.out.congr fun a b _ hb => ?_
                      rw [scTo_all S top v c' a b hb, HV.out, ← hS1]
                      unfold clearTo; rw [if_neg (by omega)]
                    have hS1o : Hid (∀ i, i ≠ top → S1 i = S i) := fun i hi => by rw [hS1]; exact Mat.setRow_other _ _ hi
                    have HS1 := Lib.hid hS1
                    obtain ⟨o', g6, ho', _, d5, _, _⟩ := hR.out.at htj
                    cases ho'
                    clear hR hS1
                    go_wp2_with fail
                    clear d5
                    go_loopw [12, 13, 14] (fun i _ _ wr => ∃ i' : Nat, i' ≤ j ∧ i = .int .i64 (i' : Int) ∧ Hid (RS w wr (some ⟨o, 0, none⟩) oc j c' (clearTo S1 top (fun i => S i col) i') pa top pc (s.piv.map Int.ofNat))) (fun i _ _ _ => j - (intOf i).toNat)
                    case atStart => exact ⟨0, by omega, rfl, hR1.out⟩
                    case round =>
                      obtain ⟨i', hi', rfl, hR⟩ := hrel
                      by_cases hli : i' < j
                      · have l1 : (i' : Int) < (j : Int) := by omega
                        obtain ⟨z, hz⟩ : ∃ z, z = (clearTo S1 top (fun i => S i col) i' i' col).n := ⟨_, rfl⟩
                        have z1 : z < 256 := by rw [hz]; exact (clearTo S1 top (fun i => S i col) i' i' col).h
                        obtain ⟨o', g6, ho', _, d5, d6, f6, _⟩ := hR.out.el hli hlt hz
                        cases ho'
                        by_cases hit : i' = top
                        · have e3 : (((i' : Nat) : Int) != ((top : Nat) : Int)) = false := by simp; omega
                          have hR2 := Lib.hid (hR.out.congr (S := clearTo S1 top (fun i => S i col) (i' + 1)) fun a b _ _ => by rw [hit]; exact clTo_top _ _ _ _ _)
                          clear hit hz
                          go_wp2_with fail
                          clear d5 d6
                          go_loop [14] (fun q => q = .int .i64 0) (fun _ => 0)
                          case atStart => exact rfl
                          case round =>
                            subst hrel
                            go_wp2_with fail
                            go_roundw
                            case rel => exact ⟨i' + 1, by omega, by go_num, hR2.out⟩
                            case measure => simp [intOf]; omega
                        · have e3 : (((i' : Nat) : Int) != ((top : Nat) : Int)) = true := by simp; omega
                          have HZ : Hid (Fq.of z = S i' col) := by
                            show _ = _
                            rw [hz, clearTo_at, hS1o.out i' hit, Fq.of_val]
                          have hR2 := Lib.hid (hR.out.congr (S := clTo S1 top (fun i => S i col) i' 0) fun a b _ _ => clTo_zero _ _ _ _ _ _)
                          have HIT := Lib.hid hit
                          clear hit hz
                          go_wp2_with fail
                          clear d5 d6
                          go_loopw [14] (fun q wr => ∃ q' : Nat, q' ≤ c' ∧ q = .int .i64 (q' : Int) ∧ Hid (RS w wr (some ⟨o, 0, none⟩) oc j c' (clTo S1 top (fun i => S i col) i' q') pa top pc (s.piv.map Int.ofNat))) (fun q _ => c' - (intOf q).toNat)
                          case atStart => exact ⟨0, by omega, rfl, hR2.out⟩
                          case round =>
                            obtain ⟨q', hq', rfl, hR⟩ := hrel
                            by_cases hlq : q' < c'
                            · have l2 : (q' : Int) < (c' : Int) := by omega
                              obtain ⟨t, ht⟩ : ∃ t, t = (clTo S1 top (fun i => S i col) i' q' i' q').n := ⟨_, rfl⟩
                              have t1 : t < 256 := by rw [ht]; exact (clTo S1 top (fun i => S i col) i' q' i' q').h
                              obtain ⟨o', g7, ho', _, d5, d6, f6, hset⟩ := hR.out.el hli hlq ht
                              cases ho'
                              obtain ⟨m, hm⟩ : ∃ m, m = (clTo S1 top (fun i => S i col) i' q' top q').n := ⟨_, rfl⟩
                              have m1 : m < 256 := by rw [hm]; exact (clTo S1 top (fun i => S i col) i' q' top q').h
                              obtain ⟨o', g8, ho', _, d7, d8, _, _⟩ := hR.out.el htj hlq hm
                              cases ho'
                              have hml := Gf.mul_lt z m z1
                              obtain ⟨u, hu⟩ : ∃ u, u = Gf.mul z m := ⟨_, rfl⟩
                              rw [← hu] at hml
                              have X : bits .xor .u8 (t : Int) (u : Int) = ((t ^^^ u : Nat) : Int) := u8_xor_nat t u t1 hml
                              have HU : Hid (Fq.of (t ^^^ u) = S1 i' q' + S i' col * S1 top q') := by
                                show _ = _
                                rw [Fq.of_add t1 hml, hu, Fq.of_mul z1 m1, HZ.out, ht, hm, Fq.of_val, Fq.of_val, clTo_at, clTo_top_at _ _ _ HIT.out]
                              have HS := Lib.hid (hset (t ^^^ u) (Gf.xor_lt t1 hml))
                              have E1 := fun wx => rmul4_any z m wx z1 m1
                              rw [← hu] at E1
                              clear ht hm hset hu
                              go_wp2_with fail
                              go_still_tail 23, (by kernel_rfl)
                              refine wpStill_step (fun K hK => ?_)
                              go_simp
                              refine ⟨_, (E1 _).mono (fun e w' h => ⟨h.1, h.2.symm⟩), hK _ ?_⟩
                              clear hK K
                              repeat still_step
                              refine wpStill_nil ?_
                              change wpList _ _ _ _ _ wr.drew
                              go_wp2_with fail
                              go_roundw
                              case rel =>
                                refine ⟨q' + 1, by omega, by go_num, (HS.out.congr fun a b _ _ => ?_).drew⟩
                                rw [HU.out]
                                exact clTo_step S1 top (fun i => S i col) i' q' a b
                              case measure => simp [intOf]; omega
                            · have hqc : q' = c' := by omega
                              subst hqc
                              obtain ⟨o', g7, ho', _, d5, _, _⟩ := hR.out.at hli
                              cases ho'
                              go_wp2_with fail
                              go_roundw
                              case rel => exact ⟨i' + 1, by omega, by go_num, hR.out.congr fun a b _ hb => clTo_done _ _ _ HIT.out _ _ hb⟩
                              case measure => simp [intOf]; omega
                      · have hij : i' = j := by omega
                        subst hij
                        have hRf : Hid (RS w wr (some ⟨o, 0, none⟩) oc i' c' (elimE i' f (col + 1)).R pa top pc (s.piv.map Int.ofNat)) := by
                          rw [HNX.out]
                          refine hR.out.congr fun a b ha _ => ?_
                          rw [HS1.out]; exact clear_all S top col i' a b ha
                        have b6 := below_alloc (.cells (row vi [(col : Int)]) 3 (0, 0)) (below_refl wr)
                        have R6 := Lib.hid (hRf.out.fw b6)
                        have N6 := Lib.hid (rd_new vi 3 wr [(col : Int)] (n := 1) rfl (by omega))
                        clear hR b6
                        go_wp2_with (at_builtin; refine wpList_append_rd rfl (.tmp 161) (.tmp 163) 29 rfl vi vi_one w.heap.size 3 ii (.int .i64 0) 8 ui hii hiz0 hiz1 hiz2 rfl pa top pc (s.piv.map Int.ofNat) rfl R6.out.2.1 (some ⟨wr.heap.size, 0, none⟩) 1 1 [(col : Int)] rfl N6.out (by unfold maxLen; omega) (by omega) R6.out.2.2.size ?_; intro sa c2 w7 hown7 hgr7)
                        go_roundw
                        case rel =>
                          have hfin := R6.out.push hown7 hgr7
                          refine ⟨col + 1, sa, c2, by omega, by go_num, ?_, ?_⟩
                          · rw [HNX.out, List.length_append, ← HT.out]; rfl
                          · have e9 : (elimE i' f (col + 1)).piv = s.piv ++ [col] := by rw [HNX.out]
                            rw [e9, List.length_append, ← HT.out, List.map_append]
                            exact hfin
                        case measure => simp [intOf]; omega
            · have hqj2 : q = j := by omega
              subst hqj2
              have hfp := findP_none hz.out
              have HNX : Hid (elimE q f (col + 1) = s) := by
                show _ = _
                rw [HSS.out]; exact elimE_none (by rw [← HSS.out, ← HT.out]; exact hfp)
              clear hfp hz
              go_wp2_with fail
              go_roundw
              case rel => exact ⟨col + 1, pa, pc, by omega, by go_num, by rw [HNX.out, ← HT.out], by rw [HNX.out, ← HT.out]; exact hS.out⟩
              case measure => simp [intOf]; omega
        · have hck : col = k := by omega
          subst hck
          go_wp2_with (go_at_call 19; refine (rcols_any _ _ _ _ _ (H.out.fw hS.out.2.2)).mono ?_; rw [hC]; rintro e w' ⟨rfl, rfl⟩)
          go_ret2
          exact ⟨oa, oc, pa, pc, rfl, hS.out⟩
end Go.Proofs.Ytchhfpaicdhjbaa
