/- quota: route. -/
import Derived.Test.YtpecepfnmkpmmaaNd
namespace Go.Kin
open Go.RowKit
/-- A slice without its first element. -/
theorem At.drop1 {α : Type} {f : α → Value} {B : Nat} {E : TypeId} {w : World} {b o n c : Nat} {x : α} {l : List α} (h : At f B E w (some ⟨b, o, none⟩) n c (x :: l)) : ∃ o', (if c = 1 then some ⟨b, o, none⟩ else some ⟨b, o + 1, none⟩) = some (⟨b, o', none⟩ : Addr) ∧ At f B E w (some ⟨b, o', none⟩) (n - 1) (c - 1) l := by
  obtain ⟨hl, hm, hnc, ⟨h, _⟩ | ⟨g, o2, cur, he, hB, hg, hs, hc⟩⟩ := h
  · cases h
  · cases he
    rw [List.length_cons] at hl
    by_cases e : c = 1
    · rw [if_pos e]
      obtain rfl : l = [] := List.eq_nil_of_length_eq_zero (by omega)
      exact ⟨o, rfl, by simp at hl ⊢; omega, by omega, by omega, .inr ⟨b, o, cur, rfl, hB, hg, by omega, by simp⟩⟩
    · rw [if_neg e]
      refine ⟨o + 1, rfl, by omega, by omega, by omega, .inr ⟨b, o + 1, cur, rfl, hB, hg, by omega, fun i y hy => ?_⟩⟩
      have := hc (i + 1) y (by simpa using hy)
      rw [← this]; congr 1; omega
end Go.Kin
namespace Go.Proofs.Ytpecepfnmkpmmaa
open Go.RowKit Go.Kin Quo
set_option maxRecDepth 100000
set_option linter.unusedVariables false

theorem i64_xor_nat (a b : Nat) (ha : a < 65536) (hb : b < 65536) : bits .xor .i64 (a : Int) (b : Int) = ((a ^^^ b : Nat) : Int) := by
  have hx : a ^^^ b < 2 ^ 16 := Nat.xor_lt_two_pow (by omega) (by omega)
  show IntKind.i64.wrap ((BitVec.ofInt 64 (a : Int) ^^^ BitVec.ofInt 64 (b : Int)).toNat : Int) = _
  rw [BitVec.toNat_xor, ofInt_u64 a (by omega), ofInt_u64 b (by omega), IntKind.wrap_i64]
  omega
theorem xor_one (k KX : Nat) (h : KX = k ^^^ 1) (hk : k < 65536) : bits .xor .i64 (k : Int) 1 = (KX : Int) := by
  have := i64_xor_nat k 1 (by omega) (by omega)
  rw [h]; exact this
/-- Behind the queue's append. -/
theorem q_after {w wx w7 : World} {gb : Nat} {qa sa : Option Addr} {n c c' : Nat} {L : List Int} {b : List Int} (hb : Blk vi 3 wx gb b) (hap : ∀ x, qa = some x → x.block ≠ gb) (hbe : Below w.heap.size w wx) (hown : At vi w.heap.size 3 wx qa n c L)
    (hg : (sa = qa ∧ c' = c ∧ wx.grownBy w7 (Value.slice qa n c).ownBlock ∧ w7.heap.size = wx.heap.size) ∨ (wx.grownBy w7 none ∧ ∃ g, sa = some ⟨g, 0, none⟩ ∧ wx.heap.size ≤ g)) : Blk vi 3 w7 gb b ∧ (∀ x, sa = some x → x.block ≠ gb) ∧ Below w.heap.size w w7 := by
  have hl := hb.lt
  rcases hg with ⟨rfl, _, h3, _⟩ | ⟨h1, g, rfl, h3⟩
  · refine ⟨(h3.block gb hl fun e => ?_).trans hb, hap, hbe.grown h3 hbe.size fun y hy => ?_⟩
    · obtain ⟨z, hz, hzb⟩ := ownBlock_eq e.symm
      exact hap z hz hzb
    · obtain ⟨z, hz, hzb⟩ := ownBlock_eq hy
      rw [← hzb]; exact (hown.blt hz).2.1
  · refine ⟨(h1.block gb hl (by simp)).trans hb, fun x hx => ?_, hbe.grown h1 hbe.size (by simp)⟩
    cases hx
    show g ≠ gb
    omega
set_option maxHeartbeats 4000000 in
theorem route_any (bg s t : Nat) (B : Nat) (X : List Nat) (g : Net) (w : World) (h : NetM w B X bg g) (ho : NetOk g) (hs : s < g.out.length) (ht : t < g.out.length) (hne : t ≠ s) (f : Nat) (hf1000 : f ≤ 1000) (way : List Nat) (hw : routeF g s t f = some way) :
    Calls Try.prog 61 #[.pointer (some ⟨bg, 0, none⟩), .int .i64 (s : Int), .int .i64 (t : Int)] w fun e w' => Below w.heap.size w w' ∧ ((way = [] ∧ e = .returned (.slice none 0 0)) ∨ ∃ a c, way ≠ [] ∧ e = .returned (.slice a way.length c) ∧ Own vi w.heap.size 3 w' a way.length c (way.map Int.ofNat)) := by
  obtain ⟨i0, hi0, hz0, hz1, hz2⟩ := info_parts infoI
  have u0 := Try.underlying26
  obtain ⟨n, hn⟩ : ∃ n, n = g.out.length := ⟨_, rfl⟩
  have hn1000 : n ≤ 1000 := by rw [hn]; exact ho.nodes
  have hn0 : 0 < n := by omega
  obtain ⟨oo, oc, ra, rc, d1, _, _⟩ := h.rowRd (v := s) (get_some hs [])
  rw [← hn] at d1
  have HF : Hid (f ≤ 1000) := hf1000
  have hts : Hid (t ≠ s) := hne
  have HN := Lib.hid h; have HOK := Lib.hid ho; have HW := Lib.hid hw; have HNN := Lib.hid hn
  rw [← hn] at hs ht
  clear h ho hw hn
  go_enter Try.func61, Try.ntmps61
  go_wp2_with (at_make; refine wpList_make_blk rfl (.tmp 20) (.tmp 20) 26 rfl vi 0 3 i0 u0 hi0 hz0 hz1 rfl _ _ _ _ n rfl rfl rfl rfl (by rw [hz2]; omega) (by omega) ?_; intro w2 hk2 hb2 hs2; have HK2 := Lib.hid hk2; have HB2 := Lib.hid hb2; clear hk2 hb2 hs2)
  clear d1
  go_loopw [24] (fun i wr => ∃ j : Nat, j ≤ n ∧ i = .int .i64 (j : Int) ∧ Hid (Blk vi 3 wr w.heap.size (List.replicate j (-1) ++ List.replicate (n - j) 0)) ∧ Hid (Below w.heap.size w wr)) (fun i _ => n - (intOf i).toNat)
  case atStart => exact ⟨0, by omega, rfl, HK2.out, HB2.out⟩
  case round =>
    obtain ⟨j, hj, rfl, hB, hbe⟩ := hrel
    by_cases hlt : j < n
    · have i2 : (j : Int) < (n : Int) := by omega
      have HL : Hid ((List.replicate j (-1 : Int)).length = j) := List.length_replicate
      have d5 := hB.out.cell (get_next HL.out hlt)
      have f5 := hB.out.frozen j
      unfold vi at d5
      go_wp2_with fail
      go_roundw
      case rel =>
        refine ⟨j + 1, by omega, by go_num, ?_, (hbe.out).setCell (Nat.le_refl _) _⟩
        have := hB.out.set j (-1)
        rw [set_next HL.out hlt, show List.replicate j (-1 : Int) ++ [-1] = List.replicate (j + 1) (-1) from (List.replicate_succ' ..).symm] at this
        exact this
      case measure => simp [intOf]; omega
    · have hjn : j = n := by omega
      subst hjn
      rw [Nat.sub_self, List.replicate_zero, List.append_nil] at hB
      obtain ⟨R, hR⟩ : ∃ R, bfs g s t f (List.replicate j (-1)) [s] = some R := by
        have := HW.out
        unfold routeF at this
        rw [← HNN.out] at this
        cases hb : bfs g s t f (List.replicate j (-1)) [s] with
        | none => rw [hb] at this; cases this
        | some b => exact ⟨b, rfl⟩
      have HR := Lib.hid hR
      clear hR
      have hba := below_alloc (.cells #[.int .i64 (s : Int)] 3) (below_refl wr)
      have HBA := Lib.hid (bt hbe.out hba)
      have HB1 := Lib.hid (hB.out.fw hba)
      have hws := hB.out.lt
      have HQ1 : Hid (At vi w.heap.size 3 (wr.alloc (.cells #[.int .i64 (s : Int)] 3)) (some ⟨wr.heap.size, 0, none⟩) 1 1 ([s].map Int.ofNat)) := (blk_new vi 3 wr [(s : Int)]).at (B := w.heap.size) (by omega) (by simp [maxLen])
      have HBY : Hid (ByOk g (List.replicate j (-1))) := ⟨by rw [List.length_replicate]; exact HNN.out, fun x hx => .inl (List.eq_of_mem_replicate hx)⟩
      have HQO : Hid (QOk g [s]) := fun v hv => by
        have : v = s := by simpa using hv
        rw [this, ← HNN.out]; exact hs
      clear hba
      go_wp2_with fail
      go_loopg [9] f (fun k z wr => ∃ (b : List Int) (q : List Nat) (qa : Option Addr) (qc : Nat), z = .slice qa q.length qc ∧ Hid (bfs g s t k b q = some R) ∧ Hid (Blk vi 3 wr w.heap.size b) ∧ Hid (At vi w.heap.size 3 wr qa q.length qc (q.map Int.ofNat)) ∧ Hid (∀ x, qa = some x → x.block ≠ w.heap.size) ∧ Hid (ByOk g b) ∧ Hid (QOk g q) ∧ Hid (Below w.heap.size w wr) ∧ Hid (neg b + q.length ≤ j + 1))
      case atStart =>
        refine ⟨List.replicate j (-1), [s], some ⟨wr.heap.size, 0, none⟩, 1, rfl, HR.out, HB1.out, HQ1.out, fun x hx => ?_, HBY.out, HQO.out, HBA.out, ?_⟩
        · cases hx
          show wr.heap.size ≠ w.heap.size
          omega
        · have : neg (List.replicate j (-1)) ≤ (List.replicate j (-1 : Int)).length := List.countP_le_length
          rw [List.length_replicate] at this
          show neg (List.replicate j (-1)) + 1 ≤ j + 1
          omega
      case round =>
        obtain ⟨b, q, qa, qc, rfl, hbf, hB, hQ, hap, hby, hqo, hbe, hneg⟩ := hrel
        rename World => wo
        obtain ⟨x, hx⟩ : ∃ x, b[t]? = some x := ⟨_, List.getElem?_eq_getElem (by rw [hby.out.1, ← HNN.out]; exact ht)⟩
        have c1 := hB.out.cell hx
        unfold vi at c1
        have hxd : Hid (b.getD t 0 = x) := getD_of hx
        have i1 : (t : Int) < (j : Int) := by omega
        have HX := Lib.hid hx
        clear hx
        have hgk : gk ≠ 0 := by
          rintro rfl
          have := hbf.out
          unfold bfs at this
          cases this
        obtain ⟨k, rfl⟩ : ∃ k, gk = k + 1 := ⟨gk - 1, by omega⟩
        clear hgk
        cases q with
        | nil =>
          have hRb : Hid (R = b) := by have := hbf.out; unfold bfs at this; exact (Option.some.inj this).symm
          by_cases hx0 : x < 0
          · have hwn : Hid (way = []) := by
              have := HW.out
              unfold routeF at this
              rw [← HNN.out, HR.out, hRb.out] at this
              simp only [hxd.out, if_pos hx0] at this
              exact (Option.some.inj this).symm
            go_wp2_with fail
            go_ret
            exact ⟨hbe.out, .inl ⟨hwn.out, rfl⟩⟩
          · have hbk : Hid (back g s b f t [] = some way) := by
              have := HW.out
              unfold routeF at this
              rw [← HNN.out, HR.out, hRb.out] at this
              simp only [hxd.out, if_neg hx0] at this
              exact this
            have hx1 : decide (x < 0) = false := decide_eq_false hx0
            go_wp2_with fail
            go_loopg [14, 15] f (fun k y z wr => ∃ (u : Nat) (l : List Nat) (la : Option Addr) (lc : Nat), y = .slice la l.length lc ∧ z = .int .i64 (u : Int) ∧ Hid (u < j) ∧ Hid (back g s b k u l = some way) ∧ Hid (Blk vi 3 wr w.heap.size b) ∧ Hid (Own vi w.heap.size 3 wr la l.length lc (l.map Int.ofNat)) ∧ Hid (∀ x, la = some x → x.block ≠ w.heap.size) ∧ Hid (Below w.heap.size w wr) ∧ Hid (l = [] → u ≠ s) ∧ Hid (l.length + k ≤ f))
            case atStart => exact ⟨t, [], none, 0, rfl, rfl, ht, hbk.out, hB.out, ⟨rfl, .inl ⟨rfl, rfl, rfl⟩⟩, (fun x hx => by cases hx), hbe.out, fun _ => hts.out, by show 0 + f ≤ f; omega⟩
            case round =>
              obtain ⟨u, l, la, lc, rfl, rfl, hu, hbk, hB, hO, hap2, hbe, hlu, hlf⟩ := hrel
              rename World => wb
              have hgk2 : gk ≠ 0 := by
                rintro rfl
                have := hbk.out
                unfold back at this
                cases this
              obtain ⟨k2, rfl⟩ : ∃ k2, gk = k2 + 1 := ⟨gk - 1, by omega⟩
              clear hgk2
              by_cases hus : u = s
              · have hwl : Hid (l = way) := by
                  have := hbk.out
                  unfold back at this
                  rw [if_pos hus] at this
                  exact Option.some.inj this
                have e1 : ((u : Int) != (s : Int)) = false := by simp; omega
                go_wp2_with fail
                go_ret
                refine ⟨hbe.out, .inr ⟨la, lc, ?_, ?_, ?_⟩⟩
                · rw [← hwl.out]; exact fun e => hlu.out e hus
                · rw [← hwl.out]; rfl
                · rw [← hwl.out]; exact hO.out
              · have e1 : ((u : Int) != (s : Int)) = true := by simp; omega
                have hub : b.getD u 0 = b.getD u 0 := rfl
                obtain ⟨x2, hx2⟩ : ∃ x2, b[u]? = some x2 := ⟨_, List.getElem?_eq_getElem (by rw [hby.out.1, ← HNN.out]; exact hu.out)⟩
                have hxd2 : b.getD u 0 = x2 := getD_of hx2
                have hbk2 := hbk.out
                unfold back at hbk2
                rw [if_neg hus, hxd2] at hbk2
                have hx20 : ¬ x2 < 0 := by
                  intro h
                  rw [if_pos h] at hbk2
                  cases hbk2
                rw [if_neg hx20] at hbk2
                obtain ⟨kk, hkk, hkx⟩ : ∃ kk : Nat, kk < g.arcs.length ∧ x2 = (kk : Int) := by
                  rcases hby.out.2 x2 (List.mem_of_getElem? hx2) with h | h
                  · omega
                  · exact h
                subst hkx
                rw [Int.toNat_natCast] at hbk2
                have hka := HOK.out.arcs
                have hk1 := HOK.out.even kk hkk
                obtain ⟨KX, hKX⟩ : ∃ KX, KX = kk ^^^ 1 := ⟨_, rfl⟩
                rw [← hKX] at hbk2 hk1
                have hc3 := hB.out.cell hx2
                unfold vi at hc3
                have HBK2 := Lib.hid hbk2; have HKL := Lib.hid hk1; have HX2 := Lib.hid hx2; have HKK := Lib.hid hkk
                have i5 : (u : Int) < (j : Int) := by have := hu.out; omega
                obtain ⟨ag, ac, a1, a2, a3, _⟩ := (HN.out.fw hbe.out).arcAt (k := KX) hk1
                have i6 : (KX : Int) < (g.arcs.length : Int) := by omega
                have HTP : Hid (g.tip KX < j) := by rw [HNN.out]; exact HOK.out.tips KX hk1
                have HKX := Lib.hid hKX
                have HLF := Lib.hid hlf.out
                have hll : l.length ≤ 100000 := by have := HF.out; have := hlf.out; omega
                clear hx2 hxd2 hbk2 hx20 hkk hk1 hKX hub hka
                have hba := below_alloc (.cells #[.int .i64 (kk : Int)] 3) (below_refl wb)
                have HBA := Lib.hid hba
                have HRN := Lib.hid (rd_new vi 3 wb [(kk : Int)] (n := 1) rfl (by omega))
                have HOA := Lib.hid (hO.out.fw hba)
                have hwb := hbe.out.size
                clear hba
                go_wp2_with (at_builtin; refine wpList_push rfl (.tmp 119) (.tmp 124) 26 rfl vi vi_one w.heap.size 3 i0 (.int .i64 0) 8 u0 hi0 hz0 hz1 hz2 rfl la l.length lc _ rfl HOA.out ⟨wb.heap.size, 0, none⟩ 1 1 [(kk : Int)] rfl HRN.out (by omega) (by unfold maxLen; omega) (by omega) (bt hbe.out HBA.out).size ?_; intro g7 c7 w7 hown hg7 hlies; have HBW7 : Hid (Below w.heap.size w w7) := (bt hbe.out HBA.out).grown hg7 (bt hbe.out HBA.out).size (fun y hy => by obtain ⟨z, hz, hzb⟩ := ownBlock_eq hy; rw [← hzb]; exact HOA.out.bge hz); have HB7 : Hid (Blk vi 3 w7 w.heap.size b) := (hg7.block _ (hB.out.fw HBA.out).lt (fun e => by obtain ⟨z, hz, hzb⟩ := ownBlock_eq e.symm; exact hap2.out z hz hzb)).trans (hB.out.fw HBA.out); have hap7 : Hid (∀ x, (some (⟨g7, 0, none⟩ : Addr)) = some x → x.block ≠ w.heap.size) := fun x hx => by { cases hx; rcases hlies with e | e; { obtain ⟨z, hz, hzb⟩ := ownBlock_eq e; rw [← hzb]; exact hap2.out z hz }; { intro e2; have := (hB.out.fw HBA.out).lt; change g7 = w.heap.size at e2; omega } }; have HO7 := Lib.hid hown; clear hown hg7 hlies)
                clear a1 a2 a3 hc3
                obtain ⟨ag7, ac7, a1, a2, a3, _⟩ := (HN.out.fw HBW7.out).arcAt HKL.out
                have hc3 := HB7.out.cell HX2.out
                unfold vi at hc3
                have QX := xor_one kk KX HKX.out (by have := HKK.out; have := HOK.out.arcs; omega)
                go_quiet (fail)
                have hb9 := fdrewN (below_refl w7) nq
                go_wp2_with fail
                go_roundg k2
                case measure => omega
                case rel =>
                  refine ⟨g.tip KX, l ++ [kk], some ⟨g7, 0, none⟩, c7, by simp, rfl, HTP.out, HBK2.out, HB7.out.fw hb9, ?_, hap7.out, bt HBW7.out hb9, fun e => by simp at e, ?_⟩
                  · rw [List.length_append, List.map_append]
                    exact HO7.out.fw hb9
                  · have := HLF.out
                    show (l ++ [kk]).length + k2 ≤ f
                    rw [List.length_append]
                    show l.length + 1 + k2 ≤ f
                    omega
        | cons v q =>
          rw [List.length_cons] at hQ ⊢
          by_cases hx0 : x < 0
          · have hbf2 := hbf.out
            unfold bfs at hbf2
            rw [hxd.out, if_pos hx0] at hbf2
            have hvn : v < g.out.length := hqo.out v (List.mem_cons_self ..)
            obtain ⟨m, hm⟩ : ∃ m, m = g.out.getD v [] := ⟨_, rfl⟩
            have hm0 : g.out[v]? = some m := by rw [hm]; exact get_some hvn []
            rw [← hm] at hbf2
            have HBF := Lib.hid hbf2
            have hmem := List.mem_of_getElem? hm0
            have HMK := Lib.hid (HOK.out.out m hmem)
            have hml : m.length ≤ 10000 := HOK.out.rows m hmem
            obtain ⟨oo2, oc2, ra2, rc2, e1w, e2w, hrow⟩ := HN.out.rowRd hm0
            rw [← HNN.out] at e1w
            have e1 := (cellBelow hbe.out (lt_of_cell e1w)).trans e1w
            have e2 := (cellBelow hbe.out (lt_of_cell e2w)).trans e2w
            clear e1w e2w
            have HROW := Lib.hid hrow
            obtain ⟨qb, qo, rfl, e3⟩ := hQ.out.rd.cell 0 (v : Int) rfl
            rw [Nat.add_zero] at e3
            change wo.cell? _ = some (.int .i64 (v : Int)) at e3
            have hq2 := hQ.out
            rw [List.map_cons] at hq2
            obtain ⟨qo', hqe, hq3⟩ := hq2.drop1
            rw [show q.length + 1 - 1 = q.length from rfl] at hq3
            have i3 : (v : Int) < (j : Int) := by rw [HNN.out]; omega
            have HQ3 := Lib.hid hq3
            have hap' : Hid (qb ≠ w.heap.size) := hap.out _ rfl
            clear hbf2 hm hm0 hmem hrow hq2 hq3 hvn
            have hwo := hbe.out.size
            have HBYS := Lib.hid (fun jj => visits_ok HOK.out (s := s) (m.take jj) (b, q) (fun k hk => HMK.out k (List.mem_of_mem_take hk)) hby.out (fun u hu => hqo.out u (List.mem_cons_of_mem _ hu)))
            go_wp2_with fail
            try rw [hqe]
            go_loopw [9, 56] (fun z9 z wr => ∃ (jj : Nat) (st : List Int × List Nat) (qa' : Option Addr) (qc' : Nat), jj ≤ m.length ∧ z = .int .i64 (jj : Int) ∧ z9 = .slice qa' st.2.length qc' ∧ Hid (st = (m.take jj).foldl (visit g s) (b, q)) ∧ Hid (Blk vi 3 wr w.heap.size st.1) ∧ Hid (At vi w.heap.size 3 wr qa' st.2.length qc' (st.2.map Int.ofNat)) ∧ Hid (∀ x, qa' = some x → x.block ≠ w.heap.size) ∧ Hid (Below w.heap.size w wr) ∧ Hid (neg st.1 + st.2.length ≤ j)) (fun _ z _ => m.length - (intOf z).toNat)
            case atStart =>
              refine ⟨0, (b, q), _, _, by omega, rfl, rfl, rfl, hB.out, HQ3.out, fun x hx => ?_, hbe.out, ?_⟩
              · cases hx
                exact hap'.out
              · have := hneg.out
                rw [List.length_cons] at this
                show neg b + q.length ≤ j
                omega
            case round =>
              obtain ⟨jj, st, qa', qc', hjj, rfl, rfl, hst, hB4, hQ4, hap4, hbe4, hneg4⟩ := hrel
              by_cases hltj : jj < m.length
              · have i7 : (jj : Int) < (m.length : Int) := by omega
                obtain ⟨kk, hkm⟩ : ∃ kk, m[jj]? = some kk := ⟨_, List.getElem?_eq_getElem hltj⟩
                have hkk := HMK.out kk (List.mem_of_getElem? hkm)
                obtain ⟨rb3, ro3, rfl, r1w⟩ := HROW.out.cell jj (kk : Int) (by rw [List.getElem?_map, hkm]; rfl)
                have r1 := (cellBelow hbe4.out (lt_of_cell r1w)).trans r1w
                change wr.cell? _ = some (.int .i64 (kk : Int)) at r1
                obtain ⟨ag, ac, a1, a2, a3, _⟩ := (HN.out.fw hbe4.out).arcAt (k := kk) hkk
                have i8 : (kk : Int) < (g.arcs.length : Int) := by omega
                obtain ⟨tp, htp⟩ : ∃ tp, tp = g.tip kk := ⟨_, rfl⟩
                obtain ⟨rm, hrm⟩ : ∃ rm, rm = g.room kk := ⟨_, rfl⟩
                rw [← htp] at a2
                rw [← hrm] at a3
                have htj : tp < j := by rw [htp, HNN.out]; exact HOK.out.tips kk hkk
                have hbyst := (HBYS.out jj).1
                rw [← hst.out] at hbyst
                obtain ⟨x4, hx4⟩ : ∃ x4, st.1[tp]? = some x4 := ⟨_, List.getElem?_eq_getElem (by rw [hbyst.1, ← HNN.out]; exact htj)⟩
                have c4 := hB4.out.cell hx4
                have f4 := hB4.out.frozen tp
                unfold vi at c4
                have i9 : (tp : Int) < (j : Int) := by omega
                have HST1 : Hid ((m.take (jj + 1)).foldl (visit g s) (b, q) = if 0 < rm ∧ tp ≠ s ∧ x4 < 0 then (st.1.set tp (kk : Int), st.2 ++ [tp]) else st) := by
                  show _ = _
                  rw [visits_snoc g s (b, q) hkm, ← hst.out, visit, ← htp, ← hrm, getD_of hx4]
                have HNG : Hid (neg (if 0 < rm ∧ tp ≠ s ∧ x4 < 0 then (st.1.set tp (kk : Int), st.2 ++ [tp]) else st).1 + (if 0 < rm ∧ tp ≠ s ∧ x4 < 0 then (st.1.set tp (kk : Int), st.2 ++ [tp]) else st).2.length = neg st.1 + st.2.length) := by
                  have := visit_neg HOK.out (s := s) hkk (st := st) hbyst
                  rw [visit, ← htp, ← hrm, getD_of hx4] at this
                  exact this
                clear hkm hkk r1w htp hrm hbyst hx4
                by_cases k1 : 0 < rm
                · by_cases k2 : tp = s
                  · have z2 : ((tp : Int) != (s : Int)) = false := by simp; omega
                    have HS2 : Hid (st = (m.take (jj + 1)).foldl (visit g s) (b, q)) := by show _ = _; rw [HST1.out, if_neg fun h => h.2.1 k2]
                    go_wp2_with fail
                    go_roundw
                    case rel => exact ⟨jj + 1, st, qa', qc', by omega, by go_num, rfl, HS2, hB4, hQ4, hap4, hbe4, hneg4⟩
                    case measure => simp [intOf]; omega
                  · have z2 : ((tp : Int) != (s : Int)) = true := by simp; omega
                    by_cases k3 : x4 < 0
                    · have HS2 : Hid ((st.1.set tp (kk : Int), st.2 ++ [tp]) = (m.take (jj + 1)).foldl (visit g s) (b, q)) := by show _ = _; rw [HST1.out, if_pos ⟨k1, k2, k3⟩]
                      have HNG2 : Hid (neg (st.1.set tp (kk : Int)) + (st.2 ++ [tp]).length ≤ j) := by
                        have := HNG.out
                        rw [if_pos ⟨k1, k2, k3⟩] at this
                        have h4 := hneg4.out
                        show neg (st.1.set tp (kk : Int)) + (st.2 ++ [tp]).length ≤ j
                        rw [this]; exact h4
                      have hsq : st.2.length ≤ 1000 := by have := hneg4.out; omega
                      have hB5 := hB4.out.set tp (kk : Int)
                      have hA5 := hQ4.out.other (p := ⟨w.heap.size, tp, none⟩) hap4.out (.int .i64 (kk : Int))
                      have hbe5 := hbe4.out.setCell (p := ⟨w.heap.size, tp, none⟩) (Nat.le_refl _) (.int .i64 (kk : Int))
                      have hba5 := below_alloc (.cells #[.int .i64 (tp : Int)] 3) (below_refl (wr.setCell ⟨w.heap.size, tp, none⟩ (.int .i64 (kk : Int))))
                      have HB5 := Lib.hid (hB5.fw hba5); have HA5 := Lib.hid (hA5.fw hba5); have HBE5 := Lib.hid (bt hbe5 hba5)
                      have HCL : Hid (((wr.setCell ⟨w.heap.size, tp, none⟩ (.int .i64 (kk : Int))).alloc (.cells #[.int .i64 (tp : Int)] 3)).heap[wr.heap.size]? = some (.cells #[vi (tp : Int)] 3 (0, 0))) := hp_new (by simp [World.setCell])
                      clear hB5 hA5 hbe5 hba5
                      go_wp2_with (at_builtin; refine wpList_push_at rfl (.tmp 93) (.tmp 95) 26 rfl vi vi_one w.heap.size 3 i0 (.int .i64 0) 8 u0 hi0 hz0 hz1 hz2 rfl qa' st.2.length qc' _ rfl HA5.out wr.heap.size (tp : Int) 3 (0, 0) rfl HCL.out (by omega) (by omega) HBE5.out.size ?_; intro sa7 c7 w7 hown hg7; have QA := Lib.hid (q_after HB5.out hap4.out HBE5.out HA5.out hg7); have HO7 := Lib.hid hown; clear hown hg7)
                      go_roundw
                      case rel =>
                        refine ⟨jj + 1, (st.1.set tp (kk : Int), st.2 ++ [tp]), sa7, c7, by omega, by go_num, by simp, HS2, QA.out.1, ?_, QA.out.2.1, QA.out.2.2, HNG2⟩
                        show At vi _ _ _ _ (st.2 ++ [tp]).length _ ((st.2 ++ [tp]).map Int.ofNat)
                        rw [List.length_append, List.map_append]
                        exact HO7.out
                      case measure => simp [intOf]; omega
                    · have z3 : decide (x4 < 0) = false := decide_eq_false k3
                      have HS2 : Hid (st = (m.take (jj + 1)).foldl (visit g s) (b, q)) := by show _ = _; rw [HST1.out, if_neg fun h => k3 h.2.2]
                      go_wp2_with fail
                      go_roundw
                      case rel => exact ⟨jj + 1, st, qa', qc', by omega, by go_num, rfl, HS2, hB4, hQ4, hap4, hbe4, hneg4⟩
                      case measure => simp [intOf]; omega
                · have z1 : decide (0 < rm) = false := decide_eq_false k1
                  have HS2 : Hid (st = (m.take (jj + 1)).foldl (visit g s) (b, q)) := by show _ = _; rw [HST1.out, if_neg fun h => k1 h.1]
                  go_wp2_with fail
                  go_roundw
                  case rel => exact ⟨jj + 1, st, qa', qc', by omega, by go_num, rfl, HS2, hB4, hQ4, hap4, hbe4, hneg4⟩
                  case measure => simp [intOf]; omega
              · have hjm : jj = m.length := by omega
                have HS2 : Hid (st = m.foldl (visit g s) (b, q)) := by
                  have := hst.out
                  rw [hjm, List.take_of_length_le (Nat.le_refl _)] at this
                  exact this
                have HBY2 := Lib.hid (HBYS.out jj)
                subst hjm
                go_wp2_with fail
                go_roundg k
                case measure => omega
                case rel =>
                  have h5 := HBY2.out
                  rw [← hst.out] at h5
                  refine ⟨st.1, st.2, qa', qc', rfl, ?_, hB4.out, hQ4.out, hap4.out, h5.1, h5.2, hbe4.out, ?_⟩
                  · have := HBF.out
                    rw [← HS2.out] at this
                    exact this
                  · have := hneg4.out
                    show neg st.1 + st.2.length ≤ j + 1
                    omega
          · have hRb : Hid (R = b) := by
              have := hbf.out
              unfold bfs at this
              rw [hxd.out, if_neg hx0] at this
              exact (Option.some.inj this).symm
            have hbk : Hid (back g s b f t [] = some way) := by
              have := HW.out
              unfold routeF at this
              rw [← HNN.out, HR.out, hRb.out] at this
              simp only [hxd.out, if_neg hx0] at this
              exact this
            have hx1 : decide (x < 0) = false := decide_eq_false hx0
            go_wp2_with fail
            go_loopg [14, 15] f (fun k y z wr => ∃ (u : Nat) (l : List Nat) (la : Option Addr) (lc : Nat), y = .slice la l.length lc ∧ z = .int .i64 (u : Int) ∧ Hid (u < j) ∧ Hid (back g s b k u l = some way) ∧ Hid (Blk vi 3 wr w.heap.size b) ∧ Hid (Own vi w.heap.size 3 wr la l.length lc (l.map Int.ofNat)) ∧ Hid (∀ x, la = some x → x.block ≠ w.heap.size) ∧ Hid (Below w.heap.size w wr) ∧ Hid (l = [] → u ≠ s) ∧ Hid (l.length + k ≤ f))
            case atStart => exact ⟨t, [], none, 0, rfl, rfl, ht, hbk.out, hB.out, ⟨rfl, .inl ⟨rfl, rfl, rfl⟩⟩, (fun x hx => by cases hx), hbe.out, fun _ => hts.out, by show 0 + f ≤ f; omega⟩
            case round =>
              obtain ⟨u, l, la, lc, rfl, rfl, hu, hbk, hB, hO, hap2, hbe, hlu, hlf⟩ := hrel
              rename World => wb
              have hgk2 : gk ≠ 0 := by
                rintro rfl
                have := hbk.out
                unfold back at this
                cases this
              obtain ⟨k2, rfl⟩ : ∃ k2, gk = k2 + 1 := ⟨gk - 1, by omega⟩
              clear hgk2
              by_cases hus : u = s
              · have hwl : Hid (l = way) := by
                  have := hbk.out
                  unfold back at this
                  rw [if_pos hus] at this
                  exact Option.some.inj this
                have e1 : ((u : Int) != (s : Int)) = false := by simp; omega
                go_wp2_with fail
                go_ret
                refine ⟨hbe.out, .inr ⟨la, lc, ?_, ?_, ?_⟩⟩
                · rw [← hwl.out]; exact fun e => hlu.out e hus
                · rw [← hwl.out]; rfl
                · rw [← hwl.out]; exact hO.out
              · have e1 : ((u : Int) != (s : Int)) = true := by simp; omega
                have hub : b.getD u 0 = b.getD u 0 := rfl
                obtain ⟨x2, hx2⟩ : ∃ x2, b[u]? = some x2 := ⟨_, List.getElem?_eq_getElem (by rw [hby.out.1, ← HNN.out]; exact hu.out)⟩
                have hxd2 : b.getD u 0 = x2 := getD_of hx2
                have hbk2 := hbk.out
                unfold back at hbk2
                rw [if_neg hus, hxd2] at hbk2
                have hx20 : ¬ x2 < 0 := by
                  intro h
                  rw [if_pos h] at hbk2
                  cases hbk2
                rw [if_neg hx20] at hbk2
                obtain ⟨kk, hkk, hkx⟩ : ∃ kk : Nat, kk < g.arcs.length ∧ x2 = (kk : Int) := by
                  rcases hby.out.2 x2 (List.mem_of_getElem? hx2) with h | h
                  · omega
                  · exact h
                subst hkx
                rw [Int.toNat_natCast] at hbk2
                have hka := HOK.out.arcs
                have hk1 := HOK.out.even kk hkk
                obtain ⟨KX, hKX⟩ : ∃ KX, KX = kk ^^^ 1 := ⟨_, rfl⟩
                rw [← hKX] at hbk2 hk1
                have hc3 := hB.out.cell hx2
                unfold vi at hc3
                have HBK2 := Lib.hid hbk2; have HKL := Lib.hid hk1; have HX2 := Lib.hid hx2; have HKK := Lib.hid hkk
                have i5 : (u : Int) < (j : Int) := by have := hu.out; omega
                obtain ⟨ag, ac, a1, a2, a3, _⟩ := (HN.out.fw hbe.out).arcAt (k := KX) hk1
                have i6 : (KX : Int) < (g.arcs.length : Int) := by omega
                have HTP : Hid (g.tip KX < j) := by rw [HNN.out]; exact HOK.out.tips KX hk1
                have HKX := Lib.hid hKX
                have HLF := Lib.hid hlf.out
                have hll : l.length ≤ 100000 := by have := HF.out; have := hlf.out; omega
                clear hx2 hxd2 hbk2 hx20 hkk hk1 hKX hub hka
                have hba := below_alloc (.cells #[.int .i64 (kk : Int)] 3) (below_refl wb)
                have HBA := Lib.hid hba
                have HRN := Lib.hid (rd_new vi 3 wb [(kk : Int)] (n := 1) rfl (by omega))
                have HOA := Lib.hid (hO.out.fw hba)
                have hwb := hbe.out.size
                clear hba
                go_wp2_with (at_builtin; refine wpList_push rfl (.tmp 119) (.tmp 124) 26 rfl vi vi_one w.heap.size 3 i0 (.int .i64 0) 8 u0 hi0 hz0 hz1 hz2 rfl la l.length lc _ rfl HOA.out ⟨wb.heap.size, 0, none⟩ 1 1 [(kk : Int)] rfl HRN.out (by omega) (by unfold maxLen; omega) (by omega) (bt hbe.out HBA.out).size ?_; intro g7 c7 w7 hown hg7 hlies; have HBW7 : Hid (Below w.heap.size w w7) := (bt hbe.out HBA.out).grown hg7 (bt hbe.out HBA.out).size (fun y hy => by obtain ⟨z, hz, hzb⟩ := ownBlock_eq hy; rw [← hzb]; exact HOA.out.bge hz); have HB7 : Hid (Blk vi 3 w7 w.heap.size b) := (hg7.block _ (hB.out.fw HBA.out).lt (fun e => by obtain ⟨z, hz, hzb⟩ := ownBlock_eq e.symm; exact hap2.out z hz hzb)).trans (hB.out.fw HBA.out); have hap7 : Hid (∀ x, (some (⟨g7, 0, none⟩ : Addr)) = some x → x.block ≠ w.heap.size) := fun x hx => by { cases hx; rcases hlies with e | e; { obtain ⟨z, hz, hzb⟩ := ownBlock_eq e; rw [← hzb]; exact hap2.out z hz }; { intro e2; have := (hB.out.fw HBA.out).lt; change g7 = w.heap.size at e2; omega } }; have HO7 := Lib.hid hown; clear hown hg7 hlies)
                clear a1 a2 a3 hc3
                obtain ⟨ag7, ac7, a1, a2, a3, _⟩ := (HN.out.fw HBW7.out).arcAt HKL.out
                have hc3 := HB7.out.cell HX2.out
                unfold vi at hc3
                have QX := xor_one kk KX HKX.out (by have := HKK.out; have := HOK.out.arcs; omega)
                go_quiet (fail)
                have hb9 := fdrewN (below_refl w7) nq
                go_wp2_with fail
                go_roundg k2
                case measure => omega
                case rel =>
                  refine ⟨g.tip KX, l ++ [kk], some ⟨g7, 0, none⟩, c7, by simp, rfl, HTP.out, HBK2.out, HB7.out.fw hb9, ?_, hap7.out, bt HBW7.out hb9, fun e => by simp at e, ?_⟩
                  · rw [List.length_append, List.map_append]
                    exact HO7.out.fw hb9
                  · have := HLF.out
                    show (l ++ [kk]).length + k2 ≤ f
                    rw [List.length_append]
                    show l.length + 1 + k2 ≤ f
                    omega
end Go.Proofs.Ytpecepfnmkpmmaa
