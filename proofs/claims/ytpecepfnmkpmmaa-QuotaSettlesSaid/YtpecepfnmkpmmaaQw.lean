/- The reference's Cycle and Cancel. -/
import Derived.Test.YtpecepfnmkpmmaaQv
import Derived.Deep.LoopGhost
namespace Go.Proofs.Ytpecepfnmkpmmaa
open Go.RowKit Go.Kin Quo
set_option maxRecDepth 100000
set_option linter.unusedVariables false
theorem rd_other {α : Type} {f : α → Value} {w : World} {g o n c : Nat} {l : List α} (h : Rd f w (some ⟨g, o, none⟩) n c l) {p : Addr} (hp : g ≠ p.block) (v : Value) : Rd f (w.setCell p v) (some ⟨g, o, none⟩) n c l := by
  refine ⟨h.len, h.cap, h.max, h.none0, fun i x hx => ?_⟩
  obtain ⟨b2, o2, ha, hc⟩ := h.cell i x hx
  cases ha
  exact ⟨g, o, rfl, (World.cell?_setCell_far w p ⟨g, o + i, none⟩ v (fun e => hp e.symm)).trans hc⟩
set_option maxHeartbeats 1000000 in
theorem rcycle_any (ta : Option Addr) (n tc : Nat) (T : Tab) (w : World) (h : RdT w ta n tc T) (hT : VT T) :
    Calls Try.prog 44 #[.slice ta n tc] w (GivesC w.heap.size w (cycF T)) := by
  have hq : ∀ (w : World) (a : Option Addr) (l c : Nat), (binOp .neq 26 (.slice a l c) (.slice none 0 0)).run Try.prog w = .ok (.bool (!a.isNone)) w := fun w a l c => run_neq_slice_nil_any w _ _ a l c 0 0 Try.underlying26
  have hn12 : n ≤ 12 := by have := hT.1; rw [h.len] at this; exact this
  have HH := Lib.hid h
  have hlen := Lib.hid h.len
  have HT := Lib.hid hT
  clear h hT
  go_enter Try.func44, Try.ntmps44
  go_wp2_with fail
  go_loopw [3, 4, 5] (fun z _ _ wr => ∃ len : Nat, 2 ≤ len ∧ (len ≤ n + 1 ∨ len = 2) ∧ z = .int .i64 (len : Int) ∧ Hid ((List.range' len (n + 1 - len)).findSome? (cycL T) = cycF T) ∧ Hid (Below w.heap.size w wr)) (fun z _ _ _ => n + 2 - (intOf z).toNat)
  case atStart =>
    refine ⟨2, Nat.le_refl _, .inr rfl, rfl, ?_, below_refl w⟩
    have : n + 1 - 2 = n - 1 := by omega
    rw [this, ← hlen.out]; exact rfl
  case round =>
    obtain ⟨len, hl2, hl3, rfl, hfs, hbe⟩ := hrel
    rename World => wo
    by_cases hlt : len ≤ n
    · have i2 : (len : Int) ≤ (n : Int) := by omega
      have hsp := findSome_range (cycL T) len (n - len)
      rw [show n - len + 1 = n + 1 - len by omega, hfs.out] at hsp
      have HSP := Lib.hid hsp
      clear hsp
      have hzero : Hid ((List.range' 0 (n - 0)).findSome? (cyc1 T len) = cycL T len) := by
        show _ = (List.range' 0 T.length).findSome? _
        rw [hlen.out]; rfl
      go_wp2_with fail
      go_loopw [4, 5] (fun z _ wr => ∃ f : Nat, f ≤ n ∧ z = .int .i64 (f : Int) ∧ Hid ((List.range' f (n - f)).findSome? (cyc1 T len) = cycL T len) ∧ Hid (Below w.heap.size w wr)) (fun z _ _ => n - (intOf z).toNat)
      case atStart => exact ⟨0, by omega, rfl, hzero.out, hbe.out⟩
      case round =>
        obtain ⟨f, hfn, rfl, hff, hbe2⟩ := hrel
        by_cases hlf : f < n
        · have j2 : (f : Int) < (n : Int) := by omega
          have hsp := findSome_range (cyc1 T len) f (n - (f + 1))
          rw [show n - (f + 1) + 1 = n - f by omega, hff.out] at hsp
          have HSF := Lib.hid hsp
          have hba := below_alloc (.cells (row vi [(f : Int)]) 3 (0, 0)) (below_refl wr)
          have HB1 := Lib.hid (bt hbe2.out hba)
          have HH1 := Lib.hid (HH.out.fw HB1.out)
          have HN1 := Lib.hid (rd_new vi 3 wr [(f : Int)] (n := 1) rfl (by omega))
          have HPA : Hid (Path n [f]) := ⟨by simp, by simpa using hlf, by simp⟩
          have HLI : Hid ((len : Int) = ((1 + (len - 1) : Nat) : Int)) := by show (len : Int) = _; omega
          have hl13 : 1 + (len - 1) ≤ 13 := by omega
          clear hsp hba
          cases hRk : ext T (len - 1) [f] with
          | none =>
            have HRK := Lib.hid hRk
            have hnx : Hid ((List.range' (f + 1) (n - (f + 1))).findSome? (cyc1 T len) = cycL T len) := by
              have := HSF.out
              unfold cyc1 at this ⊢
              rw [hRk] at this; exact this.symm
            go_wp2_with (go_at_call 57; refine (rext_any _ n tc T HT.out (len - 1) [f] w.heap.size wr.heap.size 0 1 1 _ hbe2.out.size HB1.out.size HH1.out HPA.out rfl hl13 HN1.out _ HLI.out).mono ?_; intro e w6 hA; obtain ⟨rfl, hb6⟩ := hA.no HRK.out; have HB6 := Lib.hid (bt HB1.out hb6); clear hA hb6)
            go_roundw
            case rel => exact ⟨f + 1, by omega, by go_num, hnx, HB6⟩
            case measure => simp [intOf]; omega
          | some q =>
            have HRK := Lib.hid hRk
            have hRq : Hid (cycF T = some q) := by
              have h1 := HSF.out
              have h2 : cyc1 T len f = some q := hRk
              rw [h2] at h1
              have h3 := HSP.out
              rw [h1] at h3
              exact h3
            obtain ⟨L, hL⟩ : ∃ L, L = q.length := ⟨_, rfl⟩
            have HL := Lib.hid hL
            clear hL
            go_wp2_with (go_at_call 57; refine (rext_any _ n tc T HT.out (len - 1) [f] w.heap.size wr.heap.size 0 1 1 _ hbe2.out.size HB1.out.size HH1.out HPA.out rfl hl13 HN1.out _ HLI.out).mono ?_; intro e w6 hA; obtain ⟨g8, o8, c8, rfl, hg8, hr8, hb8⟩ := hA.yes HRK.out L HL.out; have B8 := Lib.hid (bt HB1.out hb8); have R8 := Lib.hid hr8; have G8 := Lib.hid hg8; clear hA hb8 hr8 hg8)
            go_ret
            have h1 := HL.out
            subst h1
            exact ⟨B8.out, .inr ⟨q, g8, o8, c8, hRq.out, rfl, G8.out, R8.out⟩⟩
        · have hfn2 : f = n := by omega
          subst hfn2
          have hnone : cycL T len = none := by have := hff.out; rw [Nat.sub_self] at this; exact this.symm
          have hnx : Hid ((List.range' (len + 1) (f + 1 - (len + 1))).findSome? (cycL T) = cycF T) := by
            have := HSP.out
            rw [hnone] at this
            rw [show f + 1 - (len + 1) = f - len by omega]
            exact this.symm
          go_wp2_with fail
          go_roundw
          case rel => exact ⟨len + 1, by omega, by omega, by go_num, hnx, hbe2⟩
          case measure => simp [intOf]; omega
    · have hnone : Hid (cycF T = none) := by
        have := hfs.out
        rw [show n + 1 - len = 0 by omega] at this
        exact this.symm
      go_wp2_with fail
      go_ret
      exact ⟨hbe.out, .inl ⟨hnone.out, rfl⟩⟩
set_option maxHeartbeats 2000000 in
theorem rcancel_any (ta : Option Addr) (n tc : Nat) (T : Tab) (w : World) (h : RdT w ta n tc T) (hT : VT T) :
    Calls Try.prog 25 #[.slice ta n tc] w fun e w' => ∃ g zc T', e = .returned (.slice (some ⟨g, 0, none⟩) n zc) ∧ Canc T T' ∧ VT T' ∧ OwnT w' w.heap.size (some ⟨g, 0, none⟩) n zc T' ∧ Below w.heap.size w w' := by
  have hn12 : n ≤ 12 := by have := hT.1; rw [h.len] at this; exact this
  have HH := Lib.hid h
  have hlen := Lib.hid h.len
  have HT := Lib.hid hT
  have hd := decide_eq_true hT
  have hq : ∀ (w : World) (a : Option Addr) (l c : Nat), (binOp .eql 26 (.slice a l c) (.slice none 0 0)).run Try.prog w = .ok (.bool a.isNone) w := fun w a l c => run_eql_slice_nil w _ _ a l c Try.underlying26
  clear h hT
  go_enter Try.func25, Try.ntmps25
  go_wp2_with (go_at_call 31; refine (clone_any _ _ _ T _ HH.out HT.out).mono ?_; rintro e w2 ⟨g, zc, rfl, hO, hb2⟩; have HO := Lib.hid hO; have HB := Lib.hid hb2; clear hO hb2)
  go_loopg [4, 5, 6, 7] (nz T) (fun k _ _ _ _ wr => ∃ S : Tab, Hid (k = nz S) ∧ Hid (VT S) ∧ Hid (∀ T', Canc S T' → Canc T T') ∧ Hid (OwnT wr w.heap.size (some ⟨g, 0, none⟩) n zc S) ∧ Hid (Below w.heap.size w wr))
  case atStart => exact ⟨T, rfl, HT.out, fun T' h => h, HO.out, HB.out⟩
  case round =>
    obtain ⟨S, hk, hS, hC, hO, hbe⟩ := hrel
    rename World => wo
    have hSl := Lib.hid hO.out.len
    have HR := Lib.hid hO.out.rdt
    cases hcy : cycF S with
    | none =>
      have HCY := Lib.hid hcy
      go_wp2_with (go_at_call 44; refine (rcycle_any _ n zc S _ HR.out hS.out).mono ?_; intro e w6 hA; obtain ⟨rfl, hb6⟩ := hA.no HCY.out; have HB6 := Lib.hid hb6; clear hb6)
      go_ret
      exact ⟨g, zc, S, rfl, hC.out _ (.done HCY.out), hS.out, hO.out.fw HB6.out, bt hbe.out HB6.out⟩
    | some c =>
      have HCY := Lib.hid hcy
      have hci := (cycF_is hcy).1
      have hcl := (cycF_is hcy).2
      have HCI := Lib.hid hci; have HCL := Lib.hid hcl
      obtain ⟨L, hL⟩ : ∃ L, L = c.length := ⟨_, rfl⟩
      have h2L : 2 ≤ L := by rw [hL]; exact hci.two
      have hL12 : L ≤ 12 := by rw [hL]; rw [hSl.out] at hcl; omega
      have HL := Lib.hid hL
      have hL0 : (L : Int) ≠ 0 := by omega
      have hLn : (L = 0) = False := by simp; omega
      clear hci hcl hL
      go_wp2_with (go_at_call 44; refine (rcycle_any _ n zc S _ HR.out hS.out).mono ?_; intro e w6 hA; obtain ⟨gc, oc, fc, rfl, hgc, hown, hb6⟩ := hA.yes HCY.out L HL.out; have HGC := Lib.hid hgc; have HB6 := Lib.hid hb6; have HW6 := Lib.hid hown; clear hb6 hown)
      have HO6 := Lib.hid (hO.out.up.fw HB6.out)
      have HWB := Lib.hid (bt hbe.out HB6.out)
      have HBO := Lib.hid hbe.out.size
      clear hO hbe HR
      go_loopw [5, 6] (fun x6 z wr => ∃ j : Nat, j ≤ L ∧ z = .int .i64 (j : Int) ∧ x6 = .int .i64 (leastF S c j) ∧ Hid (OwnTU wr w.heap.size wo.heap.size (some ⟨g, 0, none⟩) n zc S) ∧ Hid (Rd vi wr (some ⟨gc, oc, none⟩) L fc (c.map Int.ofNat)) ∧ Hid (Below w.heap.size w wr)) (fun _ z _ => L - (intOf z).toNat)
      case atStart => exact ⟨0, by omega, rfl, rfl, HO6.out, HW6.out, HWB.out⟩
      case round =>
        obtain ⟨j, hj, rfl, rfl, hO, hW, hbe⟩ := hrel
        by_cases hlt : j < L
        · have i2 : (j : Int) < (L : Int) := by omega
          have hjc : j < c.length := by rw [← HL.out]; exact hlt
          obtain ⟨a, ha⟩ : ∃ a, a = elC c j := ⟨_, rfl⟩
          obtain ⟨b, hb⟩ : ∃ b, b = nxt c j := ⟨_, rfl⟩
          obtain ⟨J, hJ⟩ : ∃ J, J = (j + 1) % L := ⟨_, rfl⟩
          have hJL : J < L := by rw [hJ]; exact Nat.mod_lt _ (by omega)
          have haT : a < S.length := by rw [ha]; exact HCI.out.lt _ (elC_mem hjc)
          have hbT : b < S.length := by rw [hb]; exact HCI.out.lt _ (nxt_mem hjc)
          obtain ⟨r, hr, hrl, hrx, x0, x1⟩ := hS.out.cell haT hbT
          obtain ⟨x, hx⟩ : ∃ x, x = at2 S a b := ⟨_, rfl⟩
          rw [← hx] at hrx x0 x1
          obtain ⟨o', gr, rc, e1, _, _, _, c1, c2, f2, hset, _⟩ := hO.out.at hr hrx
          cases e1
          rw [hrl, hSl.out] at c1
          obtain ⟨gc', oc', e2, c3⟩ := hW.out.cell (i := j) (x := (a : Int)) (by rw [List.getElem?_map, elC_some hjc, ← ha]; rfl)
          cases e2
          obtain ⟨gc', oc', e2, c4⟩ := hW.out.cell (i := J) (x := (b : Int)) (by rw [List.getElem?_map, elC_some (show J < c.length by rw [← HL.out]; exact hJL), hb, hJ, HL.out]; rfl)
          cases e2
          unfold vi at c3 c4
          have k1 : (a : Int) < (n : Int) := by rw [hSl.out] at haT; omega
          have k2 : (b : Int) < (n : Int) := by rw [hSl.out] at hbT; omega
          have k3 : IntKind.i64.wrap ((j : Int) + 1) = (j : Int) + 1 := by rw [IntKind.wrap_i64]; omega
          have k4 : wrap64 ((j : Int) + 1) = (j : Int) + 1 := by unfold wrap64; omega
          have k5 : ((j : Int) + 1).tmod (L : Int) = (J : Int) := by rw [hJ]; rfl
          have k6 : ((j : Int) + 1) % (L : Int) = (J : Int) := by rw [hJ]; rfl
          have k7 : (J : Int) < (L : Int) := by omega
          have HN : Hid (min (leastF S c j) x = leastF S c (j + 1)) := by
            have : leastF S c (j + 1) = min (leastF S c j) (at2 S (elC c j) (nxt c j)) := rfl
            rw [hx, ha, hb]; exact this.symm
          obtain ⟨y, hy⟩ : ∃ y, y = leastF S c j := ⟨_, rfl⟩
          obtain ⟨y1, hy1⟩ : ∃ y1, y1 = leastF S c (j + 1) := ⟨_, rfl⟩
          have HY1 := Lib.hid hy1
          rw [← hy, ← hy1] at HN
          rw [← hy]
          clear hy1
          clear hr hrl hrx x0 x1 hx hset hJ ha hb haT hbT hy
          go_wp2_with fail
          go_still_tail 18, (by kernel_rfl)
          change wpList _ _ _ _ _ wr.drew
          refine wpList_min2 rfl (.tmp 21) (.tmp 38) 3 rfl y x rfl rfl ?_
          rw [HN.out]
          go_wp2_with fail
          clear k3 k4 k5 k6
          refine ⟨⟨j + 1, by omega, by go_num, by rw [HY1.out], hO.out.fw (fdrewN (below_refl wr) 1), hW.out.fw (fdrewN (below_refl wr) 1), fdrewN hbe.out 1⟩, ?_⟩
          simp [intOf]; omega
        · have hjL : j = L := by omega
          subst hjL
          obtain ⟨X, hX⟩ : ∃ X, X = leastF S c j := ⟨_, rfl⟩
          rw [← hX]
          have HX : Hid (X = leastF S c c.length) := by rw [← HL.out]; exact hX
          clear hX
          go_wp2_with fail
          rename World => wp
          go_loopw [7] (fun z wr => ∃ t : Nat, t ≤ j ∧ z = .int .i64 (t : Int) ∧ Hid (OwnTU wr w.heap.size wo.heap.size (some ⟨g, 0, none⟩) n zc (cutF S c X t)) ∧ Hid (Rd vi wr (some ⟨gc, oc, none⟩) j fc (c.map Int.ofNat)) ∧ Hid (Below w.heap.size w wr)) (fun z _ => j - (intOf z).toNat)
          case atStart => exact ⟨0, by omega, rfl, hO.out, hW.out, hbe.out⟩
          case round =>
            obtain ⟨t, ht, rfl, hO, hW, hbe⟩ := hrel
            by_cases hlt2 : t < j
            · have i2 : (t : Int) < (j : Int) := by omega
              have htc : t < c.length := by rw [← HL.out]; exact hlt2
              obtain ⟨V, hV⟩ : ∃ V, V = cutF S c X t := ⟨_, rfl⟩
              have hVT : VT V := by rw [hV, HX.out]; exact cutF_vt hS.out HCI.out t (by omega)
              have hVl : V.length = n := by rw [hV, (cutF_sq hS.out.sq HCI.out.lt t (by omega)).1]; exact hSl.out
              rw [← hV] at hO
              obtain ⟨a, ha⟩ : ∃ a, a = elC c t := ⟨_, rfl⟩
              obtain ⟨b, hb⟩ : ∃ b, b = nxt c t := ⟨_, rfl⟩
              obtain ⟨J, hJ⟩ : ∃ J, J = (t + 1) % j := ⟨_, rfl⟩
              have hJL : J < j := by rw [hJ]; exact Nat.mod_lt _ (by omega)
              have haT : a < V.length := by rw [hVl, ← hSl.out, ha]; exact HCI.out.lt _ (elC_mem htc)
              have hbT : b < V.length := by rw [hVl, ← hSl.out, hb]; exact HCI.out.lt _ (nxt_mem htc)
              obtain ⟨r, hr, hrl, hrx, x0, x1⟩ := hVT.cell haT hbT
              obtain ⟨x, hx⟩ : ∃ x, x = at2 V a b := ⟨_, rfl⟩
              rw [← hx] at hrx x0 x1
              obtain ⟨o', gr, rc, e1, hBo, hBg, hgU, c1, c2, f2, hset, _⟩ := hO.out.at hr hrx
              cases e1
              rw [hrl, hVl] at c1
              obtain ⟨gc', oc', e2, c3⟩ := hW.out.cell (i := t) (x := (a : Int)) (by rw [List.getElem?_map, elC_some htc, ← ha]; rfl)
              cases e2
              obtain ⟨gc', oc', e2, c4⟩ := hW.out.cell (i := J) (x := (b : Int)) (by rw [List.getElem?_map, elC_some (show J < c.length by rw [← HL.out]; exact hJL), hb, hJ, HL.out]; rfl)
              cases e2
              unfold vi at c3 c4
              have k1 : (a : Int) < (n : Int) := by rw [hVl] at haT; omega
              have k2 : (b : Int) < (n : Int) := by rw [hVl] at hbT; omega
              have k3 : IntKind.i64.wrap ((t : Int) + 1) = (t : Int) + 1 := by rw [IntKind.wrap_i64]; omega
              have k4 : wrap64 ((t : Int) + 1) = (t : Int) + 1 := by unfold wrap64; omega
              have k5 : ((t : Int) + 1).tmod (j : Int) = (J : Int) := by rw [hJ]; rfl
              have k6 : ((t : Int) + 1) % (j : Int) = (J : Int) := by rw [hJ]; rfl
              have k7 : (J : Int) < (j : Int) := by omega
              have hXb := leastF_le (T := S) (c := c) c.length
              have hXp := least_pos hS.out HCI.out c.length (Nat.le_refl _)
              rw [← HX.out] at hXb hXp
              have hXm := hXb.1
              unfold maxC at hXm x1
              have k8 : IntKind.i64.wrap (x - X) = x - X := by rw [IntKind.wrap_i64]; omega
              have k9 : wrap64 (x - X) = x - X := by unfold wrap64; omega
              have HN : Hid (V.set a (r.set b (x - X)) = cutF S c X (t + 1)) := by
                have e1 : cutF S c X (t + 1) = put2 (cutF S c X t) (elC c t) (nxt c t) (at2 (cutF S c X t) (elC c t) (nxt c t) - X) := rfl
                rw [← hV, ← ha, ← hb, ← hx] at e1
                rw [e1]
                unfold put2
                rw [getD_of hr]; rfl
              have HSET := Lib.hid (hset (x - X))
              have HGU := Lib.hid hgU; have HBG := Lib.hid hBg
              clear hr hrl hrx x0 x1 hx hset hJ ha hb haT hbT hV hVT hXb hXp hXm hgU hBg hBo
              go_wp2_with fail
              go_still_tail 20, (by kernel_rfl)
              change wpList _ _ _ _ _ wr.drew
              have c2d : wr.drew.cell? ⟨gr, b, none⟩ = some (.int .i64 x) := c2
              have f2d : wr.drew.frozen? ⟨gr, b, none⟩ = false := f2
              go_wp2_with fail
              clear k3 k4 k5 k6 k8 k9
              go_roundw
              case rel =>
                have hb1 := fdrewN (below_refl (wr.setCell ⟨gr, b, none⟩ (.int .i64 (x - X)))) 1
                refine ⟨t + 1, by omega, by go_num, ?_, ?_, fdrewN (hbe.out.setCell (p := ⟨gr, b, none⟩) HBG.out _) 1⟩
                · rw [← HN.out]
                  exact HSET.out.fw hb1
                · refine (rd_other hW.out (p := ⟨gr, b, none⟩) ?_ _).fw hb1
                  have := HGU.out; have := HGC.out
                  show gc ≠ gr
                  omega
              case measure => simp [intOf]; omega
            · have htj : t = j := by omega
              subst htj
              have HCC : Hid (cutF S c X t = cutC S c) := by unfold cutC; rw [← HX.out, ← HL.out]; rfl
              rw [HCC.out] at hO
              have HNZ := Lib.hid (cutC_nz hS.out HCI.out)
              have HVC := Lib.hid (cutC_vt hS.out HCI.out)
              go_wp2_with fail
              go_roundg (nz (cutC S c))
              case measure => rw [hk.out]; exact HNZ.out
              case rel => exact ⟨cutC S c, rfl, HVC.out, fun T' h => hC.out _ (.step HCY.out h), hO.out.own, hbe.out⟩
end Go.Proofs.Ytpecepfnmkpmmaa
