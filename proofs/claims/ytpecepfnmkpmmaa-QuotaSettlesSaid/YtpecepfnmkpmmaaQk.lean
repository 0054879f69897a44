/- quota: Cancel. -/
import Derived.Test.YtpecepfnmkpmmaaQj
import Derived.Deep.LoopGhost
import Derived.Lib.LazyBuf
namespace Go.Proofs.Ytpecepfnmkpmmaa
open Go.RowKit Go.Kin Quo
set_option maxRecDepth 100000
set_option linter.unusedVariables false

theorem run_min2 (ats : Array TypeId) (ty : TypeId) (x y : Int) (w : World) : (Builtin.min_ ats ty #[.int .i64 x, .int .i64 y]).run Try.prog w = .ok (.int .i64 (min x y)) w := by
  have e : (if y < x then y else x) = min x y := by split <;> omega
  rw [← e]
  simp [Builtin.min_, Builtin.min2]
theorem run_max2 (ats : Array TypeId) (ty : TypeId) (x y : Int) (w : World) : (Builtin.max_ ats ty #[.int .i64 x, .int .i64 y]).run Try.prog w = .ok (.int .i64 (max x y)) w := by
  have e : (if x < y then y else x) = max x y := by split <;> omega
  rw [← e]
  simp [Builtin.max_, Builtin.max2]
theorem wpList_min2 {w : World} {ops : Array Oper} {rest : List Oper} {o : Oper} {a : Act} {Q : Exit → Act → World → Prop} (hgd : o.guard = none) (s x : Operand) (t : TypeId)
    (ho : o.op = .call { callee := .builtin .min, args := #[s, x], argTypes := #[t, t] }) (p q : Int) (hs : a.eval s = .int .i64 p) (hx : a.eval x = .int .i64 q)
    (h : wpList Try.prog ops Q rest (a.put o.dst (.int .i64 (min p q))) w) : wpList Try.prog ops Q (o :: rest) a w := by
  refine wpList_plain hgd fun K hK => ?_
  have hr := run_min2 #[t, t] o.type p q w
  unfold Oper.wp
  simp [execOp, ho, resolve, invoke, builtin, hs, hx, hr, Result.andThen]
  exact hK _ _ h
theorem wpList_max2 {w : World} {ops : Array Oper} {rest : List Oper} {o : Oper} {a : Act} {Q : Exit → Act → World → Prop} (hgd : o.guard = none) (s x : Operand) (t : TypeId)
    (ho : o.op = .call { callee := .builtin .max, args := #[s, x], argTypes := #[t, t] }) (p q : Int) (hs : a.eval s = .int .i64 p) (hx : a.eval x = .int .i64 q)
    (h : wpList Try.prog ops Q rest (a.put o.dst (.int .i64 (max p q))) w) : wpList Try.prog ops Q (o :: rest) a w := by
  refine wpList_plain hgd fun K hK => ?_
  have hr := run_max2 #[t, t] o.type p q w
  unfold Oper.wp
  simp [execOp, ho, resolve, invoke, builtin, hs, hx, hr, Result.andThen]
  exact hK _ _ h
theorem own_some {w : World} {B : Nat} {a : Option Addr} {n c : Nat} {l : List Int} (h : Own vi B 3 w a n c l) (hn : 0 < n) : ∃ g, a = some ⟨g, 0, none⟩ := by
  obtain ⟨g, hg, _⟩ := h.pre hn
  exact ⟨g, hg⟩

theorem cyc_none (ta : Option Addr) (n tc : Nat) (T : Tab) (w : World) (h : RdT w ta n tc T) (hT : VT T) (hc : cycF T = none) :
    Calls Try.prog 43 #[.slice ta n tc] w fun e w' => e = .returned (.slice none 0 0) ∧ Below w.heap.size w w' := by
  refine (cyc_any ta n tc T w h hT).mono fun e w' hh => ?_
  obtain ⟨hb, ⟨_, h2⟩ | ⟨q, fa, fc, h1, _⟩⟩ := hh
  · exact ⟨h2, hb⟩
  · rw [hc] at h1; cases h1
theorem cyc_some (ta : Option Addr) (n tc : Nat) (T : Tab) (w : World) (h : RdT w ta n tc T) (hT : VT T) {c : List Nat} (hc : cycF T = some c) (L : Nat) (hL : L = c.length) :
    Calls Try.prog 43 #[.slice ta n tc] w fun e w' => ∃ gc fc, e = .returned (.slice (some ⟨gc, 0, none⟩) L fc) ∧ Own vi w.heap.size 3 w' (some ⟨gc, 0, none⟩) L fc (c.map Int.ofNat) ∧ Below w.heap.size w w' := by
  refine (cyc_any ta n tc T w h hT).mono fun e w' hh => ?_
  obtain ⟨hb, ⟨h1, _⟩ | ⟨q, fa, fc, h1, h2, h3⟩⟩ := hh
  · rw [hc] at h1; cases h1
  · rw [hc] at h1
    cases h1
    subst hL
    obtain ⟨gc, rfl⟩ := own_some h3 (by have := (cycF_is hc).1.two; omega)
    exact ⟨gc, fc, h2, h3, hb⟩

set_option maxHeartbeats 2000000 in
theorem cancel_ok (ta : Option Addr) (n tc : Nat) (T : Tab) (w : World) (h : RdT w ta n tc T) (hT : VT T) :
    Calls Try.prog 23 #[.slice ta n tc] w fun e w' => ∃ g T', e = .returned (.tuple #[.slice (some ⟨g, 0, none⟩) n n, .int .i64 0]) ∧ Canc T T' ∧ VT T' ∧ OwnT w' w.heap.size (some ⟨g, 0, none⟩) n n T' ∧ Below w.heap.size w w' := by
  have hn12 : n ≤ 12 := by have := hT.1; rw [h.len] at this; exact this
  have HH := Lib.hid h
  have hlen := Lib.hid h.len
  have HT := Lib.hid hT
  have hd := decide_eq_true hT
  have hq : ∀ (w : World) (a : Option Addr) (l c : Nat), (binOp .eql 26 (.slice a l c) (.slice none 0 0)).run Try.prog w = .ok (.bool a.isNone) w := fun w a l c => run_eql_slice_nil w _ _ a l c Try.underlying26
  clear h hT
  go_enter Try.func23, Try.ntmps23
  go_wp2_with (first
    | (go_at_call 15; refine (valid_any _ _ _ T _ HH.out).mono ?_; rw [hd]; rintro e w' ⟨rfl, rfl⟩)
    | (go_at_call 42; refine (copy_any _ _ _ T _ HH.out HT.out).mono ?_; rintro e w2 ⟨g, rfl, hO, hb2⟩; have HO := Lib.hid hO; have HB := Lib.hid hb2; clear hO hb2))
  go_loopg [5] (nz T) (fun k _ wr => ∃ S : Tab, Hid (k = nz S) ∧ Hid (VT S) ∧ Hid (∀ T', Canc S T' → Canc T T') ∧ Hid (OwnT wr w.heap.size (some ⟨g, 0, none⟩) n n S) ∧ Hid (Below w.heap.size w wr))
  case atStart => exact ⟨T, rfl, HT.out, fun T' h => h, HO.out, HB.out⟩
  case round =>
    obtain ⟨S, hk, hS, hC, hO, hbe⟩ := hrel
    rename World => wo
    have hSl := Lib.hid hO.out.len
    have HR := Lib.hid hO.out.rdt
    cases hcy : cycF S with
    | none =>
      have HCY := Lib.hid hcy
      go_wp2_with (go_at_call 43; refine (cyc_none _ n n S _ HR.out hS.out HCY.out).mono ?_; rintro e w6 ⟨rfl, hb6⟩; have HB6 := Lib.hid hb6; clear hb6)
      go_ret2
      exact ⟨g, S, rfl, hC.out _ (.done HCY.out), hS.out, hO.out.fw HB6.out, bt hbe.out HB6.out⟩
    | some c =>
      have HCY := Lib.hid hcy
      have hci := (cycF_is hcy).1
      have hcl := (cycF_is hcy).2
      have HCI := Lib.hid hci; have HCL := Lib.hid hcl
      obtain ⟨L, hL⟩ : ∃ L, L = c.length := ⟨_, rfl⟩
      have h2L : 2 ≤ L := by rw [hL]; exact hci.two
      have hL12 : L ≤ 12 := by rw [hL]; rw [hSl.out] at hcl; omega
      have HL := Lib.hid hL
      have hL0 : (L : Int) ≠ 0 := by omega
      have hLn : (L = 0) = False := by simp; omega
      clear hci hcl hL
      go_wp2_with (go_at_call 43; refine (cyc_some _ n n S _ HR.out hS.out HCY.out L HL.out).mono ?_; rintro e w6 ⟨gc, fc, rfl, hown, hb6⟩; have HB6 := Lib.hid hb6; have HW6 := Lib.hid hown; clear hb6 hown)
      have HO6 := Lib.hid (hO.out.up.fw HB6.out)
      have HWB := Lib.hid (bt hbe.out HB6.out)
      have HBO := Lib.hid hbe.out.size
      clear hO hbe HR
      go_loopw [6, 23] (fun x6 z wr => ∃ j : Nat, j ≤ L ∧ z = .int .i64 (j : Int) ∧ x6 = .int .i64 (leastF S c j) ∧ Hid (OwnTU wr w.heap.size wo.heap.size (some ⟨g, 0, none⟩) n n S) ∧ Hid (Own vi wo.heap.size 3 wr (some ⟨gc, 0, none⟩) L fc (c.map Int.ofNat)) ∧ Hid (Below w.heap.size w wr)) (fun _ z _ => L - (intOf z).toNat)
      case atStart => exact ⟨0, by omega, rfl, rfl, HO6.out, HW6.out, HWB.out⟩
      case round =>
        obtain ⟨j, hj, rfl, rfl, hO, hW, hbe⟩ := hrel
        by_cases hlt : j < L
        · have i2 : (j : Int) < (L : Int) := by omega
          have hjc : j < c.length := by rw [← HL.out]; exact hlt
          obtain ⟨a, ha⟩ : ∃ a, a = elC c j := ⟨_, rfl⟩
          obtain ⟨b, hb⟩ : ∃ b, b = nxt c j := ⟨_, rfl⟩
          obtain ⟨J, hJ⟩ : ∃ J, J = (j + 1) % L := ⟨_, rfl⟩
          have hJL : J < L := by rw [hJ]; exact Nat.mod_lt _ (by omega)
          have haT : a < S.length := by rw [ha]; exact HCI.out.lt _ (elC_mem hjc)
          have hbT : b < S.length := by rw [hb]; exact HCI.out.lt _ (nxt_mem hjc)
          obtain ⟨r, hr, hrl, hrx, x0, x1⟩ := hS.out.cell haT hbT
          obtain ⟨x, hx⟩ : ∃ x, x = at2 S a b := ⟨_, rfl⟩
          rw [← hx] at hrx x0 x1
          obtain ⟨o', gr, rc, e1, _, _, _, c1, c2, f2, hset, _⟩ := hO.out.at hr hrx
          cases e1
          rw [hrl, hSl.out] at c1
          obtain ⟨gc', e2, _, c3, _, _⟩ := hW.out.cell (i := j) (x := (a : Int)) (by rw [List.getElem?_map, elC_some hjc, ← ha]; rfl)
          cases e2
          obtain ⟨gc', e2, _, c4, _, _⟩ := hW.out.cell (i := J) (x := (b : Int)) (by rw [List.getElem?_map, elC_some (show J < c.length by rw [← HL.out]; exact hJL), hb, hJ, HL.out]; rfl)
          cases e2
          unfold vi at c3 c4
          have k1 : (a : Int) < (n : Int) := by rw [hSl.out] at haT; omega
          have k2 : (b : Int) < (n : Int) := by rw [hSl.out] at hbT; omega
          have k3 : IntKind.i64.wrap ((j : Int) + 1) = (j : Int) + 1 := by rw [IntKind.wrap_i64]; omega
          have k4 : wrap64 ((j : Int) + 1) = (j : Int) + 1 := by unfold wrap64; omega
          have k5 : ((j : Int) + 1).tmod (L : Int) = (J : Int) := by rw [hJ]; rfl
          have k6 : ((j : Int) + 1) % (L : Int) = (J : Int) := by rw [hJ]; rfl
          have k7 : (J : Int) < (L : Int) := by omega
          have HN : Hid (min (leastF S c j) x = leastF S c (j + 1)) := by
            have : leastF S c (j + 1) = min (leastF S c j) (at2 S (elC c j) (nxt c j)) := rfl
            rw [hx, ha, hb]; exact this.symm
          obtain ⟨y, hy⟩ : ∃ y, y = leastF S c j := ⟨_, rfl⟩
          obtain ⟨y1, hy1⟩ : ∃ y1, y1 = leastF S c (j + 1) := ⟨_, rfl⟩
          have HY1 := Lib.hid hy1
          rw [← hy, ← hy1] at HN
          rw [← hy]
          clear hy1
          clear hr hrl hrx x0 x1 hx hset hJ ha hb haT hbT hy
          go_wp2_with fail
          go_still_tail 15, (by kernel_rfl)
          change wpList _ _ _ _ _ wr.drew
          refine wpList_min2 rfl (.tmp 28) (.tmp 42) 3 rfl y x rfl rfl ?_
          rw [HN.out]
          go_wp2_with fail
          clear k3 k4 k5 k6
          refine ⟨⟨j + 1, by omega, by go_num, by rw [HY1.out], hO.out.fw (fdrewN (below_refl wr) 1), hW.out.fw (fdrewN (below_refl wr) 1), fdrewN hbe.out 1⟩, ?_⟩
          simp [intOf]; omega
        · have hjL : j = L := by omega
          subst hjL
          obtain ⟨X, hX⟩ : ∃ X, X = leastF S c j := ⟨_, rfl⟩
          rw [← hX]
          have HX : Hid (X = leastF S c c.length) := by rw [← HL.out]; exact hX
          clear hX
          go_wp2_with fail
          rename World => wp
          go_loopw [47] (fun z wr => ∃ t : Nat, t ≤ j ∧ z = .int .i64 (t : Int) ∧ Hid (OwnTU wr w.heap.size wo.heap.size (some ⟨g, 0, none⟩) n n (cutF S c X t)) ∧ Hid (Own vi wo.heap.size 3 wr (some ⟨gc, 0, none⟩) j fc (c.map Int.ofNat)) ∧ Hid (Below w.heap.size w wr)) (fun z _ => j - (intOf z).toNat)
          case atStart => exact ⟨0, by omega, rfl, hO.out, hW.out, hbe.out⟩
          case round =>
            obtain ⟨t, ht, rfl, hO, hW, hbe⟩ := hrel
            by_cases hlt2 : t < j
            · have i2 : (t : Int) < (j : Int) := by omega
              have htc : t < c.length := by rw [← HL.out]; exact hlt2
              obtain ⟨V, hV⟩ : ∃ V, V = cutF S c X t := ⟨_, rfl⟩
              have hVT : VT V := by rw [hV, HX.out]; exact cutF_vt hS.out HCI.out t (by omega)
              have hVl : V.length = n := by rw [hV, (cutF_sq hS.out.sq HCI.out.lt t (by omega)).1]; exact hSl.out
              rw [← hV] at hO
              obtain ⟨a, ha⟩ : ∃ a, a = elC c t := ⟨_, rfl⟩
              obtain ⟨b, hb⟩ : ∃ b, b = nxt c t := ⟨_, rfl⟩
              obtain ⟨J, hJ⟩ : ∃ J, J = (t + 1) % j := ⟨_, rfl⟩
              have hJL : J < j := by rw [hJ]; exact Nat.mod_lt _ (by omega)
              have haT : a < V.length := by rw [hVl, ← hSl.out, ha]; exact HCI.out.lt _ (elC_mem htc)
              have hbT : b < V.length := by rw [hVl, ← hSl.out, hb]; exact HCI.out.lt _ (nxt_mem htc)
              obtain ⟨r, hr, hrl, hrx, x0, x1⟩ := hVT.cell haT hbT
              obtain ⟨x, hx⟩ : ∃ x, x = at2 V a b := ⟨_, rfl⟩
              rw [← hx] at hrx x0 x1
              obtain ⟨o', gr, rc, e1, hBo, hBg, hgU, c1, c2, f2, hset, _⟩ := hO.out.at hr hrx
              cases e1
              rw [hrl, hVl] at c1
              obtain ⟨gc', e2, hgc, c3, _, _⟩ := hW.out.cell (i := t) (x := (a : Int)) (by rw [List.getElem?_map, elC_some htc, ← ha]; rfl)
              cases e2
              obtain ⟨gc', e2, _, c4, _, _⟩ := hW.out.cell (i := J) (x := (b : Int)) (by rw [List.getElem?_map, elC_some (show J < c.length by rw [← HL.out]; exact hJL), hb, hJ, HL.out]; rfl)
              cases e2
              unfold vi at c3 c4
              have k1 : (a : Int) < (n : Int) := by rw [hVl] at haT; omega
              have k2 : (b : Int) < (n : Int) := by rw [hVl] at hbT; omega
              have k3 : IntKind.i64.wrap ((t : Int) + 1) = (t : Int) + 1 := by rw [IntKind.wrap_i64]; omega
              have k4 : wrap64 ((t : Int) + 1) = (t : Int) + 1 := by unfold wrap64; omega
              have k5 : ((t : Int) + 1).tmod (j : Int) = (J : Int) := by rw [hJ]; rfl
              have k6 : ((t : Int) + 1) % (j : Int) = (J : Int) := by rw [hJ]; rfl
              have k7 : (J : Int) < (j : Int) := by omega
              have hXb := leastF_le (T := S) (c := c) c.length
              have hXp := least_pos hS.out HCI.out c.length (Nat.le_refl _)
              rw [← HX.out] at hXb hXp
              have hXm := hXb.1
              unfold maxC at hXm x1
              have k8 : IntKind.i64.wrap (x - X) = x - X := by rw [IntKind.wrap_i64]; omega
              have k9 : wrap64 (x - X) = x - X := by unfold wrap64; omega
              have HN : Hid (V.set a (r.set b (x - X)) = cutF S c X (t + 1)) := by
                have e1 : cutF S c X (t + 1) = put2 (cutF S c X t) (elC c t) (nxt c t) (at2 (cutF S c X t) (elC c t) (nxt c t) - X) := rfl
                rw [← hV, ← ha, ← hb, ← hx] at e1
                rw [e1]
                unfold put2
                rw [getD_of hr]; rfl
              have HSET := Lib.hid (hset (x - X))
              have HGU := Lib.hid hgU; have HGC := Lib.hid hgc; have HBG := Lib.hid hBg
              clear hr hrl hrx x0 x1 hx hset hJ ha hb haT hbT hV hVT hXb hXp hXm hgU hgc hBg hBo
              go_wp2_with fail
              go_still_tail 17, (by kernel_rfl)
              change wpList _ _ _ _ _ wr.drew
              have c2d : wr.drew.cell? ⟨gr, b, none⟩ = some (.int .i64 x) := c2
              have f2d : wr.drew.frozen? ⟨gr, b, none⟩ = false := f2
              go_wp2_with fail
              clear k3 k4 k5 k6 k8 k9
              go_roundw
              case rel =>
                have hb1 := fdrewN (below_refl (wr.setCell ⟨gr, b, none⟩ (.int .i64 (x - X)))) 1
                refine ⟨t + 1, by omega, by go_num, ?_, ?_, fdrewN (hbe.out.setCell (p := ⟨gr, b, none⟩) HBG.out _) 1⟩
                · rw [← HN.out]
                  exact HSET.out.fw hb1
                · refine (hW.out.other (p := ⟨gr, b, none⟩) (fun y hy => ?_) _).fw hb1
                  cases hy
                  have := HGU.out; have := HGC.out
                  show gc ≠ gr
                  omega
              case measure => simp [intOf]; omega
            · have htj : t = j := by omega
              subst htj
              have HCC : Hid (cutF S c X t = cutC S c) := by unfold cutC; rw [← HX.out, ← HL.out]; rfl
              rw [HCC.out] at hO
              have HNZ := Lib.hid (cutC_nz hS.out HCI.out)
              have HVC := Lib.hid (cutC_vt hS.out HCI.out)
              go_wp2_with fail
              go_roundg (nz (cutC S c))
              case measure => rw [hk.out]; exact HNZ.out
              case rel => exact ⟨cutC S c, rfl, HVC.out, fun T' h => hC.out _ (.step HCY.out h), hO.out.own, hbe.out⟩
end Go.Proofs.Ytpecepfnmkpmmaa
