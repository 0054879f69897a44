/- quota: Settle. -/
import Derived.Test.YtpecepfnmkpmmaaNj
import Derived.Test.YtpecepfnmkpmmaaNi
import Derived.Deep.RegionHeld3
namespace Go.Proofs.Ytpecepfnmkpmmaa
open Go.RowKit Go.Kin Quo
set_option maxRecDepth 100000
set_option linter.unusedVariables false
/-- What reliefNetwork gives back. -/
def ReliefAny : Prop := ∀ (ta : Option Addr) (n tc : Nat) (T : Tab) (qa : Option Addr) (qc : Nat) (q : List Int) (w : World), RdT w ta n tc T → Rd vi w qa n qc q → Fit T q →
    Calls Try.prog 45 #[.slice ta n tc, .slice qa n qc] w fun e w' => ∃ bg X ca cc, e = .returned (.tuple #[.pointer (some ⟨bg, 0, none⟩), .slice ca (relief T q).2.1.length cc, .int .i64 (relief T q).2.2]) ∧ NetM w' (w.heap.size + 1) X bg (relief T q).1 ∧ NetOk (relief T q).1 ∧ OwnA vc 7 (w.heap.size + 1) 71 w' ca (relief T q).2.1.length cc (relief T q).2.1 ∧ (∀ x, ca = some x → x.block ∈ X) ∧ (∀ x ∈ X, x < w'.heap.size) ∧ Below w.heap.size w w'
theorem NetM.size {w : World} {B : Nat} {X : List Nat} {bg : Nat} {g : Net} (h : NetM w B X bg g) : B ≤ w.heap.size := by
  have hl := h.lt
  obtain ⟨aa, ac, oo, oc, L, h1, h2, h3, h4, h5, h6, _⟩ := h
  omega
theorem w64n {a : Int} (h : -9223372036854775808 ≤ a ∧ a ≤ 9223372036854775807) : wrap64 a = a := by unfold wrap64; omega
theorem iwn {a : Int} (h : -9223372036854775808 ≤ a ∧ a ≤ 9223372036854775807) : IntKind.i64.wrap a = a := by rw [IntKind.wrap_i64]; omega
theorem settle_no (ta : Option Addr) (n tc : Nat) (T : Tab) (qa : Option Addr) (m qc : Nat) (q : List Int) (w : World) (h : RdT w ta n tc T) (h2 : Rd vi w qa m qc q) (hf : ¬ Fit T q) :
    Calls Try.prog 28 #[.slice ta n tc, .slice qa m qc] w fun e w' => e = .returned (.tuple #[.slice none 0 0, .int .i64 1]) ∧ w = w' := by
  have H := Lib.hid h; have H2 := Lib.hid h2
  have hd := decide_eq_false hf
  clear h h2 hf
  go_enter Try.func28, Try.ntmps28
  go_wp2_with (go_at_call 39; refine (fitting_any _ _ _ T _ _ _ q _ H.out H2.out).mono ?_; rw [hd]; rintro e w' ⟨rfl, rfl⟩)
  go_ret2
  exact ⟨rfl, rfl⟩
theorem settle_full (RA : ReliefAny) (ta : Option Addr) (n tc : Nat) (T : Tab) (qa : Option Addr) (qc : Nat) (q : List Int) (w : World) (h : RdT w ta n tc T) (h2 : Rd vi w qa n qc q) (hf : Fit T q)
    (hN : 1 < (relief T q).1.out.length) (f : Nat) (g1 : Net) (y : Int) (hp : pushF 0 1 f (relief T q).1 0 = some (g1, y)) (hy : y < (relief T q).2.2) :
    Calls Try.prog 28 #[.slice ta n tc, .slice qa n qc] w fun e w' => e = .returned (.tuple #[.slice none 0 0, .int .i64 7]) ∧ Below w.heap.size w w' := by
  have H := Lib.hid h; have H2 := Lib.hid h2; have HF := Lib.hid hf; have HP := Lib.hid hp
  have hd := decide_eq_true hf
  clear h h2 hf hp
  go_enter Try.func28, Try.ntmps28
  go_wp2_with (first
    | (go_at_call 39; refine (fitting_any _ _ _ T _ _ _ q _ H.out H2.out).mono ?_; rw [hd]; rintro e w' ⟨rfl, rfl⟩)
    | (go_at_call 45; refine (RA _ _ _ T _ _ q _ H.out H2.out HF.out).mono ?_; rintro e w1 ⟨bg, X, ca, cc, rfl, hN1, hok, hC1, hcx, hxs, hb1⟩; have HN1 := Lib.hid hN1; have HOK := Lib.hid hok; have HXS := Lib.hid hxs; have HB1 := Lib.hid hb1; clear hN1 hok hxs hC1 hcx hb1)
    | (go_at_call 46; refine (push_any _ 0 1 _ _ _ _ HN1.out HOK.out (by omega) hN (by omega) HXS.out HN1.out.size _ _ _ HP.out).mono ?_; rintro e w2 ⟨rfl, hN2, hok2, ho2, hl2, hf2⟩; have HF2 := Lib.hid hf2; clear hN2 hok2 ho2 hl2 hf2))
  go_ret2
  exact ⟨rfl, HB1.out.trans ((HF2.out.below HN1.out.size).mono (Nat.le_succ _))⟩
set_option maxHeartbeats 8000000 in
theorem settle_ok (RA : ReliefAny) (ta : Option Addr) (n tc : Nat) (T : Tab) (qa : Option Addr) (qc : Nat) (q : List Int) (w : World) (h : RdT w ta n tc T) (h2 : Rd vi w qa n qc q) (hf : Fit T q)
    (hN : 1 < (relief T q).1.out.length) (hch : ∀ c ∈ (relief T q).2.1, ChOk (relief T q).1 c) (hcl : (relief T q).2.1.length ≤ 100000) (f : Nat) (g1 : Net) (y : Int) (hp : pushF 0 1 f (relief T q).1 0 = some (g1, y)) (hy : ¬ y < (relief T q).2.2) (r : List Mv) (hr : Run g1 [] (relief T q).2.1 r) :
    Calls Try.prog 28 #[.slice ta n tc, .slice qa n qc] w fun e w' => ∃ ma mc, e = .returned (.tuple #[.slice ma r.length mc, .int .i64 0]) ∧ OwnA vm 4 (w.heap.size + 1) 47 w' ma r.length mc r ∧ Below w.heap.size w w' := by
  have H := Lib.hid h; have H2 := Lib.hid h2; have HF := Lib.hid hf; have HP := Lib.hid hp; have HCH := Lib.hid hch; have HR := Lib.hid hr
  have hd := decide_eq_true hf
  clear h h2 hf hp hch hr
  go_enter Try.func28, Try.ntmps28
  go_wp2_with (first
    | (go_at_call 39; refine (fitting_any _ _ _ T _ _ _ q _ H.out H2.out).mono ?_; rw [hd]; rintro e w' ⟨rfl, rfl⟩)
    | (go_at_call 45; refine (RA _ _ _ T _ _ q _ H.out H2.out HF.out).mono ?_; rintro e w1 ⟨bg, X, ca, cc, rfl, hN1, hok, hC1, hcx, hxs, hb1⟩; have HN1 := Lib.hid hN1; have HOK := Lib.hid hok; have HXS := Lib.hid hxs; have HB1 := Lib.hid hb1; have HC1 := Lib.hid hC1; have HCX := Lib.hid hcx; clear hN1 hok hxs hC1 hcx hb1)
    | (go_at_call 46; refine (push_any _ 0 1 _ _ _ _ HN1.out HOK.out (by omega) hN (by omega) HXS.out HN1.out.size _ _ _ HP.out).mono ?_; rintro e w2 ⟨rfl, hN2, hok2, ho2, hl2, hf2⟩; have HF2 := Lib.hid hf2; have HN2 := Lib.hid hN2; have HOK2 := Lib.hid hok2; have HO2 := Lib.hid ho2; have HL2 := Lib.hid hl2; clear hN2 hok2 ho2 hl2 hf2))
  obtain ⟨C, hC⟩ : ∃ C, C = (relief T q).2.1 := ⟨_, rfl⟩
  obtain ⟨G0, hG0⟩ : ∃ G0, G0 = (relief T q).1 := ⟨_, rfl⟩
  obtain ⟨L, hL⟩ : ∃ L, L = C.length := ⟨_, rfl⟩
  rw [← hC] at HCH HR HC1 hcl ⊢
  rw [← hG0] at HCH HO2 HL2 HOK
  rw [← hL] at HC1 hcl ⊢
  have HLL := Lib.hid hL
  clear hC hG0 hL hN HP H H2 HF
  have HCW : Hid (OwnA vc 7 (w.heap.size + 1) 71 w2 ca L cc C) := HC1.out.same fun x hx => HF2.out.block _ (HC1.out.blt hx).1 (.inr (HCX.out x hx))
  have HBW : Hid (Below w.heap.size w w2) := HB1.out.trans ((HF2.out.below HN1.out.size).mono (Nat.le_succ _))
  have HXS2 : Hid (∀ x ∈ X, x < w2.heap.size) := fun x hx => Nat.lt_of_lt_of_le (HXS.out x hx) HF2.out.size
  clear HC1 HB1 HXS HF2
  go_loopw [9, 31] (fun u z wr => ∃ (i : Nat) (g : Net) (mv : List Mv) (ma : Option Addr) (mc : Nat) (X : List Nat), i ≤ L ∧ z = .int .i64 (i : Int) ∧ u = .slice ma mv.length mc ∧ Hid (NetM wr (w.heap.size + 1) X bg g) ∧ Hid (NetOk g) ∧ Hid (g.out = G0.out ∧ g.arcs.length = G0.arcs.length) ∧ Hid (Run g mv (C.drop i) r) ∧ Hid (mv.length ≤ i) ∧ Hid (OwnA vm 4 (w.heap.size + 1) 47 wr ma mv.length mc mv) ∧ Hid (OwnA vc 7 (w.heap.size + 1) 71 wr ca L cc C) ∧ Hid ((∀ x, ca = some x → x.block ∈ X) ∧ (∀ x, ma = some x → x.block ∈ X) ∧ ∀ x ∈ X, x < wr.heap.size) ∧ Hid (Below w.heap.size w wr)) (fun _ z _ => L - (intOf z).toNat)
  case atStart => exact ⟨0, g1, [], none, 0, X, by omega, rfl, rfl, HN2.out, HOK2.out, ⟨HO2.out, HL2.out⟩, HR.out, Nat.le_refl _, OwnA.nil _ _ _ _ _, HCW.out, ⟨HCX.out, (fun x hx => by cases hx), HXS2.out⟩, HBW.out⟩
  case round =>
    obtain ⟨i, g, mv, ma, mc, X, hi, rfl, rfl, hN, hOK, hsh, hrun, hml, hM, hC, hX, hbe⟩ := hrel
    by_cases hlt : i < L
    · have i2 : (i : Int) < (L : Int) := by omega
      obtain ⟨c, hc⟩ : ∃ c, C[i]? = some c := ⟨_, List.getElem?_eq_getElem (by rw [← HLL.out]; exact hlt)⟩
      obtain ⟨gch, rfl, hcell⟩ := OwnA.cells hC.out vc_len hc
      have c0 := hcell 0 _ rfl
      have c1 := hcell 1 _ rfl
      have c2 := hcell 2 _ rfl
      have c3 := hcell 3 _ rfl
      have c4 := hcell 4 _ rfl
      have c5 := hcell 5 _ rfl
      have c6 := hcell 6 _ rfl
      rw [Nat.add_zero] at c0
      have HCC := Lib.hid hc
      clear hcell hc
      have HCKx := HCH.out c (List.mem_of_getElem? HCC.out)
      obtain ⟨gk, hgk⟩ : ∃ gk, gk = wr.heap.size := ⟨_, rfl⟩
      obtain ⟨KX, hKX⟩ : ∃ KX, KX = c.num ^^^ 1 := ⟨_, rfl⟩
      have hkn : c.num < g.arcs.length := by rw [hsh.out.2]; exact HCKx.num
      have hKXl : KX < g.arcs.length := by rw [hKX]; exact hOK.out.even _ hkn
      have QX := xor_one c.num KX hKX (by have := hOK.out.arcs; omega)
      have i3 : (c.num : Int) < (g.arcs.length : Int) := by omega
      have i4 : (KX : Int) < (g.arcs.length : Int) := by omega
      have HKX := Lib.hid hKX
      have HGK := Lib.hid hgk
      have HCK := Lib.hid HCKx
      clear hKX HCKx
      go_upto_region 10 with fail
      rw [← hgk]
      have hba := below_alloc (.cells #[.int .i64 (c.fr : Int), .int .i64 (c.dst : Int), .int .i64 (c.ow : Int), .int .i64 0, .int .i64 (c.num : Int), .int .i64 (c.stock : Int), .int .i64 (c.goal : Int)] 71) (below_refl wr)
      have hk0 : (wr.alloc (.cells #[.int .i64 (c.fr : Int), .int .i64 (c.dst : Int), .int .i64 (c.ow : Int), .int .i64 0, .int .i64 (c.num : Int), .int .i64 (c.stock : Int), .int .i64 (c.goal : Int)] 71)).heap[gk]? = _ := hp_new hgk.symm
      have hNa := (hN.out.exclude (x := gk) (by omega)).fw hba
      have HMa : Hid (OwnA vm 4 (w.heap.size + 1) 47 _ ma mv.length mc mv) := hM.out.same fun x hx => hba.block _ (hM.out.blt hx).1
      have HCa : Hid (OwnA vc 7 (w.heap.size + 1) 71 _ (some ⟨gch, 0, none⟩) L cc C) := hC.out.same fun x hx => hba.block _ (hC.out.blt hx).1
      have HXa : Hid ((∀ x : Addr, some (⟨gch, 0, none⟩ : Addr) = some x → x.block ∈ gk :: X) ∧ (∀ x, ma = some x → x.block ∈ gk :: X) ∧ ∀ x ∈ gk :: X, x < (wr.alloc (.cells #[.int .i64 (c.fr : Int), .int .i64 (c.dst : Int), .int .i64 (c.ow : Int), .int .i64 0, .int .i64 (c.num : Int), .int .i64 (c.stock : Int), .int .i64 (c.goal : Int)] 71)).heap.size) := by
        refine ⟨fun x hx => List.mem_cons_of_mem _ (hX.out.1 x hx), fun x hx => List.mem_cons_of_mem _ (hX.out.2.1 x hx), fun x hx => ?_⟩
        rcases List.mem_cons.1 hx with e | e
        · rw [e]; exact (Array.getElem?_eq_some_iff.1 hk0).1
        · exact Nat.lt_of_lt_of_le (hX.out.2.2 x e) hba.size
      have HBa : Hid (Below w.heap.size w _) := bt hbe.out hba
      have HN := Lib.hid hNa; have HK0 := Lib.hid hk0
      clear c0 c1 c2 c3 c4 c5 c6 hN hM hC hX hbe hba hNa hgk
      generalize wr.alloc (.cells #[.int .i64 (c.fr : Int), .int .i64 (c.dst : Int), .int .i64 (c.ow : Int), .int .i64 0, .int .i64 (c.num : Int), .int .i64 (c.stock : Int), .int .i64 (c.goal : Int)] 71) = wa at *
      have k4 : wa.cell? ⟨gk, 4, none⟩ = some (.int .i64 (c.num : Int)) := by rw [cell_of_row wa gk 4 _ _ _ hk0]; rfl
      obtain ⟨ag, ac, a1, _, a3, _⟩ := HN.out.arcAt (k := KX) hKXl
      obtain ⟨x, hx⟩ : ∃ x, x = g.room KX := ⟨_, rfl⟩
      rw [← hx] at a3
      have HXV := Lib.hid hx
      clear hk0 hx
      go_quiet (fail)
      have hbq := fdrewN (below_refl wa) nq
      go_upto_region 11 with fail
      have HNq := Lib.hid (HN.out.fw hbq)
      have HMq : Hid (OwnA vm 4 (w.heap.size + 1) 47 (wa.drewN nq) ma mv.length mc mv) := HMa.out
      have HCq : Hid (OwnA vc 7 (w.heap.size + 1) 71 (wa.drewN nq) (some ⟨gch, 0, none⟩) L cc C) := HCa.out
      have HXq : Hid ((∀ x : Addr, some (⟨gch, 0, none⟩ : Addr) = some x → x.block ∈ gk :: X) ∧ (∀ x, ma = some x → x.block ∈ gk :: X) ∧ ∀ x ∈ gk :: X, x < (wa.drewN nq).heap.size) := HXa.out
      have HBq : Hid (Below w.heap.size w (wa.drewN nq)) := bt HBa.out hbq
      have HKq : Hid ((wa.drewN nq).heap[gk]? = some (.cells #[.int .i64 (c.fr : Int), .int .i64 (c.dst : Int), .int .i64 (c.ow : Int), .int .i64 0, .int .i64 (c.num : Int), .int .i64 (c.stock : Int), .int .i64 (c.goal : Int)] 71 (0, 0))) := HK0.out
      clear HN HMa HCa HXa HBa HK0 k4 a1 a3 hbq
      generalize wa.drewN nq = wb at *
      have k4 : wb.cell? ⟨gk, 4, none⟩ = some (.int .i64 (c.num : Int)) := by rw [cell_of_row wb gk 4 _ _ _ HKq.out]; rfl
      obtain ⟨ag, ac, a1, a2, a3, a4, a5, a6, a7, hset⟩ := HNq.out.arcAt (k := c.num) hkn
      obtain ⟨hN4, hd1⟩ := hset 0
      obtain ⟨ag2, ac2, b1, b2, b3, b4, b5, b6, b7, hset2⟩ := hN4.arcAt (k := KX) (by rw [setRoom_len]; exact hKXl)
      rw [setRoom_len, hd1] at b1
      cases b1
      have HSET2 := Lib.hid (hset2 0).1
      have hcl2 : (g.setRoom c.num 0).setRoom KX 0 = clearC g c := by unfold clearC; rw [← HKX.out]
      rw [hcl2] at HSET2
      have n2 : ag ≠ gk := fun e => a6 (by rw [e]; exact List.mem_cons_self ..)
      have n3 : gk ≠ ag := n2.symm
      have n4 : ag ≠ bg := fun e => a7 e.symm
      have HA6 := Lib.hid a6; have HA5 := Lib.hid a5
      clear hset hset2 hN4 hcl2 a6 a7 b2 b5 b6 b7 a2 a5
      go_region_held3 (fun w' => w'.cell? ⟨bg, 0, none⟩ = some (.slice (some ⟨ag, 0, none⟩) g.arcs.length ac) ∧ w'.cell? ⟨gk, 4, none⟩ = some (.int .i64 (c.num : Int))) (first | assumption | go_keep) (fail)
      have hxa : ∀ v, (⟨gch, 0, none⟩ : Addr).block ≠ (⟨ag, v, none⟩ : Addr).block := fun v e => HA6.out (by have := HXq.out.1 _ rfl; rwa [e] at this)
      have hxm : ∀ v x, ma = some x → x.block ≠ (⟨ag, v, none⟩ : Addr).block := fun v x hx e => HA6.out (by have := HXq.out.2.1 x hx; rwa [e] at this)
      have HN6 : Hid (NetM ((wb.setCell ⟨ag, c.num * 2 + 1, none⟩ (.int .i64 0)).setCell ⟨ag, KX * 2 + 1, none⟩ (.int .i64 0)).drew (w.heap.size + 1) (gk :: X) bg (clearC g c)) := HSET2.out.fw (fdrewN (below_refl _) 1)
      have HM6 : Hid (OwnA vm 4 (w.heap.size + 1) 47 ((wb.setCell ⟨ag, c.num * 2 + 1, none⟩ (.int .i64 0)).setCell ⟨ag, KX * 2 + 1, none⟩ (.int .i64 0)).drew ma mv.length mc mv) := HMq.out.same fun x hx => (Below.heap_setCell _ _ _ _ (hxm _ x hx)).trans (Below.heap_setCell _ _ _ _ (hxm _ x hx))
      have HC6 : Hid (OwnA vc 7 (w.heap.size + 1) 71 ((wb.setCell ⟨ag, c.num * 2 + 1, none⟩ (.int .i64 0)).setCell ⟨ag, KX * 2 + 1, none⟩ (.int .i64 0)).drew (some ⟨gch, 0, none⟩) L cc C) := HCq.out.same fun x hx => by cases hx; exact (Below.heap_setCell _ _ _ _ (hxa _)).trans (Below.heap_setCell _ _ _ _ (hxa _))
      have HX6 : Hid ((∀ x : Addr, some (⟨gch, 0, none⟩ : Addr) = some x → x.block ∈ gk :: X) ∧ (∀ x, ma = some x → x.block ∈ gk :: X) ∧ ∀ x ∈ gk :: X, x < ((wb.setCell ⟨ag, c.num * 2 + 1, none⟩ (.int .i64 0)).setCell ⟨ag, KX * 2 + 1, none⟩ (.int .i64 0)).drew.heap.size) := by
        refine ⟨HXq.out.1, HXq.out.2.1, fun x hx => ?_⟩
        have := HXq.out.2.2 x hx
        simpa [World.setCell, World.drew] using this
      have hag : w.heap.size ≤ ag := Nat.le_of_succ_le HA5.out
      have HB6 : Hid (Below w.heap.size w ((wb.setCell ⟨ag, c.num * 2 + 1, none⟩ (.int .i64 0)).setCell ⟨ag, KX * 2 + 1, none⟩ (.int .i64 0)).drew) := ((HBq.out.setCell (p := ⟨ag, c.num * 2 + 1, none⟩) hag _).setCell (p := ⟨ag, KX * 2 + 1, none⟩) hag _).drew
      have HK6 : ((wb.setCell ⟨ag, c.num * 2 + 1, none⟩ (.int .i64 0)).setCell ⟨ag, KX * 2 + 1, none⟩ (.int .i64 0)).drew.heap[gk]? = some (.cells #[.int .i64 (c.fr : Int), .int .i64 (c.dst : Int), .int .i64 (c.ow : Int), .int .i64 0, .int .i64 (c.num : Int), .int .i64 (c.stock : Int), .int .i64 (c.goal : Int)] 71 (0, 0)) := ((Below.heap_setCell _ _ _ _ (by exact n3)).trans (Below.heap_setCell _ _ _ _ (by exact n3))).trans HKq.out
      clear hxa hxm hag n2 n3 n4 HKq HBq HXq HCq HMq HNq HSET2 HA5 HA6 k4 a1 a3 a4 b3 b4 hd1 QX i3 i4
      generalize ((wb.setCell ⟨ag, c.num * 2 + 1, none⟩ (.int .i64 0)).setCell ⟨ag, KX * 2 + 1, none⟩ (.int .i64 0)).drew = wc at *
      have k0 : wc.cell? ⟨gk, 0, none⟩ = some (.int .i64 (c.fr : Int)) := by rw [cell_of_row wc gk 0 _ _ _ HK6]; rfl
      have k1 : wc.cell? ⟨gk, 1, none⟩ = some (.int .i64 (c.dst : Int)) := by rw [cell_of_row wc gk 1 _ _ _ HK6]; rfl
      have k2 : wc.cell? ⟨gk, 2, none⟩ = some (.int .i64 (c.ow : Int)) := by rw [cell_of_row wc gk 2 _ _ _ HK6]; rfl
      have k3 : wc.cell? ⟨gk, 3, none⟩ = some (.int .i64 0) := by rw [cell_of_row wc gk 3 _ _ _ HK6]; rfl
      have HKK := Lib.hid HK6
      clear HK6
      go_upto_region 13 with fail
      obtain ⟨gm, hgm⟩ : ∃ gm, gm = wc.heap.size := ⟨_, rfl⟩
      rw [← hgm]
      have hba := below_alloc (.cells #[.int .i64 (c.fr : Int), .int .i64 (c.dst : Int), .int .i64 (c.ow : Int), .int .i64 0] 47) (below_refl wc)
      have hm0 : (wc.alloc (.cells #[.int .i64 (c.fr : Int), .int .i64 (c.dst : Int), .int .i64 (c.ow : Int), .int .i64 0] 47)).heap[gm]? = some (.cells #[.int .i64 (c.fr : Int), .int .i64 (c.dst : Int), .int .i64 (c.ow : Int), .int .i64 0] 47 (0, 0)) := hp_new hgm.symm
      have HM0 := Lib.hid hm0
      have hk0 := hp_old (o := .cells #[.int .i64 (c.fr : Int), .int .i64 (c.dst : Int), .int .i64 (c.ow : Int), .int .i64 0] 47) HKK.out
      have HKd := Lib.hid hk0
      have HNd : Hid (NetM (wc.alloc (.cells #[.int .i64 (c.fr : Int), .int .i64 (c.dst : Int), .int .i64 (c.ow : Int), .int .i64 0] 47)) (w.heap.size + 1) (gm :: gk :: X) bg (clearC g c)) := (HN6.out.exclude (x := gm) (by omega)).fw hba
      have HMd : Hid (OwnA vm 4 (w.heap.size + 1) 47 (wc.alloc (.cells #[.int .i64 (c.fr : Int), .int .i64 (c.dst : Int), .int .i64 (c.ow : Int), .int .i64 0] 47)) ma mv.length mc mv) := HM6.out.same fun x hx => hba.block _ (HM6.out.blt hx).1
      have HCd : Hid (OwnA vc 7 (w.heap.size + 1) 71 (wc.alloc (.cells #[.int .i64 (c.fr : Int), .int .i64 (c.dst : Int), .int .i64 (c.ow : Int), .int .i64 0] 47)) (some ⟨gch, 0, none⟩) L cc C) := HC6.out.same fun x hx => hba.block _ (HC6.out.blt hx).1
      have HBd : Hid (Below w.heap.size w (wc.alloc (.cells #[.int .i64 (c.fr : Int), .int .i64 (c.dst : Int), .int .i64 (c.ow : Int), .int .i64 0] 47))) := bt HB6.out hba
      have HXd : Hid ((∀ x : Addr, some (⟨gch, 0, none⟩ : Addr) = some x → x.block ∈ gm :: gk :: X) ∧ (∀ x, ma = some x → x.block ∈ gm :: gk :: X) ∧ (∀ x, ma = some x → x.block ≠ gm) ∧ ∀ x ∈ gm :: gk :: X, x < (wc.alloc (.cells #[.int .i64 (c.fr : Int), .int .i64 (c.dst : Int), .int .i64 (c.ow : Int), .int .i64 0] 47)).heap.size) := by
        refine ⟨fun x hx => List.mem_cons_of_mem _ (HX6.out.1 x hx), fun x hx => List.mem_cons_of_mem _ (HX6.out.2.1 x hx), fun x hx e => ?_, fun x hx => ?_⟩
        · have := HX6.out.2.2 _ (HX6.out.2.1 x hx)
          omega
        · rcases List.mem_cons.1 hx with e | e
          · rw [e]; exact (Array.getElem?_eq_some_iff.1 hm0).1
          · exact Nat.lt_of_lt_of_le (HX6.out.2.2 x e) hba.size
      have HGN : Hid (gch ≠ gm ∧ w.heap.size ≤ gm ∧ gk ≠ gm) := ⟨fun e => by have := HX6.out.2.2 _ (HX6.out.1 _ rfl); change gch < _ at this; omega, by rw [hgm]; exact HB6.out.size, fun e => by have := HX6.out.2.2 gk (List.mem_cons_self ..); omega⟩
      clear hgm hba hm0 hk0 k0 k1 k2 k3 HN6 HM6 HC6 HB6 HX6 HKK
      generalize wc.alloc (.cells #[.int .i64 (c.fr : Int), .int .i64 (c.dst : Int), .int .i64 (c.ow : Int), .int .i64 0] 47) = wd at *
      have k5 : wd.cell? ⟨gk, 5, none⟩ = some (.int .i64 (c.stock : Int)) := by rw [cell_of_row wd gk 5 _ _ _ HKd.out]; rfl
      have k6 : wd.cell? ⟨gk, 6, none⟩ = some (.int .i64 (c.goal : Int)) := by rw [cell_of_row wd gk 6 _ _ _ HKd.out]; rfl
      have hdrop : C.drop i = c :: C.drop (i + 1) := by
        have hlt2 : i < C.length := by rw [← HLL.out]; exact hlt
        rw [List.drop_eq_getElem_cons hlt2]
        have := HCC.out
        rw [List.getElem?_eq_getElem hlt2] at this
        rw [Option.some.inj this]
      have hrun2 := hrun.out
      rw [hdrop] at hrun2
      obtain ⟨f2, g2, y2, hp2, hbd, hrun3⟩ := hrun2
      rw [← HKX.out, ← HXV.out] at hbd hrun3
      obtain ⟨s, hs⟩ : ∃ s, s = x + y2 := ⟨_, rfl⟩
      rw [← hs] at hbd hrun3
      unfold lim at hbd
      have q1 : IntKind.i64.wrap (x + y2) = s := by rw [← hs]; exact iwn (by omega)
      have q2 : wrap64 (x + y2) = s := by rw [← hs]; exact w64n (by omega)
      have HP2 := Lib.hid hp2; have HR3 := Lib.hid hrun3
      have HQ := Lib.hid (clearC_ok hOK.out c)
      clear hdrop hp2 hrun3 hs hbd
      go_upto_region 14 with (go_at_call 46; refine (push_any _ c.goal c.stock _ _ _ _ HNd.out HQ.out (by rw [clearC_out, hsh.out.1]; exact HCK.out.goal) (by rw [clearC_out, hsh.out.1]; exact HCK.out.stock) (fun e => HCK.out.ne e.symm) HXd.out.2.2.2 HNd.out.size _ _ _ HP2.out).mono ?_; rintro e w2 ⟨rfl, hN2, hok2, ho2, hl2, hf2⟩; have hm2 := (hf2.block gm (Array.getElem?_eq_some_iff.1 HM0.out).1 (.inr (List.mem_cons_self ..))).trans HM0.out; have fm := frozen_of_row w2 gm 3 _ _ hm2; have cm : w2.cell? ⟨gm, 3, none⟩ = some (.int .i64 0) := (by rw [cell_of_row w2 gm 3 _ _ _ hm2]; rfl); have HM2 := Lib.hid hm2; have HF2 := Lib.hid hf2; have HN7 := Lib.hid hN2; have HOK7 := Lib.hid hok2; have HO7 := Lib.hid ho2; have HL7 := Lib.hid hl2; clear hN2 hok2 ho2 hl2 hf2 hm2)
      obtain ⟨we, hwe⟩ : ∃ we, we = w2.setCell ⟨gm, 3, none⟩ (.int .i64 s) := ⟨_, rfl⟩
      have keep : ∀ k, k < wd.heap.size → k ∈ gm :: gk :: X → k ≠ gm → we.heap[k]? = wd.heap[k]? := fun k hk hX hne => by
        rw [hwe, Below.heap_setCell _ _ _ _ (by exact hne)]
        exact HF2.out.block k hk (.inr hX)
      have hNe : NetM we (w.heap.size + 1) (gm :: gk :: X) bg g2 := HN7.out.fr (Y := []) fun k hk hX _ => by
        rw [hwe, Below.heap_setCell _ _ _ _ (by intro e; exact hX (by rw [show k = gm from e]; exact List.mem_cons_self ..))]
      have HMe : Hid (OwnA vm 4 (w.heap.size + 1) 47 we ma mv.length mc mv) := HMd.out.same fun x hx => keep _ (HMd.out.blt hx).1 (HXd.out.2.1 x hx) (HXd.out.2.2.1 x hx)
      have HCe : Hid (OwnA vc 7 (w.heap.size + 1) 71 we (some ⟨gch, 0, none⟩) L cc C) := HCd.out.same fun x hx => by
        have h1 := (HCd.out.blt hx).1; have h2 := HXd.out.1 x hx
        cases hx
        exact keep _ h1 h2 HGN.out.1
      have hke : we.heap[gk]? = some (.cells #[.int .i64 (c.fr : Int), .int .i64 (c.dst : Int), .int .i64 (c.ow : Int), .int .i64 0, .int .i64 (c.num : Int), .int .i64 (c.stock : Int), .int .i64 (c.goal : Int)] 71 (0, 0)) := (keep gk (Array.getElem?_eq_some_iff.1 HKd.out).1 (List.mem_cons_of_mem _ (List.mem_cons_self ..)) HGN.out.2.2).trans HKd.out
      have hme : we.heap[gm]? = some (.cells #[.int .i64 (c.fr : Int), .int .i64 (c.dst : Int), .int .i64 (c.ow : Int), .int .i64 s] 47 (0, 0)) := by
        rw [hwe]; exact heap_setCell_same w2 gm 3 _ _ _ HM2.out
      have HBe : Hid (Below w.heap.size w we) := by
        have h1 : Below w.heap.size w w2 := HBd.out.trans ((HF2.out.below HNd.out.size).mono (Nat.le_succ _))
        have h2 := h1.setCell (p := ⟨gm, 3, none⟩) HGN.out.2.1 (.int .i64 s)
        rw [← hwe] at h2; exact h2
      have HXe : Hid ((∀ x : Addr, some (⟨gch, 0, none⟩ : Addr) = some x → x.block ∈ gm :: gk :: X) ∧ (∀ x, ma = some x → x.block ∈ gm :: gk :: X) ∧ ∀ x ∈ gm :: gk :: X, x < we.heap.size) := by
        refine ⟨HXd.out.1, HXd.out.2.1, fun x hx => ?_⟩
        have h1 := HXd.out.2.2.2 x hx
        have h2 := HF2.out.size
        rw [hwe]; simp [World.setCell]; omega
      have HNe := Lib.hid hNe
      rw [← hwe]
      clear keep hNe hwe fm cm HM2 HF2 HN7 HXd HBd HMd HCd HNd HKd HM0 k5 k6 q1 q2 HGN hrun hlt
      have k0 : we.cell? ⟨gk, 0, none⟩ = some (.int .i64 (c.fr : Int)) := by rw [cell_of_row we gk 0 _ _ _ hke]; rfl
      have k1 : we.cell? ⟨gk, 1, none⟩ = some (.int .i64 (c.dst : Int)) := by rw [cell_of_row we gk 1 _ _ _ hke]; rfl
      have k2 : we.cell? ⟨gk, 2, none⟩ = some (.int .i64 (c.ow : Int)) := by rw [cell_of_row we gk 2 _ _ _ hke]; rfl
      have k3 : we.cell? ⟨gk, 3, none⟩ = some (.int .i64 0) := by rw [cell_of_row we gk 3 _ _ _ hke]; rfl
      have m0 : we.cell? ⟨gm, 0, none⟩ = some (.int .i64 (c.fr : Int)) := by rw [cell_of_row we gm 0 _ _ _ hme]; rfl
      have m1 : we.cell? ⟨gm, 1, none⟩ = some (.int .i64 (c.dst : Int)) := by rw [cell_of_row we gm 1 _ _ _ hme]; rfl
      have m2 : we.cell? ⟨gm, 2, none⟩ = some (.int .i64 (c.ow : Int)) := by rw [cell_of_row we gm 2 _ _ _ hme]; rfl
      have m3 : we.cell? ⟨gm, 3, none⟩ = some (.int .i64 s) := by rw [cell_of_row we gm 3 _ _ _ hme]; rfl
      clear hke hme
      have A1 : i + 1 ≤ L := by omega
      have A2 : Hid (∀ k : Nat, k = i + 1 → L - k < L - i) := fun k hk => by omega
      have A3 : Hid (((i : Int) + 1).toNat = i + 1) := by show _ = _; omega
      have HLM : Hid ((mvOf c s).length ≤ 1 ∧ mv.length ≤ 100000) := ⟨by unfold mvOf; split <;> simp, by have := hml.out; omega⟩
      have HS7 : Hid (g2.out = G0.out ∧ g2.arcs.length = G0.arcs.length) := ⟨HO7.out.trans ((clearC_out g c).trans hsh.out.1), HL7.out.trans ((clearC_len g c).trans hsh.out.2)⟩
      by_cases hs0 : s = 0
      · subst hs0
        have HR4 : Hid (Run g2 mv (C.drop (i + 1)) r) := by
          have h1 := HR3.out
          unfold mvOf at h1
          rw [if_pos rfl, List.append_nil] at h1
          exact h1
        go_wp2_with fail
        refine ⟨⟨i + 1, g2, mv, ma, mc, gm :: gk :: X, A1, by go_num, rfl, HNe.out, HOK7.out, HS7.out, HR4.out, ?_, HMe.out, HCe.out, HXe.out, HBe.out⟩, ?_⟩
        · have := hml.out
          show mv.length ≤ i + 1
          exact Nat.le_succ_of_le this
        · show L - ((i : Int) + 1).toNat < L - (i : Int).toNat
          rw [A3.out, Int.toNat_natCast]
          exact A2.out _ rfl
      · have hs1 : (s == 0) = false := by simpa using hs0
        obtain ⟨im, him, hzm0, hzm1, hzm2⟩ := info_parts infoMv
        have um := Try.underlying40
        have HR4 : Hid (Run g2 (mv ++ [⟨c.fr, c.dst, c.ow, s⟩]) (C.drop (i + 1)) r) := by
          have h1 := HR3.out
          unfold mvOf at h1
          rw [if_neg hs0] at h1
          exact h1
        have HSZ : Hid ((mv.length + 1) * 32 ≤ 140737488355328) := by have := HLM.out.2; show _ ≤ _; omega
        have HSM : Hid (mv.length + 1 ≤ maxLen) := by have := HLM.out.2; show _ ≤ _; unfold maxLen; omega
        clear hs0
        go_wp2_with (at_builtin; go_loud (refine wpList_append_lies _ rfl (.tmp 77) (.tmp 79) 40 rfl (w.heap.size + 1) 47 im (.agg #[.int .i64 0, .int .i64 0, .int .i64 0, .int .i64 0]) 4 32 um him hzm0 hzm1 hzm2 rfl (by omega) (.slice ma mv.length mc) mv.length (mv.flatMap vm) rfl ?o1 ⟨we.heap.size, 0, none⟩ 1 1 (vm ⟨c.fr, c.dst, c.ow, s⟩) rfl rfl ?c1 ?c2 (by omega) HSM.out HSZ.out ?o2 _ rfl ?next))
        case o1 => exact (HMe.out.same fun x hx => (below_alloc _ (below_refl we)).block _ (HMe.out.blt hx).1).ownsRow vm_len
        case c1 =>
          intro k u hu
          have e : (⟨we.heap.size, 0, none⟩ : Addr).add k = ⟨we.heap.size, 0 + k, none⟩ := by unfold Addr.add; split <;> simp_all
          rw [Nat.zero_add] at e
          rw [e, cell_of_row _ we.heap.size k _ _ _ (heap_alloc_new we _), ← hu]
          exact Array.getElem?_toList.symm
        case c2 =>
          intro u hu
          unfold vm at hu
          simp only [List.mem_cons, List.not_mem_nil, or_false] at hu
          rcases hu with rfl | rfl | rfl | rfl <;> rfl
        case o2 => exact Nat.le_trans HNe.out.size (below_alloc _ (below_refl we)).size
        case next =>
          intro g5 c5 w9 hown hg hlies _
          have ho5 : OwnA vm 4 (w.heap.size + 1) 47 w9 (some ⟨g5, 0, none⟩) (mv.length + 1) c5 (mv ++ [⟨c.fr, c.dst, c.ow, s⟩]) := OwnA.of_ownsRow (by rw [List.flatMap_append]; exact hown) (by simp)
          have hba := below_alloc (.cells #[.int .i64 (c.fr : Int), .int .i64 (c.dst : Int), .int .i64 (c.ow : Int), .int .i64 s] 47) (below_refl we)
          have hl2 : (Value.slice ma mv.length mc).ownBlock = some g5 ∨ g5 = (we.alloc (.cells #[.int .i64 (c.fr : Int), .int .i64 (c.dst : Int), .int .i64 (c.ow : Int), .int .i64 s] 47)).heap.size := hlies.imp id fun e => by rw [e]; simp
          have HN9 := Lib.hid ((HNe.out.fw hba).appended HXe.out.2.1 hg hl2)
          have HMx : OwnA vm 4 (w.heap.size + 1) 47 (we.alloc (.cells #[.int .i64 (c.fr : Int), .int .i64 (c.dst : Int), .int .i64 (c.ow : Int), .int .i64 s] 47)) ma mv.length mc mv := HMe.out.same fun x hx => hba.block _ (HMe.out.blt hx).1
          have HC9 : Hid (OwnA vc 7 (w.heap.size + 1) 71 w9 (some ⟨gch, 0, none⟩) L cc C) := HCe.out.same fun x hx => by
            obtain ⟨h1, _, cur, h2⟩ := HCe.out.blt hx
            refine (hg.block _ (Nat.lt_of_lt_of_le h1 hba.size) fun e => ?_).trans (hba.block _ h1)
            obtain ⟨z, hz, hzb⟩ := ownBlock_eq e.symm
            obtain ⟨_, _, cur2, h3⟩ := HMe.out.blt hz
            rw [hzb, h2] at h3
            cases h3
          have HB9 : Hid (Below w.heap.size w w9) := by
            refine (bt HBe.out hba).grown hg (Nat.le_trans HBe.out.size hba.size) fun k hk => ?_
            obtain ⟨z, hz, hzb⟩ := ownBlock_eq hk
            have := (HMe.out.blt hz).2.1
            omega
          have HX9 : Hid ((∀ x : Addr, some (⟨gch, 0, none⟩ : Addr) = some x → x.block ∈ g5 :: gm :: gk :: X) ∧ (∀ x : Addr, some (⟨g5, 0, none⟩ : Addr) = some x → x.block ∈ g5 :: gm :: gk :: X) ∧ ∀ x ∈ g5 :: gm :: gk :: X, x < w9.heap.size) := by
            refine ⟨fun x hx => List.mem_cons_of_mem _ (HXe.out.1 x hx), fun x hx => by cases hx; exact List.mem_cons_self .., fun x hx => ?_⟩
            rcases List.mem_cons.1 hx with e | e
            · rw [e]; exact (ho5.blt (x := ⟨g5, 0, none⟩) rfl).1
            · exact Nat.lt_of_lt_of_le (HXe.out.2.2 x e) (Nat.le_trans hba.size hg.size)
          have HM9 := Lib.hid ho5
          clear hown hg hlies ho5 hba hl2 HMx hs1 k0 k1 k2 k3 m0 m1 m2 m3
          go_wp2_with fail
          refine ⟨⟨i + 1, g2, mv ++ [(⟨c.fr, c.dst, c.ow, s⟩ : Mv)], some ⟨g5, 0, none⟩, c5, g5 :: gm :: gk :: X, A1, by go_num, by simp, HN9.out, HOK7.out, HS7.out, HR4, ?_, ?_, HC9.out, HX9.out, HB9.out⟩, ?_⟩
          · have := hml.out
            show (mv ++ [_]).length ≤ i + 1
            rw [List.length_append]
            exact Nat.succ_le_succ this
          · rw [List.length_append]; exact HM9.out
          · show L - ((i : Int) + 1).toNat < L - (i : Int).toNat
            rw [A3.out, Int.toNat_natCast]
            exact A2.out _ rfl
    · have hiL : i = L := by omega
      subst hiL
      have hr4 := hrun.out
      rw [List.drop_of_length_le (by rw [← HLL.out]; exact Nat.le_refl _)] at hr4
      have HR4 : Hid (mv = r) := hr4
      clear hr4
      go_wp2_with fail
      go_ret2
      rw [← HR4.out]
      exact ⟨ma, mc, rfl, hM.out, hbe.out⟩
end Go.Proofs.Ytpecepfnmkpmmaa
