/- quota: firstCycle's closure, the walk. -/
import Derived.Test.YtpecepfnmkpmmaaQg
namespace Go.Proofs.Ytpecepfnmkpmmaa
open Go.RowKit Go.Kin Quo
set_option maxRecDepth 100000
set_option linter.unusedVariables false
theorem hp_new {w : World} {o : Obj} {g : Nat} (h : w.heap.size = g) : (w.alloc o).heap[g]? = some o := by subst h; exact heap_alloc_new w o
theorem hp_old {w : World} {o x : Obj} {g : Nat} (h : w.heap[g]? = some x) : (w.alloc o).heap[g]? = some x := by
  have hlt := (Array.getElem?_eq_some_iff.1 h).1
  exact ((Below.refl w.heap.size w).alloc (Nat.le_refl _) o).block g hlt |>.trans h

theorem ext_zero (w0 : World) (T : Tab) (ta : Option Addr) (n tc : Nat) (hT : VT T) (h0 : RdT w0 ta n tc T) (p : List Nat) (a : Option Addr) (m c : Nat) (w : World) (hp : Path n p) (hF : Fc w0 T ta n tc (usedL p) (.slice none 0 0) w) (hO : At vi (w0.heap.size + 4) 3 w a m c (p.map Int.ofNat)) (hm : m ≤ 12) :
    Calls Try.prog 56 #[.slice a m c, .int .i64 (m : Int), .pointer (some ⟨w0.heap.size, 0, none⟩), .pointer (some ⟨w0.heap.size + 1, 0, none⟩), .pointer (some ⟨w0.heap.size + 2, 0, none⟩), .pointer (some ⟨w0.heap.size + 3, 0, none⟩)] w (After w0 T ta n tc p a m c (ext T 0 p) w) := by
  obtain ⟨i0, hi, hz0, hz1, hz2⟩ := info_parts infoI
  have u0 := Try.underlying26
  have hl := hO.len
  rw [List.length_map] at hl
  have hpos : 0 < m := by rw [← hl]; exact List.length_pos_iff.2 hp.1
  have hlen := h0.len
  have hR := hO.rd
  have p0 : (p.map Int.ofNat)[0]? = some (p.headD 0 : Int) := by rw [List.getElem?_map, hp.first.1]; rfl
  have p1 : (p.map Int.ofNat)[m - 1]? = some (p.getLastD 0 : Int) := by rw [List.getElem?_map, ← hl, hp.last.1]; rfl
  obtain ⟨f, hf⟩ : ∃ f, f = p.headD 0 := ⟨_, rfl⟩
  obtain ⟨g, hg⟩ : ∃ g, g = p.getLastD 0 := ⟨_, rfl⟩
  rw [← hf] at p0; rw [← hg] at p1
  have hfn : f < n := by rw [hf]; exact hp.first.2
  have hgn : g < n := by rw [hg]; exact hp.last.2
  obtain ⟨r, hr, hrl, hrx, x0, x1⟩ := hT.cell (i := g) (j := f) (by omega) (by omega)
  obtain ⟨ra, rc, tb, tof, rfl, tc0, hrow⟩ := h0.at hr
  obtain ⟨rb, ro, rfl, rc0⟩ := hrow.cell f _ hrx
  obtain ⟨x, hx⟩ : ∃ x, x = at2 T g f := ⟨_, rfl⟩
  rw [← hx] at rc0
  rw [hrl, hlen] at tc0
  obtain ⟨b1, o1, rfl, c0⟩ := hR.cell 0 _ p0
  rw [Nat.add_zero] at c0
  change w.cell? _ = some (.int .i64 (f : Int)) at c0
  obtain ⟨M1, hM1⟩ : ∃ M1, M1 = m - 1 := ⟨_, rfl⟩
  rw [← hM1] at p1
  obtain ⟨b1', o1', e1, c1⟩ := hR.cell M1 _ p1
  cases e1
  change w.cell? _ = some (.int .i64 (g : Int)) at c1
  have q1 : IntKind.i64.wrap ((m : Int) - 1) = (M1 : Int) := by rw [IntKind.wrap_i64]; omega
  have q2 : (M1 : Int) < (m : Int) := by omega
  have q3 : wrap64 ((m : Int) - 1) = (M1 : Int) := by unfold wrap64; omega
  clear hM1
  have ct := cell_one hF.ct
  have cf := cell_one hF.cf
  have ff := free_one hF.cf 0
  have d0 : w.cell? ⟨tb, tof + g, none⟩ = some (.slice (some ⟨rb, ro, none⟩) n rc) := (cellBelow hF.bl (lt_of_cell tc0)).trans tc0
  have d1 : w.cell? ⟨rb, ro + f, none⟩ = some (.int .i64 x) := (cellBelow hF.bl (lt_of_cell rc0)).trans rc0
  have hR0 : ext T 0 p = if x = 0 then none else some p := by unfold ext; rw [← hf, ← hg, ← hx]
  rw [hR0]
  have HF := Lib.hid hF; have HO := Lib.hid hO; have HR := Lib.hid hR; have HP := Lib.hid hp
  have hn12 : n ≤ 12 := by have := hT.1; omega
  have hml := Lib.hid hl
  clear hF hO hR hrow hr hrx hrl rc0 tc0 hx hf hg hR0 p0 p1 h0 hp hl
  have i1 : (f : Int) < (n : Int) := by omega
  have i2 : (g : Int) < (n : Int) := by omega
  have i3 : (0 : Int) < (m : Int) := by omega
  by_cases hx0 : x = 0
  · subst hx0
    rw [if_pos rfl]
    go_enter Try.func56, Try.ntmps56
    go_wp2_with fail
    go_quiet (fail)
    go_wp2_with fail
    go_ret
    exact ⟨rfl, ⟨_, HF.out.fw (fdrewN (below_refl w) nq), fun _ => rfl, fun q h => by cases h⟩, HO.out.fw (fdrewN (below_refl w) nq), Nat.le_refl _, fun _ _ _ _ => rfl⟩
  · rw [if_neg hx0]
    have hx1 : (x == 0) = false := by simpa using hx0
    go_enter Try.func56, Try.ntmps56
    go_wp2_with fail
    go_quiet (fail)
    have hb0 := fdrewN (below_refl w) nq
    have HF2 := Lib.hid (HF.out.fw hb0)
    have HR2 := Lib.hid (HR.out.fw hb0)
    have HO2 := Lib.hid (HO.out.fw hb0)
    have hs2 : (w.drewN nq).heap.size = w.heap.size := rfl
    have hk3 : ∀ k : Nat, (w.drewN nq).heap[k]? = w.heap[k]? := fun _ => rfl
    have ct2 := cell_one HF2.out.ct
    have cf2 := cell_one HF2.out.cf
    have ff2 := free_one HF2.out.cf 0
    have d02 := (cellBelow hb0 (lt_of_cell d0)).trans d0
    have d12 := (cellBelow hb0 (lt_of_cell d1)).trans d1
    generalize w.drewN nq = w2 at *
    clear ct cf ff d0 d1 c0 c1 HF HR HO hb0
    go_wp2_with (at_builtin; refine wpList_push rfl (.tmp 34) (.tmp 35) 26 rfl vi vi_one (w0.heap.size + 4) 3 i0 (.int .i64 0) 8 u0 hi hz0 hz1 hz2 rfl none 0 0 [] rfl ⟨rfl, .inl ⟨rfl, rfl, rfl⟩⟩ ⟨b1, o1, none⟩ m c _ rfl HR2.out (by omega) (by unfold maxLen; omega) (by omega) HF2.out.size ?_; rw [Nat.zero_add, List.nil_append]; intro g5 c5 w5 hown hgr hlies; have HO5 := Lib.hid hown; have hbw : Below w2.heap.size w2 w5 := ⟨hgr.os, hgr.tape, hgr.output, hgr.size, fun k hk => hgr.block k hk (by simp [Value.ownBlock])⟩; have HF5 := Lib.hid (HF2.out.fw hbw); have HP5 := Lib.hid (HO2.out.fw hbw); have HBW := Lib.hid hbw; have cf5 := cell_one HF5.out.cf; have ff5 := free_one HF5.out.cf 0; clear hown hgr hlies hbw)
    go_ret
    have hsz := HF5.out.size
    refine ⟨rfl, ⟨_, HF5.out.found _, fun h => (by cases h), fun q h => ?_⟩, ?_, ?_, ?_⟩
    · cases h
      refine ⟨some ⟨g5, 0, none⟩, c5, by rw [hml.out], ?_⟩
      rw [hml.out]
      exact HO5.out.otherT (p := ⟨w0.heap.size + 1, 0, none⟩) HF5.out.cf tIS _
    · exact HP5.out.otherT (p := ⟨w0.heap.size + 1, 0, none⟩) HF5.out.cf tIS _
    · have := HBW.out.size
      simp [World.setCell]
      omega
    · intro k hk hk2 _
      rw [Below.heap_setCell _ _ _ _ (by show k ≠ w0.heap.size + 1; omega)]
      exact (HBW.out.block k (by omega)).trans (hk3 k)

theorem tIA : (3 : TypeId) ≠ 87 := by decide
theorem findSome_range {α : Type} (F : Nat → Option α) (d k : Nat) : (List.range' d (k + 1)).findSome? F = (F d).or ((List.range' (d + 1) k).findSome? F) := by
  rw [List.range'_succ, List.findSome?_cons]
  cases F d <;> rfl

set_option maxHeartbeats 1000000 in
theorem ext_any (w0 : World) (T : Tab) (ta : Option Addr) (n tc : Nat) (hT : VT T) (h0 : RdT w0 ta n tc T) (k : Nat) : ∀ (p : List Nat) (a : Option Addr) (m c : Nat) (w : World) (hp : Path n p) (hF : Fc w0 T ta n tc (usedL p) (.slice none 0 0) w) (hO : At vi (w0.heap.size + 4) 3 w a m c (p.map Int.ofNat)) (hm : m + k ≤ 12) (L : Int) (hL : L = ((m + k : Nat) : Int)),
    Calls Try.prog 56 #[.slice a m c, .int .i64 L, .pointer (some ⟨w0.heap.size, 0, none⟩), .pointer (some ⟨w0.heap.size + 1, 0, none⟩), .pointer (some ⟨w0.heap.size + 2, 0, none⟩), .pointer (some ⟨w0.heap.size + 3, 0, none⟩)] w (After w0 T ta n tc p a m c (ext T k p) w) := by
  induction k with
  | zero =>
    intro p a m c w hp hF hO hm L hL
    subst hL
    exact ext_zero w0 T ta n tc hT h0 p a m c w hp hF hO hm
  | succ k ih =>
    intro p a m c w hp hF hO hm L hL
    have IH := Lib.hid ih
    clear ih
    obtain ⟨i0, hi, hz0, hz1, hz2⟩ := info_parts infoI
    have u0 := Try.underlying26
    have hl := hO.len
    rw [List.length_map] at hl
    have hpos : 0 < m := by rw [← hl]; exact List.length_pos_iff.2 hp.1
    have hlen := h0.len
    have hR := hO.rd
    have p0 : (p.map Int.ofNat)[0]? = some (p.headD 0 : Int) := by rw [List.getElem?_map, hp.first.1]; rfl
    have p1 : (p.map Int.ofNat)[m - 1]? = some (p.getLastD 0 : Int) := by rw [List.getElem?_map, ← hl, hp.last.1]; rfl
    obtain ⟨f, hf⟩ : ∃ f, f = p.headD 0 := ⟨_, rfl⟩
    obtain ⟨g, hg⟩ : ∃ g, g = p.getLastD 0 := ⟨_, rfl⟩
    rw [← hf] at p0; rw [← hg] at p1
    have hfn : f < n := by rw [hf]; exact hp.first.2
    have hgn : g < n := by rw [hg]; exact hp.last.2
    obtain ⟨M1, hM1⟩ : ∃ M1, M1 = m - 1 := ⟨_, rfl⟩
    rw [← hM1] at p1
    obtain ⟨b1, o1, rfl, c0⟩ := hR.cell 0 _ p0
    rw [Nat.add_zero] at c0
    change w.cell? _ = some (.int .i64 (f : Int)) at c0
    obtain ⟨b1', o1', e1, c1⟩ := hR.cell M1 _ p1
    cases e1
    change w.cell? _ = some (.int .i64 (g : Int)) at c1
    have q1 : IntKind.i64.wrap ((m : Int) - 1) = (M1 : Int) := by rw [IntKind.wrap_i64]; omega
    have q2 : (M1 : Int) < (m : Int) := by omega
    have q3 : wrap64 ((m : Int) - 1) = (M1 : Int) := by unfold wrap64; omega
    have q4 : ((m : Int) == L) = false := by rw [hL]; simp; omega
    clear hM1
    obtain ⟨R, hRR⟩ : ∃ R, R = ext T (k + 1) p := ⟨_, rfl⟩
    obtain ⟨F, hFF⟩ : ∃ F : Nat → Option (List Nat), F = fun d => if d ∈ p ∨ at2 T g d = 0 then none else ext T k (p ++ [d]) := ⟨_, rfl⟩
    have hR0 : (List.range' (f + 1) (n - (f + 1))).findSome? F = R := by
      have : ext T (k + 1) p = (List.range' (p.headD 0 + 1) (T.length - (p.headD 0 + 1))).findSome? fun d => if d ∈ p ∨ at2 T (p.getLastD 0) d = 0 then none else ext T k (p ++ [d]) := rfl
      rw [hRR, hFF, this, ← hf, ← hg, hlen]
    have HFD := Lib.hid (show ∀ d, F d = if d ∈ p ∨ at2 T g d = 0 then none else ext T k (p ++ [d]) from fun d => by rw [hFF])
    rw [← hRR]
    have HF := Lib.hid hF; have HO := Lib.hid hO; have HP := Lib.hid hp; have HR0 := Lib.hid hR0; have HLL := Lib.hid hL
    have HF1 := Lib.hid hf; have HG1 := Lib.hid hg
    have HH0 := Lib.hid h0; have HT := Lib.hid hT
    have hn12 : n ≤ 12 := by have := hT.1; omega
    have hml := Lib.hid hl; have hlen2 := Lib.hid hlen
    clear hF hO hR hR0 hRR hFF p0 p1 h0 hp hl hf hg hT hlen hL
    have i1 : (f : Int) < (n : Int) := by omega
    have i2 : (g : Int) < (n : Int) := by omega
    have i3 : (0 : Int) < (m : Int) := by omega
    go_enter Try.func56, Try.ntmps56
    go_wp2_with fail
    go_quiet (fail)
    have HB0 := Lib.hid (fdrewN (below_refl w) nq)
    go_wp2_with fail
    go_loopw [11] (fun z wr => ∃ d : Nat, f + 1 ≤ d ∧ d ≤ n ∧ z = .int .i64 (d : Int) ∧ Hid ((List.range' d (n - d)).findSome? F = R) ∧ Hid (Fc w0 T ta n tc (usedL p) (.slice none 0 0) wr) ∧ Hid (At vi (w0.heap.size + 4) 3 wr (some ⟨b1, o1, none⟩) m c (p.map Int.ofNat)) ∧ Hid (Off w0.heap.size (.slice (some ⟨b1, o1, none⟩) m c) w wr)) (fun z _ => n - (intOf z).toNat)
    case atStart => exact ⟨f + 1, Nat.le_refl _, by omega, by go_num, HR0.out, HF.out.fw HB0.out, HO.out.fw HB0.out, Nat.le_refl _, fun _ _ _ _ => rfl⟩
    case round =>
      obtain ⟨d, hd1, hd2, rfl, hfs, hF, hO, hoff⟩ := hrel
      have ct := cell_one hF.out.ct
      have ce := cell_one hF.out.ce
      by_cases hlt : d < n
      · have j2 : (d : Int) < (n : Int) := by omega
        have j3 : (d : Int) < 12 := by omega
        have HD := Lib.hid (show Hid (True) from True.intro)
        have hsp := findSome_range F d (n - (d + 1))
        rw [show n - (d + 1) + 1 = n - d by omega, hfs.out, HFD.out] at hsp
        have HSP := Lib.hid hsp
        clear hsp HD
        have cu := hF.out.cu.cell (usedL_get p (d := d) (by omega))
        have fu := hF.out.cu.frozen d
        unfold vbo at cu
        by_cases hdp : d ∈ p
        · have hdt : decide (d ∈ p.tail) = true := decide_eq_true ((HP.out.mem (by rw [← HF1.out]; omega)).1 hdp)
          rw [hdt] at cu
          have hnx : Hid ((List.range' (d + 1) (n - (d + 1))).findSome? F = R) := by have := HSP.out; rw [if_pos (.inl hdp)] at this; exact this.symm
          clear hdt
          go_wp2_with fail
          go_roundw
          case rel => exact ⟨d + 1, by omega, by omega, by go_num, hnx, hF, hO, hoff⟩
          case measure => simp [intOf]; omega
        · have hdt : decide (d ∈ p.tail) = false := decide_eq_false fun h => hdp ((HP.out.mem (by rw [← HF1.out]; omega)).2 h)
          rw [hdt] at cu
          obtain ⟨r, hr, hrl, hrx, x0, x1⟩ := HT.out.cell (i := g) (j := d) (by rw [hlen2.out]; omega) (by rw [hlen2.out]; omega)
          obtain ⟨ra, rc, tb, tof, rfl, tc0, hrow⟩ := HH0.out.at hr
          obtain ⟨rb, ro, rfl, rc0⟩ := hrow.cell d _ hrx
          obtain ⟨x, hx⟩ : ∃ x, x = at2 T g d := ⟨_, rfl⟩
          rw [← hx] at rc0
          rw [hrl, hlen2.out] at tc0
          have d0 : wr.cell? ⟨tb, tof + g, none⟩ = some (.slice (some ⟨rb, ro, none⟩) n rc) := (cellBelow hF.out.bl (lt_of_cell tc0)).trans tc0
          have d1 : wr.cell? ⟨rb, ro + d, none⟩ = some (.int .i64 x) := (cellBelow hF.out.bl (lt_of_cell rc0)).trans rc0
          have HX := Lib.hid hx
          clear tc0 rc0 hrow hr hrx hrl x0 x1 hx hdt
          by_cases hx0 : x = 0
          · subst hx0
            have hnx : Hid ((List.range' (d + 1) (n - (d + 1))).findSome? F = R) := by have := HSP.out; rw [if_pos (.inr HX.out.symm)] at this; exact this.symm
            go_wp2_with fail
            go_roundw
            case rel => exact ⟨d + 1, by omega, by omega, by go_num, hnx, hF, hO, hoff⟩
            case measure => simp [intOf]; omega
          · have hx1 : (x == 0) = false := by simpa using hx0
            have hsp2 : Hid ((ext T k (p ++ [d])).or ((List.range' (d + 1) (n - (d + 1))).findSome? F) = R) := by have := HSP.out; rw [if_neg (by rintro (h | h); exact hdp h; exact hx0 (HX.out.trans h))] at this; exact this.symm
            have hF1 := hF.out.used d true
            rw [usedL_snoc HP.out.1 (by omega)] at hF1
            have hO1 := hO.out.otherT (p := ⟨w0.heap.size + 2, d, none⟩) hF.out.cu tIA (.bool true)
            have hz1' : (wr.setCell ⟨w0.heap.size + 2, d, none⟩ (.bool true)).heap.size = wr.heap.size := by simp [World.setCell]
            have hk1 : ∀ q : Nat, w0.heap.size + 4 ≤ q → (wr.setCell ⟨w0.heap.size + 2, d, none⟩ (.bool true)).heap[q]? = wr.heap[q]? := fun q hq => Below.heap_setCell _ _ _ _ (by show q ≠ w0.heap.size + 2; omega)
            have hPS := Lib.hid (HP.out.snoc (d := d) (by rw [← HF1.out]; omega) hlt)
            have ND := Lib.hid (show d ∉ p.tail from fun h => hdp ((HP.out.mem (by rw [← HF1.out]; omega)).2 h))
            have HF1' := Lib.hid hF1; have HO1 := Lib.hid hO1
            clear hF1 hO1 hdp HSP HX
            go_wp2_with fail
            generalize wr.setCell ⟨w0.heap.size + 2, d, none⟩ (.bool true) = w1 at *
            have ce1 := cell_one HF1'.out.ce
            unfold caps at ce1
            have HZ1 := Lib.hid hz1'; have HK1 := Lib.hid hk1
            clear ct ce cu fu d0 d1 c0 c1 hx0 hx1 hz1' hk1
            have hs1 := HF1'.out.size
            go_region_held3 (fun w' => w'.cell? ⟨w0.heap.size + 3, 0, none⟩ = some (.func (.func 56) #[] #[.pointer (some ⟨w0.heap.size, 0, none⟩), .pointer (some ⟨w0.heap.size + 1, 0, none⟩), .pointer (some ⟨w0.heap.size + 2, 0, none⟩), .pointer (some ⟨w0.heap.size + 3, 0, none⟩)]))
              (first
                | exact ce1
                | exact ce5
                | exact ce6
                | exact (cellBelow (show Below w1.heap.size w1 _ from (by repeat (first | exact below_refl _ | refine Below.drew ?_ | refine below_alloc _ ?_))) (by omega)).trans ce1
                | go_keep)
              (first
                | (refine step_push_at _ (by rfl) (.tmp 61) (.tmp 63) 26 (by rfl) vi vi_one (w0.heap.size + 4) 3 i0 (.int .i64 0) 8 u0 hi hz0 hz1 hz2 rfl (some ⟨b1, o1, none⟩) m c _ (by rfl) (HO1.out.fw (by repeat (first | exact below_refl _ | refine Below.drew ?_ | refine below_alloc _ ?_))) w1.heap.size (d : Int) 3 (0, 0) (by rfl) (by first | exact hp_new (by simp) | exact hp_old (hp_new (by simp))) (by omega) (by omega) (by simp; omega) ?_; intro sa5 c5 w5 hown5 hg5; have PS := Lib.hid (Psh.mk' HF1'.out HO1.out (by repeat (first | exact below_refl _ | refine Below.drew ?_ | refine below_alloc _ ?_)) hown5 hg5); have ce5 := cell_one PS.out.fc.ce; unfold caps at ce5; clear hown5 hg5)
                | (go_simp; go_at_call 56; refine (IH.out (p ++ [d]) sa5 (m + 1) c5 _ hPS.out PS.out.fc PS.out.at5 (by omega) L (by rw [HLL.out]; congr 1; omega)).mono ?_; intro e w6 hA; have HA := Lib.hid hA; have ce6 := hA.ce; unfold caps at ce6; obtain ⟨rfl, _⟩ := hA)
                | fail)
            have hoff1 : Off w0.heap.size (.slice (some ⟨b1, o1, none⟩) m c) w w1 := ⟨by rw [HZ1.out]; exact hoff.out.1, fun q h1 h2 h3 => (HK1.out q h1).trans (hoff.out.2 q h1 h2 h3)⟩
            have hback := PS.out.back HO1.out hml.out HA.out hoff1
            have HB6 := Lib.hid hback.1; have HOF6 := Lib.hid hback.2
            obtain ⟨_, ⟨fv, hF6, hn6, hs6⟩, _, _⟩ := HA.out
            have hF7 := hF6.used d false
            rw [usedL_back HP.out.1 (by omega) ND.out] at hF7
            have cu6 := hF6.cu.cell (usedL_get (p ++ [d]) (d := d) (by omega))
            have fu6 := hF6.cu.frozen d
            unfold vbo at cu6
            have HF7 := Lib.hid hF7; have HN6 := Lib.hid hn6; have HS6 := Lib.hid hs6; have HCU := Lib.hid hF6.cu
            have HA6 := Lib.hid (hback.1.otherT (p := ⟨w0.heap.size + 2, d, none⟩) hF6.cu tIA (.bool false))
            have HO6 : Hid (Off w0.heap.size (.slice (some ⟨b1, o1, none⟩) m c) w (w6.setCell ⟨w0.heap.size + 2, d, none⟩ (.bool false))) := ⟨by have := hback.2.1; simp [World.setCell]; exact this, fun q h1 h2 h3 => (Below.heap_setCell _ _ _ _ (by show q ≠ w0.heap.size + 2; omega)).trans (hback.2.2 q h1 h2 h3)⟩
            clear hoff1 hback hF6 hn6 hs6 hF7 ce1 ce5 ce6 HA
            cases hRk : ext T k (p ++ [d]) with
            | none =>
              have hnx : Hid ((List.range' (d + 1) (n - (d + 1))).findSome? F = R) := by have := hsp2.out; rw [hRk] at this; exact this
              have hfv := HN6.out hRk
              subst hfv
              go_wp2_with fail
              go_roundw
              case rel => exact ⟨d + 1, by omega, by omega, by go_num, hnx, HF7, HA6, HO6⟩
              case measure => simp [intOf]; omega
            | some q =>
              have hRq : Hid (some q = R) := by have := hsp2.out; rw [hRk] at this; exact this
              obtain ⟨fa, fc, rfl, hfo⟩ := HS6.out q hRk
              have HFO := Lib.hid (hfo.otherT (p := ⟨w0.heap.size + 2, d, none⟩) HCU.out tIA (.bool false))
              clear hfo
              go_wp2_with fail
              go_ret
              refine ⟨by rw [← hRq.out]; rfl, ⟨_, HF7.out, fun h => (by rw [← hRq.out] at h; cases h), fun q' h => ?_⟩, HA6.out, HO6.out⟩
              rw [← hRq.out] at h
              cases h
              exact ⟨fa, fc, rfl, HFO.out⟩
      · have hdn : d = n := by omega
        subst hdn
        have hRn : R = none := by have := hfs.out; rw [Nat.sub_self] at this; exact this.symm
        subst hRn
        go_wp2_with fail
        go_ret
        exact ⟨rfl, ⟨_, hF.out, fun _ => rfl, fun q h => by cases h⟩, hO.out, hoff.out⟩
end Go.Proofs.Ytpecepfnmkpmmaa
