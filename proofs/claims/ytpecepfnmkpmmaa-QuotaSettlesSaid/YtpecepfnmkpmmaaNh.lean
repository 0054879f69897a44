/- quota: reliefNetwork. -/
import Derived.Test.YtpecepfnmkpmmaaNg
import Derived.Test.YtpecepfnmkpmmaaQl
import Derived.Test.YtpecepfnmkpmmaaNi
namespace Go.Proofs.Ytpecepfnmkpmmaa
open Go.RowKit Go.Kin Quo
set_option maxRecDepth 100000
set_option linter.unusedVariables false
/-- What reliefNetwork reads beside the network. -/
structure RE (w0 : World) (T : Tab) (qa : Option Addr) (n qc gt gl : Nat) (w : World) : Prop where
  bl : Below w0.heap.size w0 w
  cq : w.heap[w0.heap.size]? = some (.cells #[.slice qa n qc] 26 (0, 0))
  ct : w.heap[gt]? = some (.cells #[.slice (some ⟨gl, 0, none⟩) n n] 26 (0, 0))
  cl : Blk vi 3 w gl (heldF T)
theorem RE.fr {w0 w w' : World} {T : Tab} {qa : Option Addr} {n qc gt gl : Nat} {X : List Nat} (h : RE w0 T qa n qc gt gl w) (hf : Fr (w0.heap.size + 1) X w w') (h1 : gt ∈ X) (h2 : gl ∈ X) : RE w0 T qa n qc gt gl w' := by
  have hs := (Array.getElem?_eq_some_iff.1 h.cq).1
  refine ⟨h.bl.trans ⟨hf.os, hf.tape, hf.output, hf.size, fun k hk => hf.block k (by omega) (.inl (by omega))⟩, (hf.block _ hs (.inl (by omega))).trans h.cq, (hf.block _ (Array.getElem?_eq_some_iff.1 h.ct).1 (.inr h1)).trans h.ct, (hf.block _ h.cl.lt (.inr h2)).trans h.cl⟩
theorem RE.fw {w0 w w' : World} {T : Tab} {qa : Option Addr} {n qc gt gl : Nat} (h : RE w0 T qa n qc gt gl w) (hb : Below w.heap.size w w') : RE w0 T qa n qc gt gl w' :=
  h.fr (X := [gt, gl]) (Fr.of_below hb) (by simp) (by simp)

theorem w64n {a : Int} (h : -9223372036854775808 ≤ a ∧ a ≤ 9223372036854775807) : wrap64 a = a := by unfold wrap64; omega
theorem iwn {a : Int} (h : -9223372036854775808 ≤ a ∧ a ≤ 9223372036854775807) : IntKind.i64.wrap a = a := by rw [IntKind.wrap_i64]; omega
theorem RE.cells {w0 w : World} {T : Tab} {qa : Option Addr} {n qc gt gl : Nat} {q : List Int} (h : RE w0 T qa n qc gt gl w) (hq : Rd vi w0 qa n qc q) (hT : T.length = n) {d : Nat} (hd : d < n) :
    ∃ qb qo, qa = some ⟨qb, qo, none⟩ ∧ w.cell? ⟨qb, qo + d, none⟩ = some (.int .i64 (q.getD d 0)) ∧ w.cell? ⟨w0.heap.size, 0, none⟩ = some (.slice qa n qc) ∧ w.cell? ⟨gt, 0, none⟩ = some (.slice (some ⟨gl, 0, none⟩) n n) ∧ w.cell? ⟨gl, d, none⟩ = some (.int .i64 (loadOf T d)) := by
  obtain ⟨qb, qo, rfl, x⟩ := hq.cell d _ (get_some (by rw [hq.len]; exact hd) 0)
  have y := h.cl.cell (get_some (l := heldF T) (i := d) (by rw [held_length, hT]; exact hd) 0)
  exact ⟨qb, qo, rfl, (cellBelow h.bl (lt_of_cell x)).trans x, cell_one h.cq, cell_one h.ct, y⟩
theorem RE.over {w0 w : World} {T : Tab} {qa : Option Addr} {n qc gt gl : Nat} {q : List Int} (h : RE w0 T qa n qc gt gl w) (hq : Rd vi w0 qa n qc q) (hT : T.length = n) (hn : n ≤ 12) {d : Nat} (hd : d < n) :
    Calls Try.prog 59 #[.int .i64 (d : Int), .pointer (some ⟨gt, 0, none⟩), .pointer (some ⟨w0.heap.size, 0, none⟩)] w fun e w' => e = .returned (.bool (decide (over T q d))) ∧ ∃ m, w' = w.drewN m :=
  over_any T q qa n qc w0.heap.size gt gl d w (hq.fw h.bl) (h.cl.rdn (by rw [held_length, hT]) (Nat.le_refl _) (by omega)) h.cq h.ct hd

theorem RE.sz {w0 w : World} {T : Tab} {qa : Option Addr} {n qc gt gl : Nat} (h : RE w0 T qa n qc gt gl w) : (∀ x ∈ [gt, gl], x < w.heap.size) ∧ w0.heap.size + 1 ≤ w.heap.size := by
  refine ⟨fun x hx => ?_, (Array.getElem?_eq_some_iff.1 h.cq).1⟩
  simp at hx
  rcases hx with rfl | rfl
  · exact (Array.getElem?_eq_some_iff.1 h.ct).1
  · exact h.cl.lt
/-- An arc more, in reliefNetwork. -/
theorem RE.add {w0 w : World} {T : Tab} {qa : Option Addr} {n qc gt gl bg N m : Nat} {X : List Nat} {G : Net} (hR : RE w0 T qa n qc gt gl w) (h1 : gt ∈ X) (h2 : gl ∈ X) (hX : ∀ x ∈ X, x < w.heap.size) (hM : NetM w (w0.heap.size + 1) X bg G) (hS : Shp G N m) (hN : N ≤ 1000) (hm : m ≤ 4000) {f t : Nat} (hf : f < N) (ht : t < N) (f' t' r : Int) (hf' : f' = (f : Int)) (ht' : t' = (t : Int)) :
    Calls Try.prog 60 #[.pointer (some ⟨bg, 0, none⟩), .int .i64 f', .int .i64 t', .int .i64 r] w fun e w' => e = .returned (.int .i64 (G.arcs.length : Int)) ∧ NetM w' (w0.heap.size + 1) X bg (G.add f t r) ∧ Shp (G.add f t r) N (m + 1) ∧ RE w0 T qa n qc gt gl w' ∧ Fr (w0.heap.size + 1) X w w' := by
  subst hf' ht'
  have hok := hS.ok hN (by omega)
  refine (add_any bg f t r (w0.heap.size + 1) X G w hM (by rw [hS.nodes]; exact hf) (by rw [hS.nodes]; exact ht) hX hR.sz.2 hok.arcs hok.nodes hok.rows).mono ?_
  rintro e w' ⟨he, hM', hF⟩
  exact ⟨he, hM', hS.add hf ht r, hR.fr hF h1 h2, hF⟩

/-- The second stage: network and choices. -/
structure REC (w0 : World) (T : Tab) (qa : Option Addr) (n qc gt gl N m bg : Nat) (X : List Nat) (S : Net × List Ch) (ca : Option Addr) (cc : Nat) (w : World) : Prop where
  re : RE w0 T qa n qc gt gl w
  net : NetM w (w0.heap.size + 1) X bg S.1
  shp : Shp S.1 N m
  own : OwnA vc 7 (w0.heap.size + 1) 71 w ca S.2.length cc S.2
  gt : gt ∈ X
  gl : gl ∈ X
  ca : ∀ x, ca = some x → x.block ∈ X
  xs : ∀ x ∈ X, x < w.heap.size
theorem REC.fw {w0 w w' : World} {T : Tab} {qa : Option Addr} {n qc gt gl N m bg : Nat} {X : List Nat} {S : Net × List Ch} {ca : Option Addr} {cc : Nat} (h : REC w0 T qa n qc gt gl N m bg X S ca cc w) (hb : Below w.heap.size w w') : REC w0 T qa n qc gt gl N m bg X S ca cc w' :=
  ⟨h.re.fw hb, h.net.fw hb, h.shp, h.own.same fun x hx => hb.block _ (h.own.blt hx).1, h.gt, h.gl, h.ca, fun x hx => Nat.lt_of_lt_of_le (h.xs x hx) hb.size⟩
theorem REC.add {w0 w : World} {T : Tab} {qa : Option Addr} {n qc gt gl N m bg : Nat} {X : List Nat} {S : Net × List Ch} {ca : Option Addr} {cc : Nat} (h : REC w0 T qa n qc gt gl N m bg X S ca cc w) (hN : N ≤ 1000) (hm : m ≤ 4000) {f t : Nat} (hf : f < N) (ht : t < N) (f' t' r : Int) (hf' : f' = (f : Int)) (ht' : t' = (t : Int)) :
    Calls Try.prog 60 #[.pointer (some ⟨bg, 0, none⟩), .int .i64 f', .int .i64 t', .int .i64 r] w fun e w' => e = .returned (.int .i64 (S.1.arcs.length : Int)) ∧ REC w0 T qa n qc gt gl N (m + 1) bg X (S.1.add f t r, S.2) ca cc w' := by
  refine (h.re.add h.gt h.gl h.xs h.net h.shp hN hm hf ht f' t' r hf' ht').mono ?_
  rintro e w' ⟨he, h1, h2, h3, h4⟩
  exact ⟨he, h3, h1, h2, h.own.same fun x hx => h4.block _ (h.own.blt hx).1 (.inr (h.ca x hx)), h.gt, h.gl, h.ca, fun x hx => Nat.lt_of_lt_of_le (h.xs x hx) h4.size⟩
theorem ct1 : (71 : TypeId) ≠ 3 := by decide
theorem ct2 : (71 : TypeId) ≠ 26 := by decide
/-- A choice more. -/
theorem REC.push {w0 w w' : World} {T : Tab} {qa : Option Addr} {n qc gt gl N m bg : Nat} {X : List Nat} {S : Net × List Ch} {ca : Option Addr} {cc : Nat} (h : REC w0 T qa n qc gt gl N m bg X S ca cc w) (c : Ch) {g5 c5 : Nat} (hg : w.grownBy w' (Value.slice ca S.2.length cc).ownBlock) (ho : OwnA vc 7 (w0.heap.size + 1) 71 w' (some ⟨g5, 0, none⟩) (S.2.length + 1) c5 (S.2 ++ [c])) (hl : (Value.slice ca S.2.length cc).ownBlock = some g5 ∨ g5 = w.heap.size) :
    REC w0 T qa n qc gt gl N m bg (g5 :: X) (S.1, S.2 ++ [c]) (some ⟨g5, 0, none⟩) c5 w' := by
  have keep : ∀ {k : Nat} {cur : Array Value} {E : TypeId}, w.heap[k]? = some (.cells cur E (0, 0)) → 71 ≠ E → w'.heap[k]? = w.heap[k]? := by
    intro k cur E hk hE
    refine hg.block k (Array.getElem?_eq_some_iff.1 hk).1 fun e => ?_
    obtain ⟨x, hx, hb⟩ := ownBlock_eq e.symm
    obtain ⟨_, _, cur2, h2⟩ := h.own.blt hx
    rw [hb, hk] at h2
    cases h2
    exact hE rfl
  have hbl : Below w0.heap.size w0 w' := h.re.bl.grown hg h.re.bl.size fun k hk => by
    obtain ⟨x, hx, hb⟩ := ownBlock_eq hk
    have := (h.own.blt hx).2.1
    omega
  refine ⟨⟨hbl, (keep h.re.cq ct2).trans h.re.cq, (keep h.re.ct ct2).trans h.re.ct, (keep h.re.cl ct1).trans h.re.cl⟩, h.net.appended h.ca hg hl, h.shp, ?_, List.mem_cons_of_mem _ h.gt, List.mem_cons_of_mem _ h.gl, fun x hx => ?_, fun x hx => ?_⟩
  · rw [List.length_append]; exact ho
  · cases hx; exact List.mem_cons_self ..
  · rcases List.mem_cons.1 hx with e | e
    · rw [e]; exact (ho.blt (x := ⟨g5, 0, none⟩) rfl).1
    · exact Nat.lt_of_lt_of_le (h.xs x e) hg.size
set_option maxHeartbeats 40000000 in
theorem relief_any (ta : Option Addr) (n tc : Nat) (T : Tab) (qa : Option Addr) (qc : Nat) (q : List Int) (w : World) (h : RdT w ta n tc T) (h2 : Rd vi w qa n qc q) (hf : Fit T q) :
    Calls Try.prog 45 #[.slice ta n tc, .slice qa n qc] w fun e w' => ∃ bg X ca cc, e = .returned (.tuple #[.pointer (some ⟨bg, 0, none⟩), .slice ca (relief T q).2.1.length cc, .int .i64 (relief T q).2.2]) ∧ NetM w' (w.heap.size + 1) X bg (relief T q).1 ∧ NetOk (relief T q).1 ∧ OwnA vc 7 (w.heap.size + 1) 71 w' ca (relief T q).2.1.length cc (relief T q).2.1 ∧ (∀ x, ca = some x → x.block ∈ X) ∧ (∀ x ∈ X, x < w'.heap.size) ∧ Below w.heap.size w w' := by
  have hmf : ∀ (fn : Fn) (first cap : Array Value) (w : World), (Instr.makeFunc fn first cap).run Try.prog w = .ok (.func fn first cap) w := fun _ _ _ _ => rfl
  have hlen := h.len
  have hn12 : n ≤ 12 := by have := hf.1.1; omega
  obtain ⟨N, hN⟩ : ∃ N, N = 2 + 2 * n + n * n := ⟨_, rfl⟩
  have hNb : N ≤ 1000 := by
    have : n * n ≤ 12 * 12 := Nat.mul_le_mul hn12 hn12
    omega
  have hba := below_alloc (.cells #[.slice qa n qc] 26) (below_refl w)
  have HT0 := Lib.hid h
  have H := Lib.hid (h.fw hba); have H2 := Lib.hid (h2.fw hba); have HF := Lib.hid hf; have HLEN := Lib.hid hlen
  have HNE := Lib.hid hN
  have h2W := h2
  have hNlow : 2 + 2 * n ≤ N := by rw [hN]; exact Nat.le_add_right _ _
  have HWR : Hid (wrap64 (2 + 2 * (n : Int) + wrap64 ((n : Int) * (n : Int))) = (N : Int)) := by
    have e : ((n : Int) * (n : Int)) = ((n * n : Nat) : Int) := by simp
    have : n * n ≤ 12 * 12 := Nat.mul_le_mul hn12 hn12
    show _ = _
    rw [e]
    unfold wrap64
    omega
  clear h h2 hf hlen hba hN
  go_enter Try.func45, Try.ntmps45
  go_wp2_with (first
    | (go_at_call 58; rw [HWR.out]; refine (newnet_any N _ hNb).mono ?_; rintro e w1 ⟨bg, rfl, hN1, hb1⟩; have HN1 := Lib.hid hN1; have HB1 := Lib.hid hb1; clear hN1 hb1)
    | (go_at_call 40; refine (held_any _ _ _ T _ (H.out.fw HB1.out) HF.out.1).mono ?_; rintro e w2 ⟨gl, rfl, hgl, hB2, hb2⟩; have HB2 := Lib.hid hb2; have HL2 := Lib.hid hB2; have HGL := Lib.hid hgl; clear hB2 hb2 hgl))
  have hbx := below_alloc (.cells #[.slice (some ⟨gl, 0, none⟩) n n] 26) (below_refl w2)
  have hws : (w.alloc (.cells #[.slice qa n qc] 26)).heap.size = w.heap.size + 1 := by simp
  have hN1 := HN1.out
  rw [hws] at hN1
  have hs1 := HB1.out.size
  have hs2 := HB2.out.size
  have hglt := HL2.out.lt
  have HNX : Hid (NetM (w2.alloc (.cells #[.slice (some ⟨gl, 0, none⟩) n n] 26)) (w.heap.size + 1) [w2.heap.size, gl] bg (net0 n)) := by
    have h1 : NetM w1 (w.heap.size + 1) [gl] bg ⟨[], List.replicate N []⟩ := hN1.exclude HGL.out
    have h2 : NetM w2 (w.heap.size + 1) [w2.heap.size, gl] bg ⟨[], List.replicate N []⟩ := (h1.fw HB2.out).exclude (Nat.le_refl _)
    have h3 := h2.fw hbx
    rw [HNE.out] at h3
    exact h3
  have HRE : Hid (RE w T qa n qc w2.heap.size gl (w2.alloc (.cells #[.slice (some ⟨gl, 0, none⟩) n n] 26))) := by
    have hbb := below_alloc (.cells #[.slice qa n qc] 26) (below_refl w)
    refine ⟨bt hbb (bt HB1.out (bt HB2.out hbx)), ?_, hp_new rfl, HL2.out.fw hbx⟩
    have c0 : (w.alloc (.cells #[.slice qa n qc] 26)).heap[w.heap.size]? = some (.cells #[.slice qa n qc] 26 (0, 0)) := hp_new rfl
    exact ((bt HB1.out (bt HB2.out hbx)).block _ (by rw [hws]; omega)).trans c0
  clear hN1 hbx
  generalize hgt : w2.heap.size = gt at HNX HRE ⊢
  generalize w2.alloc (.cells #[.slice (some ⟨gl, 0, none⟩) n n] 26) = w3 at HNX HRE ⊢
  have HQ := Lib.hid h2W
  have HGT : Hid (gt ∈ [gt, gl]) := by show gt ∈ [gt, gl]; simp
  have HGL2 : Hid (gl ∈ [gt, gl]) := by show gl ∈ [gt, gl]; simp
  have hstart : Hid (NetM w3 (w.heap.size + 1) [gt, gl] bg ((List.range 0).foldl (relA T q) (net0 n, 0)).1 ∧ Shp ((List.range 0).foldl (relA T q) (net0 n, 0)).1 N 0 ∧ RE w T qa n qc gt gl w3) := ⟨HNX.out, by rw [HNE.out]; exact net0_shp n, HRE.out⟩
  go_loopw [11, 33] (fun y z wr => ∃ j : Nat, j ≤ n ∧ z = .int .i64 (j : Int) ∧ y = .int .i64 ((List.range j).foldl (relA T q) (net0 n, 0)).2 ∧ Hid (NetM wr (w.heap.size + 1) [gt, gl] bg ((List.range j).foldl (relA T q) (net0 n, 0)).1 ∧ Shp ((List.range j).foldl (relA T q) (net0 n, 0)).1 N j ∧ RE w T qa n qc gt gl wr) ∧ Hid (0 ≤ ((List.range j).foldl (relA T q) (net0 n, 0)).2 ∧ ((List.range j).foldl (relA T q) (net0 n, 0)).2 ≤ j * 13194139533312)) (fun _ z _ => n - (intOf z).toNat)
  case atStart => exact ⟨0, by omega, rfl, rfl, hstart.out, by show (0:Int) ≤ 0 ∧ (0:Int) ≤ _; simp⟩
  case round =>
    obtain ⟨j, hj, rfl, rfl, hM, hE⟩ := hrel
    rename World => wo
    by_cases hlt : j < n
    · have i2 : (j : Int) < (n : Int) := by omega
      obtain ⟨G, hG⟩ : ∃ G, G = ((List.range j).foldl (relA T q) (net0 n, 0)).1 := ⟨_, rfl⟩
      obtain ⟨E, hEE⟩ : ∃ E, E = ((List.range j).foldl (relA T q) (net0 n, 0)).2 := ⟨_, rfl⟩
      have HS : Hid ((List.range (j + 1)).foldl (relA T q) (net0 n, 0) = relA T q (G, E) j) := by show _ = _; rw [foldl_range, hG, hEE]
      rw [← hG] at hM
      rw [← hEE] at hE ⊢
      have hM1 := hM.out.1; have hM2 := hM.out.2.1
      have HOK : Hid (NetOk G) := hM2.ok hNb (by omega)
      have HM1 := Lib.hid hM1; have HM2 := Lib.hid hM2; have HR := Lib.hid hM.out.2.2
      obtain ⟨y, hy⟩ : ∃ y, y = loadOf T j := ⟨_, rfl⟩
      obtain ⟨x, hx⟩ : ∃ x, x = q.getD j 0 := ⟨_, rfl⟩
      have hyb := held_bound HF.out.1 (i := j) (by rw [HLEN.out]; exact hlt)
      change 0 ≤ loadOf T j ∧ loadOf T j ≤ _ at hyb
      have hxb := HF.out.2.2 _ (List.mem_of_getElem? (get_some (l := q) (i := j) (by rw [HF.out.2.1, HLEN.out]; exact hlt) 0))
      rw [← hy] at hyb
      rw [← hx] at hxb
      unfold maxC at hyb hxb
      have HYX := Lib.hid hy; have HXX := Lib.hid hx
      have hEb := hE.out
      clear hG hEE hM hM1 hM2 hy hx
      by_cases hov : over T q j
      · have hd := decide_eq_true hov
        have hyx : x < y := by rw [HXX.out, HYX.out]; exact hov
        have B1 : -9223372036854775808 ≤ y - x ∧ y - x ≤ 9223372036854775807 := by omega
        have B2 : -9223372036854775808 ≤ E + (y - x) ∧ E + (y - x) ≤ 9223372036854775807 := by omega
        have B3 : -9223372036854775808 ≤ 2 + (j : Int) ∧ 2 + (j : Int) ≤ 9223372036854775807 := by omega
        have HEB : Hid (0 ≤ E + (y - x) ∧ E + (y - x) ≤ ((j + 1 : Nat) : Int) * 13194139533312) := by refine ⟨by omega, ?_⟩; rw [Int.natCast_add, Int.add_mul]; omega
        have HS2 : Hid ((List.range (j + 1)).foldl (relA T q) (net0 n, 0) = (G.add 0 (2 + j) (y - x), E + (y - x))) := by show _ = _; rw [HS.out, relA, if_pos hov, ← HYX.out, ← HXX.out]
        have q1 := iwn B1
        have q2 := w64n B1
        have q3 := iwn B2
        have q4 := w64n B2
        have q5 := iwn B3
        have q6 := w64n B3
        clear B1 B2 B3
        clear hyb hxb hEb hyx hov
        go_wp2_with (go_at_call 59; refine (HR.out.over HQ.out HLEN.out hn12 hlt).mono ?_; rw [hd]; rintro e w' ⟨rfl, m1, rfl⟩)
        have hb1 := fdrewN (below_refl wo) m1
        have HM3 := Lib.hid (HM1.out.fw hb1); have HR3 := Lib.hid (HR.out.fw hb1)
        generalize wo.drewN m1 = wa at HM3 HR3 hb1 ⊢
        obtain ⟨qb, qo, rfl, k1, k2, k3, k4⟩ := HR3.out.cells HQ.out HLEN.out hlt
        rw [← HXX.out] at k1
        rw [← HYX.out] at k4
        go_quiet (fail)
        go_wp2_with fail
        have hb2 := fdrewN (below_refl wa) nq
        have HM4 := Lib.hid (HM3.out.fw hb2); have HR4 := Lib.hid (HR3.out.fw hb2)
        have k1' := (cellBelow hb2 (lt_of_cell k1)).trans k1
        have k2' := (cellBelow hb2 (lt_of_cell k2)).trans k2
        have k3' := (cellBelow hb2 (lt_of_cell k3)).trans k3
        have k4' := (cellBelow hb2 (lt_of_cell k4)).trans k4
        clear k1 k2 k3 k4
        generalize wa.drewN nq = wb at HM4 HR4 hb2 k1' k2' k3' k4' ⊢
        go_still_tail 12, (by kernel_rfl)
        change wpList _ _ _ _ _ wb.drew
        have hb3 := fdrewN (below_refl wb) 1
        have HM5 : Hid (NetM wb.drew (w.heap.size + 1) [gt, gl] bg G) := HM4.out.fw hb3
        have HR5 : Hid (RE w T (some ⟨qb, qo, none⟩) n qc gt gl wb.drew) := HR4.out.fw hb3
        generalize wb.drew = wd at HM5 HR5 ⊢
        clear q1 q2 q3 q4 q5 q6 hb1 hb2 hb3 k1' k2' k3' k4'
        have C5 := Lib.hid (HR5.out.add HGT.out HGL2.out HR5.out.sz.1 HM5.out HM2.out hNb (by omega) (f := 0) (t := 2 + j) (by omega) (by omega) 0 (2 + (j : Int)) (y - x) rfl (by omega))
        go_wp2_with (go_at_call 60; refine (C5.out).mono ?_; rintro e w9 ⟨rfl, hM9, hS9, hR9, _⟩; have HM9 := Lib.hid hM9; have HS9 := Lib.hid hS9; have HR9 := Lib.hid hR9; clear hM9 hS9 hR9)
        refine ⟨⟨j + 1, by omega, by go_num, by rw [HS2.out], ?_, ?_⟩, ?_⟩
        · rw [HS2.out]; exact ⟨HM9.out, HS9.out, HR9.out⟩
        · rw [HS2.out]; exact HEB.out
        · simp [intOf]; omega
      · have hd := decide_eq_false hov
        have hyx : y ≤ x := by rw [HXX.out, HYX.out]; exact Int.not_lt.1 hov
        have B1 : -9223372036854775808 ≤ x - y ∧ x - y ≤ 9223372036854775807 := by omega
        have B2 : -9223372036854775808 ≤ 2 + (n : Int) ∧ 2 + (n : Int) ≤ 9223372036854775807 := by omega
        have B3 : -9223372036854775808 ≤ 2 + (n : Int) + (j : Int) ∧ 2 + (n : Int) + (j : Int) ≤ 9223372036854775807 := by omega
        have HEB : Hid (0 ≤ E ∧ E ≤ ((j + 1 : Nat) : Int) * 13194139533312) := by refine ⟨by omega, ?_⟩; rw [Int.natCast_add, Int.add_mul]; omega
        have HS2 : Hid ((List.range (j + 1)).foldl (relA T q) (net0 n, 0) = (G.add (2 + n + j) 1 (x - y), E)) := by show _ = _; rw [HS.out, relA, if_neg hov, ← HYX.out, ← HXX.out, HLEN.out]
        have q1 := iwn B1
        have q2 := w64n B1
        have q3 := iwn B2
        have q4 := w64n B2
        have q5 := iwn B3
        have q6 := w64n B3
        clear B1 B2 B3 hyb hxb hEb hyx hov
        go_wp2_with (go_at_call 59; refine (HR.out.over HQ.out HLEN.out hn12 hlt).mono ?_; rw [hd]; rintro e w' ⟨rfl, m1, rfl⟩)
        have hb1 := fdrewN (below_refl wo) m1
        have HM3 := Lib.hid (HM1.out.fw hb1); have HR3 := Lib.hid (HR.out.fw hb1)
        generalize wo.drewN m1 = wa at HM3 HR3 hb1 ⊢
        obtain ⟨qb, qo, rfl, k1, k2, k3, k4⟩ := HR3.out.cells HQ.out HLEN.out hlt
        rw [← HXX.out] at k1
        rw [← HYX.out] at k4
        go_still_tail 14, (by kernel_rfl)
        change wpList _ _ _ _ _ wa.drew
        have hb3 := fdrewN (below_refl wa) 1
        have HM5 : Hid (NetM wa.drew (w.heap.size + 1) [gt, gl] bg G) := HM3.out.fw hb3
        have HR5 : Hid (RE w T (some ⟨qb, qo, none⟩) n qc gt gl wa.drew) := HR3.out.fw hb3
        generalize wa.drew = wd at HM5 HR5 ⊢
        clear q1 q2 q3 q4 q5 q6 hb1 hb3 k1 k2 k3 k4
        have C5 := Lib.hid (HR5.out.add HGT.out HGL2.out HR5.out.sz.1 HM5.out HM2.out hNb (by omega) (f := 2 + n + j) (t := 1) (by omega) (by omega) (2 + (n : Int) + (j : Int)) 1 (x - y) (by omega) rfl)
        go_wp2_with (go_at_call 60; refine (C5.out).mono ?_; rintro e w9 ⟨rfl, hM9, hS9, hR9, _⟩; have HM9 := Lib.hid hM9; have HS9 := Lib.hid hS9; have HR9 := Lib.hid hR9; clear hM9 hS9 hR9)
        refine ⟨⟨j + 1, by omega, by go_num, by rw [HS2.out], ?_, ?_⟩, ?_⟩
        · rw [HS2.out]; exact ⟨HM9.out, HS9.out, HR9.out⟩
        · rw [HS2.out]; exact HEB.out
        · simp [intOf]; omega
    · have hjn : j = n := by omega
      subst hjn
      obtain ⟨G0, hG0⟩ : ∃ G0, G0 = ((List.range j).foldl (relA T q) (net0 j, 0)).1 := ⟨_, rfl⟩
      obtain ⟨E0, hE0⟩ : ∃ E0, E0 = ((List.range j).foldl (relA T q) (net0 j, 0)).2 := ⟨_, rfl⟩
      rw [← hG0] at hM
      rw [← hE0] at hE ⊢
      have HG0 : Hid (G0 = (relN T q).1 ∧ E0 = (relN T q).2) := by
        rw [hG0, hE0]; unfold relN; rw [HLEN.out]; exact ⟨rfl, rfl⟩
      clear hG0 hE0 hE HWR HNX hstart
      go_wp2_with fail
      go_loopw [13, 80] (fun y z wr => ∃ (i : Nat) (X : List Nat) (ca : Option Addr) (cc m : Nat), i ≤ j ∧ z = .int .i64 (i : Int) ∧ y = .slice ca ((List.range i).foldl (relD T q) (G0, [])).2.length cc ∧ Hid (REC w T qa j qc gt gl N m bg X ((List.range i).foldl (relD T q) (G0, [])) ca cc wr) ∧ Hid (m ≤ 12 + i * 200 ∧ ((List.range i).foldl (relD T q) (G0, [])).2.length ≤ i * 200)) (fun _ z _ => j - (intOf z).toNat)
      case atStart =>
        obtain ⟨h1, h2, h3⟩ := hM.out
        exact ⟨0, [gt, gl], none, 0, j, by omega, rfl, rfl, ⟨h3, h1, h2, OwnA.nil _ _ _ _ _, HGT.out, HGL2.out, (fun x hx => by cases hx), h3.sz.1⟩, by omega, by simp⟩
      case round =>
        obtain ⟨i, X, ca, cc, m, hi, rfl, rfl, hC, hb⟩ := hrel
        rename World => w1
        by_cases hlti : i < j
        · have i3 : (i : Int) < (j : Int) := by omega
          obtain ⟨S, hS⟩ : ∃ S, S = (List.range i).foldl (relD T q) (G0, []) := ⟨_, rfl⟩
          rw [← hS] at hC hb ⊢
          have HSI : Hid ((List.range (i + 1)).foldl (relD T q) (G0, []) = (List.range j).foldl (relC T q i) S) := by show _ = _; rw [foldl_range, ← hS, relD, HLEN.out]
          clear hS
          obtain ⟨P, hP⟩ : ∃ P, P = i * j := ⟨_, rfl⟩
          have hPb : P ≤ 144 := by rw [hP]; exact Nat.le_trans (Nat.mul_le_mul (show i ≤ 12 by omega) hn12) (by omega)
          have hPN : 2 + 2 * j + P + j ≤ N := by
            rw [HNE.out, hP]
            have : i * j + j ≤ j * j := by
              have := Nat.mul_le_mul_right j (show i + 1 ≤ j by omega)
              rwa [Nat.succ_mul] at this
            omega
          have E1 : Hid (wrap64 ((i : Int) * (j : Int)) = (P : Int)) := by
            have : ((i : Int) * (j : Int)) = ((i * j : Nat) : Int) := by simp
            show _ = _
            rw [this, ← hP]; exact w64n (by omega)
          have HPP := Lib.hid hP
          have HB := Lib.hid hb.out
          clear hP hb
          go_wp2_with fail
          go_loopw [13, 84] (fun y z wr => ∃ (o : Nat) (X : List Nat) (ca : Option Addr) (cc m : Nat), o ≤ j ∧ z = .int .i64 (o : Int) ∧ y = .slice ca ((List.range o).foldl (relC T q i) S).2.length cc ∧ Hid (REC w T qa j qc gt gl N m bg X ((List.range o).foldl (relC T q i) S) ca cc wr) ∧ Hid (m ≤ 12 + i * 200 + o * 14 ∧ ((List.range o).foldl (relC T q i) S).2.length ≤ i * 200 + o * 14)) (fun _ z _ => j - (intOf z).toNat)
          case atStart => exact ⟨0, X, ca, cc, m, by omega, rfl, rfl, hC.out, by have := HB.out; exact ⟨by omega, by show S.2.length ≤ _; omega⟩⟩
          case round =>
            obtain ⟨o, X, ca, cc, m, ho, rfl, rfl, hC, hb⟩ := hrel
            rename World => w1b
            by_cases hlto : o < j
            · have i4 : (o : Int) < (j : Int) := by omega
              obtain ⟨Z, hZ⟩ : ∃ Z, Z = (List.range o).foldl (relC T q i) S := ⟨_, rfl⟩
              rw [← hZ] at hC hb ⊢
              have HSO : Hid ((List.range (o + 1)).foldl (relC T q i) S = relC T q i Z o) := by show _ = _; rw [foldl_range, ← hZ]
              have HB2 := Lib.hid hb.out
              clear hZ
              by_cases hov : over T q i
              · have hd := decide_eq_true hov
                obtain ⟨r, hr, hrl, hrx, x0, x1⟩ := HF.out.1.cell (i := i) (j := o) (by rw [HLEN.out]; exact hlti) (by rw [HLEN.out]; exact hlto)
                obtain ⟨ra, rc, tb, tof, rfl, tcw, hrow⟩ := HT0.out.at hr
                obtain ⟨rb, ro, rfl, rcw⟩ := hrow.cell o _ hrx
                rw [hrl, HLEN.out] at tcw
                obtain ⟨c, hc⟩ : ∃ c, c = at2 T i o := ⟨_, rfl⟩
                rw [← hc] at rcw
                change w.cell? _ = some (.int .i64 c) at rcw
                have HCC := Lib.hid hc
                have C1 := Lib.hid tcw; have C2 := Lib.hid rcw
                have d0 := (cellBelow hC.out.re.bl (lt_of_cell tcw)).trans tcw
                have d1 := (cellBelow hC.out.re.bl (lt_of_cell rcw)).trans rcw
                clear hr hrl hrx x0 x1 hc tcw rcw hrow
                by_cases hc0 : c = 0
                · subst hc0
                  have HSO2 : Hid ((List.range (o + 1)).foldl (relC T q i) S = Z) := by show _ = _; rw [HSO.out, relC, if_pos (.inr HCC.out.symm)]
                  clear hov
                  go_wp2_with (go_at_call 59; refine (hC.out.re.over HQ.out HLEN.out hn12 hlti).mono ?_; rw [hd]; rintro e w' ⟨rfl, m1, rfl⟩)
                  have hb1 := fdrewN (below_refl w1b) m1
                  refine ⟨⟨o + 1, X, ca, cc, m, by omega, by go_num, by rw [HSO2.out], ?_, ?_⟩, ?_⟩
                  · rw [HSO2.out]; exact hC.out.fw hb1
                  · rw [HSO2.out]; have := HB2.out; exact ⟨by omega, by omega⟩
                  · simp [intOf]; omega
                · have hc1 : (c == 0) = false := by simpa using hc0
                  have HSO2 : Hid ((List.range (o + 1)).foldl (relC T q i) S = (List.range j).foldl (relB T q i o) (Z.1.add (2 + i) (2 + 2 * j + P + o) c, Z.2)) := by
                    show _ = _
                    rw [HSO.out, relC, if_neg (by rintro (h | h); exact h hov; exact hc0 (HCC.out.trans h)), HLEN.out, ← HCC.out]
                    unfold stockOf
                    rw [← HPP.out]
                  clear hov hc0
                  have HST : Hid (wrap64 (wrap64 (2 + 2 * (j : Int) + wrap64 ((i : Int) * (j : Int))) + (o : Int)) = ((2 + 2 * j + P + o : Nat) : Int)) := by
                    show _ = _
                    rw [E1.out, w64n (a := 2 + 2 * (j : Int) + (P : Int)) (by omega), w64n (by omega)]
                    omega
                  have HM2 := HB2.out
                  have C5 := fun (wz : World) (hz : REC w T qa j qc gt gl N m bg X Z ca cc wz) => hz.add hNb (by omega) (f := 2 + i) (t := 2 + 2 * j + P + o) (by omega) (by omega) (2 + (i : Int)) ((2 + 2 * j + P + o : Nat) : Int) c (by omega) rfl
                  have HC5 := Lib.hid C5
                  clear C5 HM2
                  go_wp2_with (first
                    | (go_at_call 59; refine (hC.out.re.over HQ.out HLEN.out hn12 hlti).mono ?_; rw [hd]; rintro e w' ⟨rfl, m1, rfl⟩)
                    | (go_at_call 60; rw [HST.out]; refine (HC5.out _ (hC.out.fw (fdrewN (below_refl w1b) m1))).mono ?_; rintro e w5 ⟨rfl, hC5⟩; have HR5 := Lib.hid hC5; clear hC5))
                  obtain ⟨Y, hY⟩ : ∃ Y : Net × List Ch, Y = (Z.1.add (2 + i) (2 + 2 * j + P + o) c, Z.2) := ⟨_, rfl⟩
                  rw [← hY] at HSO2 HR5
                  have hYl : Y.2.length = Z.2.length := by rw [hY]
                  rw [← hYl]
                  have HYL := Lib.hid hYl
                  clear hY hYl HC5
                  go_loopw [13, 123] (fun y z wr => ∃ (t : Nat) (X : List Nat) (ca : Option Addr) (cc m' : Nat), t ≤ j ∧ z = .int .i64 (t : Int) ∧ y = .slice ca ((List.range t).foldl (relB T q i o) Y).2.length cc ∧ Hid (REC w T qa j qc gt gl N m' bg X ((List.range t).foldl (relB T q i o) Y) ca cc wr) ∧ Hid (m' ≤ m + 1 + t ∧ ((List.range t).foldl (relB T q i o) Y).2.length ≤ Z.2.length + t)) (fun _ z _ => j - (intOf z).toNat)
                  case atStart => exact ⟨0, X, ca, cc, m + 1, by omega, rfl, rfl, HR5.out, by omega, by show Y.2.length ≤ _; rw [HYL.out]; omega⟩
                  case round =>
                    obtain ⟨t, X, ca, cc, m', ht, rfl, rfl, hC7, hb7⟩ := hrel
                    rename World => w7
                    by_cases hltt : t < j
                    · have i5 : (t : Int) < (j : Int) := by omega
                      obtain ⟨V, hV⟩ : ∃ V, V = (List.range t).foldl (relB T q i o) Y := ⟨_, rfl⟩
                      rw [← hV] at hC7 hb7 ⊢
                      have HSV : Hid ((List.range (t + 1)).foldl (relB T q i o) Y = relB T q i o V t) := by show _ = _; rw [foldl_range, ← hV]
                      have HB8 : Hid (m' + 1 ≤ m + 1 + (t + 1) ∧ V.2.length + 1 ≤ Z.2.length + (t + 1)) := by have := hb7.out; exact ⟨by omega, by omega⟩
                      have HB7 : Hid (m' ≤ m + 1 + (t + 1) ∧ V.2.length ≤ Z.2.length + (t + 1)) := by have := hb7.out; exact ⟨by omega, by omega⟩
                      have A1 : t + 1 ≤ j := by omega
                      have A2 : Hid (∀ k : Nat, k = t + 1 → j - k < j - t) := fun k hk => by omega
                      have A3 : Hid (((t : Int) + 1).toNat = t + 1) := by show _ = _; omega
                      clear hV hb7
                      by_cases hovt : over T q t
                      · have hdt := decide_eq_true hovt
                        have HSV2 : Hid ((List.range (t + 1)).foldl (relB T q i o) Y = V) := by show _ = _; rw [HSV.out, relB, if_pos (.inl hovt)]
                        clear hovt
                        go_wp2_with (go_at_call 59; refine (hC7.out.re.over HQ.out HLEN.out hn12 hltt).mono ?_; rw [hdt]; rintro e w' ⟨rfl, m2, rfl⟩)
                        have hb1 := fdrewN (below_refl w7) m2
                        refine ⟨⟨t + 1, X, ca, cc, m', A1, by go_num, by rw [HSV2.out], ?_, ?_⟩, ?_⟩
                        · rw [HSV2.out]; exact hC7.out.fw hb1
                        · rw [HSV2.out]; exact HB7.out
                        · show j - ((t : Int) + 1).toNat < j - (t : Int).toNat
                          rw [A3.out, Int.toNat_natCast]
                          exact A2.out _ rfl
                      · have hdt := decide_eq_false hovt
                        by_cases hto : t = o
                        · have HSV2 : Hid ((List.range (t + 1)).foldl (relB T q i o) Y = V) := by show _ = _; rw [HSV.out, relB, if_pos (.inr hto)]
                          have z1 : ((t : Int) == (o : Int)) = true := by simp; omega
                          clear hovt hto
                          go_wp2_with (go_at_call 59; refine (hC7.out.re.over HQ.out HLEN.out hn12 hltt).mono ?_; rw [hdt]; rintro e w' ⟨rfl, m2, rfl⟩)
                          have hb1 := fdrewN (below_refl w7) m2
                          refine ⟨⟨t + 1, X, ca, cc, m', A1, by go_num, by rw [HSV2.out], ?_, ?_⟩, ?_⟩
                          · rw [HSV2.out]; exact hC7.out.fw hb1
                          · rw [HSV2.out]; exact HB7.out
                          · show j - ((t : Int) + 1).toNat < j - (t : Int).toNat
                            rw [A3.out, Int.toNat_natCast]
                            exact A2.out _ rfl
                        · have z1 : ((t : Int) == (o : Int)) = false := by simp; omega
                          have HSV2 : Hid ((List.range (t + 1)).foldl (relB T q i o) Y = (V.1.add (2 + 2 * j + P + o) (2 + j + t) c, V.2 ++ [⟨i, t, o, V.1.arcs.length, 2 + 2 * j + P + o, 2 + j + t⟩])) := by
                            show _ = _
                            rw [HSV.out, relB, if_neg (by rintro (h | h); exact hovt h; exact hto h), HLEN.out, ← HCC.out]
                            unfold stockOf
                            rw [← HPP.out]
                          obtain ⟨ic, hic, hzc0, hzc1, hzc2⟩ := info_parts infoCh
                          have uc := Try.underlying66
                          have hm4 : m' ≤ 4000 := by have := HB7.out; have := HB2.out; omega
                          have hVl : V.2.length ≤ 5000 := by have := HB7.out; have := HB2.out; omega
                          have HC7 := Lib.hid (fun (wz : World) (hz : REC w T qa j qc gt gl N m' bg X V ca cc wz) => hz.add hNb hm4 (f := 2 + 2 * j + P + o) (t := 2 + j + t) (by omega) (by omega) ((2 + 2 * j + P + o : Nat) : Int) (2 + (j : Int) + (t : Int)) c rfl (by omega))
                          have HSZ : Hid ((V.2.length + 1) * 56 ≤ 140737488355328) := by show _ ≤ _; omega
                          have HVC : Hid (vc ⟨i, t, o, V.1.arcs.length, 2 + 2 * j + P + o, 2 + j + t⟩ = [.int .i64 (i : Int), .int .i64 (t : Int), .int .i64 (o : Int), .int .i64 0, .int .i64 (V.1.arcs.length : Int), .int .i64 (2 + 2 * (j : Int) + (P : Int) + (o : Int)), .int .i64 (2 + (j : Int) + (t : Int))]) := by
                            have e1 : ((2 + 2 * j + P + o : Nat) : Int) = 2 + 2 * (j : Int) + (P : Int) + (o : Int) := by omega
                            have e2 : ((2 + j + t : Nat) : Int) = 2 + (j : Int) + (t : Int) := by omega
                            show _ = _
                            rw [← e1, ← e2]; rfl
                          have e0 := (cellBelow hC7.out.re.bl (lt_of_cell C1.out)).trans C1.out
                          have e1 := (cellBelow hC7.out.re.bl (lt_of_cell C2.out)).trans C2.out
                          clear hovt hm4 hto
                          go_wp2_with (first
                            | (go_at_call 59; refine (hC7.out.re.over HQ.out HLEN.out hn12 hltt).mono ?_; rw [hdt]; rintro e w' ⟨rfl, m2, rfl⟩)
                            | (go_at_call 60; refine (HC7.out _ (hC7.out.fw (fdrewN (below_refl w7) m2))).mono ?_; rintro e w8 ⟨rfl, hC8⟩; have HR8 := Lib.hid hC8; clear hC8)
                            | (at_builtin; go_loud (refine wpList_append_lies _ rfl (.tmp 148) (.tmp 160) 66 rfl (w.heap.size + 1) 71 ic (.agg #[.int .i64 0, .int .i64 0, .int .i64 0, .int .i64 0, .int .i64 0, .int .i64 0, .int .i64 0]) 7 56 uc hic hzc0 hzc1 hzc2 rfl (by omega) (.slice ca V.2.length cc) V.2.length (V.2.flatMap vc) rfl ?o1 ⟨w8.heap.size, 0, none⟩ 1 1 (vc ⟨i, t, o, V.1.arcs.length, 2 + 2 * j + P + o, 2 + j + t⟩) rfl rfl ?c1 ?c2 (by omega) (by unfold maxLen; omega) HSZ.out ?o2 _ rfl ?next)))
                          case o1 => exact (HR8.out.own.same fun x hx => (below_alloc _ (below_refl w8)).block _ (HR8.out.own.blt hx).1).ownsRow vc_len
                          case c1 =>
                            intro k u hu
                            rw [HVC.out] at hu
                            have e : (⟨w8.heap.size, 0, none⟩ : Addr).add k = ⟨w8.heap.size, 0 + k, none⟩ := by unfold Addr.add; split <;> simp_all
                            rw [Nat.zero_add] at e
                            rw [e, cell_of_row _ w8.heap.size k _ _ _ (heap_alloc_new w8 _), ← hu]
                            exact Array.getElem?_toList.symm
                          case c2 =>
                            intro u hu
                            rw [HVC.out] at hu
                            simp only [List.mem_cons, List.not_mem_nil, or_false] at hu
                            rcases hu with rfl | rfl | rfl | rfl | rfl | rfl | rfl <;> rfl
                          case o2 => exact Nat.le_trans HR8.out.re.sz.2 (below_alloc _ (below_refl w8)).size
                          case next =>
                            intro g5 c5 w9 hown hg hlies _
                            have ho5 : OwnA vc 7 (w.heap.size + 1) 71 w9 (some ⟨g5, 0, none⟩) (V.2.length + 1) c5 (V.2 ++ [⟨i, t, o, V.1.arcs.length, 2 + 2 * j + P + o, 2 + j + t⟩]) := OwnA.of_ownsRow (by rw [List.flatMap_append]; exact hown) (by simp)
                            have HR9 := Lib.hid ((HR8.out.fw (below_alloc _ (below_refl w8))).push ⟨i, t, o, V.1.arcs.length, 2 + 2 * j + P + o, 2 + j + t⟩ hg ho5 (hlies.imp id fun e => by rw [e]; simp))
                            clear hown hg hlies ho5 z1
                            go_wp2_with fail
                            refine ⟨⟨t + 1, g5 :: X, some ⟨g5, 0, none⟩, c5, m' + 1, A1, by go_num, ?_, ?_, ?_⟩, ?_⟩
                            · rw [HSV2.out]; simp
                            · rw [HSV2.out]; exact HR9.out
                            · rw [HSV2.out]; exact ⟨HB8.out.1, by simpa using HB8.out.2⟩
                            · show j - ((t : Int) + 1).toNat < j - (t : Int).toNat
                              rw [A3.out, Int.toNat_natCast]
                              exact A2.out _ rfl
                    · have htj : t = j := by omega
                      subst htj
                      have P1 : o + 1 ≤ t := by omega
                      have P2 : Hid (m' ≤ 12 + i * 200 + (o + 1) * 14 ∧ ((List.range t).foldl (relB T q i o) Y).2.length ≤ i * 200 + (o + 1) * 14) := by
                        have h1 := HB2.out; have h2 := hb7.out
                        exact ⟨by omega, by omega⟩
                      have P3 : Hid (((o : Int) + 1).toNat = o + 1) := by show _ = _; omega
                      have P4 : Hid (∀ k : Nat, k = o + 1 → t - k < t - o) := fun k hk => by omega
                      clear hb7
                      go_wp2_with fail
                      refine ⟨⟨o + 1, X, ca, cc, m', P1, by go_num, by rw [HSO2.out], ?_, ?_⟩, ?_⟩
                      · rw [HSO2.out]; exact hC7.out
                      · rw [HSO2.out]; exact P2.out
                      · show t - ((o : Int) + 1).toNat < t - (o : Int).toNat
                        rw [P3.out, Int.toNat_natCast]
                        exact P4.out _ rfl
              · have hd := decide_eq_false hov
                have HSO2 : Hid ((List.range (o + 1)).foldl (relC T q i) S = Z) := by show _ = _; rw [HSO.out, relC, if_pos (.inl hov)]
                clear hov
                go_wp2_with (go_at_call 59; refine (hC.out.re.over HQ.out HLEN.out hn12 hlti).mono ?_; rw [hd]; rintro e w' ⟨rfl, m1, rfl⟩)
                have hb1 := fdrewN (below_refl w1b) m1
                refine ⟨⟨o + 1, X, ca, cc, m, by omega, by go_num, by rw [HSO2.out], ?_, ?_⟩, ?_⟩
                · rw [HSO2.out]; exact hC.out.fw hb1
                · rw [HSO2.out]; have := HB2.out; exact ⟨by omega, by omega⟩
                · simp [intOf]; omega
            · have hoj : o = j := by omega
              subst hoj
              have HB2 := Lib.hid hb.out
              go_wp2_with fail
              refine ⟨⟨i + 1, X, ca, cc, m, by omega, by go_num, by rw [HSI.out], ?_, ?_⟩, ?_⟩
              · rw [HSI.out]; exact hC.out
              · rw [HSI.out]; have := HB2.out; exact ⟨by omega, by omega⟩
              · simp [intOf]; omega
        · have hij : i = j := by omega
          subst hij
          have HFIN : Hid (((List.range i).foldl (relD T q) (G0, [])) = ((relief T q).1, (relief T q).2.1) ∧ E0 = (relief T q).2.2) := by
            refine ⟨?_, HG0.out.2⟩
            unfold relief
            rw [HLEN.out, HG0.out.1]
          have HB2 := Lib.hid hb.out
          rw [HFIN.out.1] at hC ⊢
          rw [HFIN.out.2]
          have HOKF : Hid (NetOk (relief T q).1) := hC.out.shp.ok hNb (by have := HB2.out; omega)
          go_wp2_with fail
          go_ret3
          exact ⟨bg, X, ca, cc, rfl, hC.out.net, HOKF.out, hC.out.own, hC.out.ca, hC.out.xs, hC.out.re.bl⟩
end Go.Proofs.Ytpecepfnmkpmmaa
