/- The reference's Fraction and Share. -/
import Derived.Test.YtpecepfnmkpmmaaQz
import Derived.Handy
import Derived.Test.YtpecepfnmkpmmaaTail
namespace Go.Kin
open Go.RowKit
set_option linter.unusedVariables false
/-- One struct, appended in the walk. -/
theorem wpList_pushA {α : Type} {P : Program} {w : World} {ops : Array Oper} {rest : List Oper} {o : Oper} {a : Act} {Q : Exit → Act → World → Prop} (hgd : o.guard = none) (s x : Operand) (t : TypeId)
    (ho : o.op = .call { callee := .builtin .append, args := #[s, x], argTypes := #[t, t] }) (f : α → List Value) (sz : Nat) (hlen : ∀ x, (f x).length = sz) (hf : ∀ x, ∀ u ∈ f x, u.oneCell' = true)
    (base : Nat) (e : TypeId) (i : TypeInfo) (z : Value) (bytes : Nat) (ht : P.underlying t = some (.slice e)) (hi : P.info? e = some i) (hz : i.zero = some z)
    (hsize : i.size = sz) (hby : i.bytes = bytes) (hzs : z.cells.size = sz) (hsz : 0 < sz)
    (sa : Option Addr) (n c : Nat) (L : List α) (hs : a.eval s = .slice sa n c) (hown : OwnA f sz base e w sa n c L)
    (g0 : Nat) (v : α) (cs : Array Value) (hcs : cs.toList = f v) (T : TypeId) (fr : Nat × Nat) (hx : a.eval x = .slice (some ⟨g0, 0, none⟩) 1 1) (hX : w.heap[g0]? = some (.cells cs T fr))
    (hn : n ≤ 100000) (hby2 : bytes ≤ 100) (hbase : base ≤ w.heap.size)
    (h : ∀ g c' w', OwnA f sz base e w' (some ⟨g, 0, none⟩) (n + 1) c' (L ++ [v]) → w.grownBy w' (Value.slice sa n c).ownBlock → ((Value.slice sa n c).ownBlock = some g ∨ g = w.heap.size) → wpList P ops Q rest (a.put o.dst (.slice (some ⟨g, 0, none⟩) (n + 1) c')) w') : wpList P ops Q (o :: rest) a w := by
  refine wpList_append_lies w hgd s x t ho base e i z sz bytes ht hi hz hsize hby hzs hsz (.slice sa n c) n (L.flatMap f) hs (hown.ownsRow hlen) ⟨g0, 0, none⟩ 1 1 (f v) hx (by rw [hlen, Nat.one_mul]) ?_ (hf v) (by omega) (by unfold maxLen; omega) (by have : (n + 1) * bytes ≤ 100001 * 100 := Nat.mul_le_mul (by omega) hby2; omega) hbase _ rfl ?_
  · intro k u hu
    have e : (⟨g0, 0, none⟩ : Addr).add k = ⟨g0, 0 + k, none⟩ := by unfold Addr.add; split <;> simp_all
    rw [Nat.zero_add] at e
    rw [e, cell_of_row w g0 k _ _ _ hX, ← hu, ← hcs]
    exact Array.getElem?_toList.symm
  · intro g cap w' h1 h2 h3 _
    refine h g cap w' (OwnA.of_ownsRow ?_ (by rw [List.length_append, hown.1]; rfl)) h2 h3
    rw [List.flatMap_append]
    simpa using h1
theorem OwnA.lt {α : Type} {f : α → List Value} {s B : Nat} {E : TypeId} {w : World} {a : Option Addr} {n c : Nat} {l : List α} (h : OwnA f s B E w a n c l) : ∀ k, (Value.slice a n c).ownBlock = some k → B ≤ k ∧ k < w.heap.size := by
  intro k hk
  cases a with
  | none => cases hk
  | some x =>
    cases hk
    have := h.blt rfl
    exact ⟨this.2.1, this.1⟩
theorem OwnA.fw {α : Type} {f : α → List Value} {s B : Nat} {E : TypeId} {w w' : World} {a : Option Addr} {n c : Nat} {l : List α} (h : OwnA f s B E w a n c l) (hb : Below w.heap.size w w') : OwnA f s B E w' a n c l :=
  h.same fun x hx => hb.block _ (h.blt hx).1
theorem OwnA.mono {α : Type} {f : α → List Value} {s B B' : Nat} {E : TypeId} {w : World} {a : Option Addr} {n c : Nat} {l : List α} (h : OwnA f s B E w a n c l) (hB : B' ≤ B) : OwnA f s B' E w a n c l := by
  obtain ⟨hl, h | ⟨g, cur, rfl, hB1, r⟩⟩ := h
  · exact ⟨hl, .inl h⟩
  · exact ⟨hl, .inr ⟨g, cur, rfl, Nat.le_trans hB hB1, r⟩⟩
end Go.Kin
namespace Go.Proofs.Ytpecepfnmkpmmaa
open Go.RowKit Go.Kin Quo
set_option maxRecDepth 100000
set_option linter.unusedVariables false
set_option maxHeartbeats 4000000 in
theorem rfrac_any (X Y : Nat) (hX0 : 0 < X) (hY0 : 0 < Y) (hXm : X ≤ 13194139533312) (hYm : Y ≤ 13194139533312) (w : World) :
    Calls Try.prog 49 #[.int .i64 (X : Int), .int .i64 (Y : Int)] w fun e w' => e = .returned (.agg #[.int .i64 (fracF (X : Int) (Y : Int)).1, .int .i64 (fracF (X : Int) (Y : Int)).2]) ∧ Below w.heap.size w w' := by
  obtain ⟨G, hG⟩ : ∃ G, G = Nat.gcd X Y := ⟨_, rfl⟩
  have hGp : 0 < G := by rw [hG]; exact Nat.gcd_pos_of_pos_left _ (by omega)
  have HG := Lib.hid hG
  have HFR : fracF (X : Int) (Y : Int) = (((X / G : Nat) : Int), ((Y / G : Nat) : Int)) := by
    unfold fracF
    rw [if_neg (by omega), Int.toNat_natCast, Int.toNat_natCast, ← hG]
  rw [HFR]
  have b0 := below_alloc (.cells #[.int .i64 0, .int .i64 0] 56) (below_refl w)
  have B0 := Lib.hid b0
  have hnew : (w.alloc (.cells #[.int .i64 0, .int .i64 0] 56)).heap[w.heap.size]? = some (.cells #[.int .i64 0, .int .i64 0] 56 (0, 0)) := heap_alloc_new w _
  have HN := Lib.hid hnew
  clear hG HFR b0 hnew
  go_enter Try.func49, Try.ntmps49
  go_wp2_with fail
  generalize w.alloc (.cells #[.int .i64 0, .int .i64 0] 56) = wq at *
  go_loopw [5, 6] (fun y z wr => ∃ a b : Nat, y = .int .i64 (a : Int) ∧ z = .int .i64 (b : Int) ∧ Nat.gcd a b = G ∧ a ≤ 13194139533312 ∧ b ≤ 13194139533312 ∧ Hid (Drw wq wr)) (fun _ z _ => (intOf z).toNat)
  case atStart => exact ⟨X, Y, rfl, rfl, HG.out.symm, by omega, by omega, Drw.refl wq⟩
  case round =>
    obtain ⟨a, b, rfl, rfl, hg, ha, hb, hd⟩ := hrel
    rename World => wo
    by_cases hb0 : b = 0
    · subst hb0
      have haG : a = G := by rw [← hg, Nat.gcd_zero_right]
      subst haG
      have hnw := (hd.out.fw.block _ (Array.getElem?_eq_some_iff.1 HN.out).1).trans HN.out
      have HNW := Lib.hid hnw
      have BW := Lib.hid (bt B0.out hd.out.fw)
      have ha0 : (a : Int) ≠ 0 := by omega
      have haN : (a = 0) = False := by simp; omega
      have hXa : X / a ≤ X := Nat.div_le_self _ _
      have hYa : Y / a ≤ Y := Nat.div_le_self _ _
      obtain ⟨P, hP⟩ : ∃ P, P = X / a := ⟨_, rfl⟩
      obtain ⟨R, hR⟩ : ∃ R, R = Y / a := ⟨_, rfl⟩
      have p1 : (X : Int).tdiv (a : Int) = (P : Int) := by rw [hP]; rfl
      have p2 : (Y : Int).tdiv (a : Int) = (R : Int) := by rw [hR]; rfl
      have p3 : (X : Int) / (a : Int) = (P : Int) := by rw [hP]; rfl
      have p4 : (Y : Int) / (a : Int) = (R : Int) := by rw [hR]; rfl
      have p5 := iwq (a := (P : Int)) (by omega)
      have p6 := w64q (a := (P : Int)) (by omega)
      have p7 := iwq (a := (R : Int)) (by omega)
      have p8 := w64q (a := (R : Int)) (by omega)
      have HP := Lib.hid hP; have HR := Lib.hid hR
      have k1 : wo.drew.cell? ⟨w.heap.size, 0, none⟩ = some (.int .i64 0) := by show wo.cell? _ = _; rw [cell_of_row wo w.heap.size 0 _ _ _ hnw]; rfl
      have k2 : wo.drew.frozen? ⟨w.heap.size, 0, none⟩ = false := frozen_of_row wo w.heap.size 0 _ _ hnw
      have h2 : (wo.setCell ⟨w.heap.size, 0, none⟩ (.int .i64 (P : Int))).heap[w.heap.size]? = some (.cells #[.int .i64 (P : Int), .int .i64 0] 56 (0, 0)) := heap_setCell_same wo w.heap.size 0 _ _ _ hnw
      have k3 : (wo.setCell ⟨w.heap.size, 0, none⟩ (.int .i64 (P : Int))).drew.cell? ⟨w.heap.size, 1, none⟩ = some (.int .i64 0) := by show (wo.setCell ⟨w.heap.size, 0, none⟩ (.int .i64 (P : Int))).cell? _ = _; rw [cell_of_row _ w.heap.size 1 _ _ _ h2]; rfl
      have k4 : (wo.setCell ⟨w.heap.size, 0, none⟩ (.int .i64 (P : Int))).drew.frozen? ⟨w.heap.size, 1, none⟩ = false := frozen_of_row _ w.heap.size 1 _ _ h2
      have h3 : ((wo.setCell ⟨w.heap.size, 0, none⟩ (.int .i64 (P : Int))).setCell ⟨w.heap.size, 1, none⟩ (.int .i64 (R : Int))).heap[w.heap.size]? = some (.cells #[.int .i64 (P : Int), .int .i64 (R : Int)] 56 (0, 0)) := heap_setCell_same _ w.heap.size 1 _ _ _ h2
      have k5 : ((wo.setCell ⟨w.heap.size, 0, none⟩ (.int .i64 (P : Int))).setCell ⟨w.heap.size, 1, none⟩ (.int .i64 (R : Int))).drew.cell? ⟨w.heap.size, 0, none⟩ = some (.int .i64 (P : Int)) := by show ((wo.setCell ⟨w.heap.size, 0, none⟩ (.int .i64 (P : Int))).setCell ⟨w.heap.size, 1, none⟩ (.int .i64 (R : Int))).cell? _ = _; rw [cell_of_row _ w.heap.size 0 _ _ _ h3]; rfl
      have k6 : ((wo.setCell ⟨w.heap.size, 0, none⟩ (.int .i64 (P : Int))).setCell ⟨w.heap.size, 1, none⟩ (.int .i64 (R : Int))).drew.cell? ⟨w.heap.size, 1, none⟩ = some (.int .i64 (R : Int)) := by show ((wo.setCell ⟨w.heap.size, 0, none⟩ (.int .i64 (P : Int))).setCell ⟨w.heap.size, 1, none⟩ (.int .i64 (R : Int))).cell? _ = _; rw [cell_of_row _ w.heap.size 1 _ _ _ h3]; rfl
      clear hP hR hXa hYa hg hnw h2 h3
      go_wp2_with fail
      go_still_tail 7, (by kernel_rfl)
      change wpList _ _ _ _ _ wo.drew
      go_wp2_with fail
      clear p1 p2 p3 p4 p5 p6 p7 p8 k1 k2 k3 k4
      have hbz : Below w.heap.size w ((wo.setCell ⟨w.heap.size, 0, none⟩ (.int .i64 (P : Int))).setCell ⟨w.heap.size, 1, none⟩ (.int .i64 (R : Int))).drew := Below.drew ((BW.out.setCell (p := ⟨w.heap.size, 0, none⟩) (Nat.le_refl _) _).setCell (p := ⟨w.heap.size, 1, none⟩) (Nat.le_refl _) _)
      rw [← HP.out, ← HR.out]
      generalize ((wo.setCell ⟨w.heap.size, 0, none⟩ (.int .i64 (P : Int))).setCell ⟨w.heap.size, 1, none⟩ (.int .i64 (R : Int))).drew = wz at k5 k6 hbz ⊢
      try simp only [Exit.inBlock, Exit.then]
      refine bodyPost_ret (v := .agg #[.int .i64 (P : Int), .int .i64 (R : Int)]) (by simp [results, Try.results49, go_sem, k5, k6]) rfl ?_
      exact ⟨rfl, hbz⟩
    · have hb1 : (b : Int) ≠ 0 := by omega
      have e3 : (0 : Int) < (b : Int) := by omega
      have hlt2 : a % b < b := Nat.mod_lt _ (by omega)
      obtain ⟨r, hr⟩ : ∃ r, r = a % b := ⟨_, rfl⟩
      have hgr : Hid (Nat.gcd b r = G) := by show _ = _; rw [hr, Nat.gcd_comm, ← Nat.gcd_rec, Nat.gcd_comm, hg]
      rw [← hr] at hlt2
      have p1 : (a : Int).tmod (b : Int) = (r : Int) := by rw [hr]; rfl
      have p2 : (a : Int) % (b : Int) = (r : Int) := by rw [hr]; rfl
      have p3 := iwq (a := (r : Int)) (by omega)
      have p4 := w64q (a := (r : Int)) (by omega)
      have hbN : (b = 0) = False := by simp; omega
      clear hr hb0
      go_wp2_with fail
      go_quiet (fail)
      go_wp2_with fail
      clear p1 p2 p3 p4
      refine ⟨⟨b, r, rfl, rfl, hgr.out, hb, by omega, hd.out.step nq⟩, ?_⟩
      simp [intOf]; omega
theorem vfr_one (x : Int × Int) : ∀ u ∈ vfr x, u.oneCell' = true := by
  intro u hu
  unfold vfr at hu
  simp only [List.mem_cons, List.not_mem_nil, or_false] at hu
  rcases hu with rfl | rfl <;> rfl
set_option maxHeartbeats 4000000 in
theorem rshare_any (ta : Option Addr) (n tc : Nat) (T : Tab) (qa : Option Addr) (qc : Nat) (q : List Int) (w : World) (h : RdT w ta n tc T) (h2 : Rd vi w qa n qc q) (hf : Fit T q) :
    Calls Try.prog 33 #[.slice ta n tc, .slice qa n qc] w fun e w' => Below w.heap.size w w' ∧ (((∃ d, d < n ∧ badD T q d) ∧ e = .returned (.tuple #[.slice none 0 0, .bool false])) ∨
      ((∀ d, d < n → ¬ badD T q d) ∧ ∃ sa sc, e = .returned (.tuple #[.slice sa n sc, .bool true]) ∧ OwnA vfr 2 w.heap.size 56 w' sa n sc (shareL T q n))) := by
  obtain ⟨i0, hi, hz0, hz1, hz2⟩ := info_parts infoFr
  have u0 := Try.underlying50
  have hn : n ≤ 12 := by have := hf.1.1; rw [h.len] at this; exact this
  have H := Lib.hid h; have H2 := Lib.hid h2
  have hlen := Lib.hid h.len
  have HF := Lib.hid hf
  clear h h2 hf
  go_enter Try.func33, Try.ntmps33
  go_wp2_with (first
    | (go_at_call 21; refine (rheld_any _ _ _ T _ H.out HF.out.1).mono ?_; rintro e w3 ⟨gh, rfl, hgh, hB3, hb3⟩; have HB3 := Lib.hid hB3; have B3 := Lib.hid hb3; clear hB3 hb3 hgh)
    | fail)
  have hba := below_alloc (.cells #[] 56 (0, 0)) (below_refl w3)
  have O4 : Hid (OwnA vfr 2 w3.heap.size 56 (w3.alloc (.cells #[] 56 (0, 0))) (some ⟨w3.heap.size, 0, none⟩) 0 0 []) := ⟨rfl, .inr ⟨w3.heap.size, #[], rfl, Nat.le_refl _, heap_alloc_new w3 _, Nat.le_refl _, by simp [maxLen], rfl, rfl⟩⟩
  go_loopw [7, 8, 30, 40] (fun s i _ _ wr => ∃ (j : Nat) (sa : Option Addr) (sc : Nat), j ≤ n ∧ i = .int .i64 (j : Int) ∧ s = .slice sa j sc ∧ Hid (∀ d, d < j → ¬ badD T q d) ∧ Hid (OwnA vfr 2 w3.heap.size 56 wr sa j sc (shareL T q j)) ∧ Hid (Below w3.heap.size w3 wr)) (fun _ i _ _ _ => n - (intOf i).toNat)
  case atStart => exact ⟨0, _, 0, by omega, rfl, rfl, fun d hd => by omega, O4.out, hba⟩
  case round =>
    obtain ⟨j, sa, sc, hj, rfl, rfl, hv, hO, hbe⟩ := hrel
    by_cases hlt : j < n
    · have i2 : (j : Int) < (n : Int) := by omega
      have x0 : (heldF T)[j]? = some (loadOf T j) := get_some (by rw [held_length, hlen.out]; exact hlt) 0
      have xb := held_bound HF.out.1 (i := j) (by rw [hlen.out]; exact hlt)
      have y0 : q[j]? = some (q.getD j 0) := get_some (by rw [H2.out.len]; exact hlt) 0
      have yb := HF.out.2.2 _ (List.mem_of_getElem? y0)
      have hsn := shareL_succ T q j
      obtain ⟨x, hx⟩ : ∃ x, x = loadOf T j := ⟨_, rfl⟩
      obtain ⟨y, hy⟩ : ∃ y, y = q.getD j 0 := ⟨_, rfl⟩
      have xb2 : 0 ≤ x ∧ x ≤ 12 * maxC := by rw [hx]; exact xb
      rw [← hx] at x0 hsn; rw [← hy] at y0 yb hsn
      unfold maxC at xb2 yb
      obtain ⟨X, rfl⟩ := Int.eq_ofNat_of_zero_le xb2.1
      obtain ⟨Y, rfl⟩ := Int.eq_ofNat_of_zero_le yb.1
      have c1 := (HB3.out.fw hbe.out).cell x0
      obtain ⟨qb, qo, rfl, c2⟩ := (H2.out.fw (bt B3.out hbe.out)).cell j _ y0
      unfold vi at c1 c2
      have HSN := Lib.hid hsn; have HX := Lib.hid hx; have HY := Lib.hid hy
      clear hsn hx hy x0 y0 xb
      by_cases hX0 : X = 0
      · subst hX0
        have hv2 : Hid (∀ d, d < j + 1 → ¬ badD T q d) := by
          intro d hd
          by_cases e : d = j
          · subst e; exact fun hb => hb.1 HX.out.symm
          · exact hv.out d (by omega)
        have hba := below_alloc (.cells #[.int .i64 0, .int .i64 1] 56 (0, 0)) (below_refl wr)
        have HBA := Lib.hid hba
        have OA := Lib.hid (hO.out.fw hba)
        have hnew : Hid ((wr.alloc (.cells #[.int .i64 0, .int .i64 1] 56 (0, 0))).heap[wr.heap.size]? = some (.cells #[.int .i64 0, .int .i64 1] 56 (0, 0))) := heap_alloc_new wr _
        clear hba
        go_wp2_with (first
          | (at_builtin; refine wpList_pushA rfl (.tmp 36) (.tmp 38) 50 rfl vfr 2 vfr_len vfr_one w3.heap.size 56 i0 (.agg #[.int .i64 0, .int .i64 0]) 16 u0 hi hz0 hz1 hz2 rfl (by omega) sa j sc _ rfl OA.out wr.heap.size ((0, 1) : Int × Int) _ rfl _ _ rfl hnew.out (by omega) (by omega) (Nat.le_trans hbe.out.size HBA.out.size) ?_; intro g5 c5 w9 hown hgr hl; have O9 := Lib.hid hown; have B9 : Hid (Below w3.heap.size w3 w9) := (bt hbe.out HBA.out).grown hgr (Nat.le_trans hbe.out.size HBA.out.size) (fun k hk => (OA.out.lt k hk).1); clear hown hgr hl)
          | fail)
        refine ⟨⟨j + 1, _, _, by omega, by go_num, rfl, hv2.out, ?_, B9.out⟩, ?_⟩
        · rw [HSN.out]; exact O9.out
        · simp [intOf]; omega
      · by_cases hY0 : Y = 0
        · subst hY0
          have hbad : Hid (∃ d, d < n ∧ badD T q d) := ⟨j, hlt, fun e => hX0 (by rw [← HX.out] at e; omega), HY.out.symm⟩
          have e1 : ((X : Int) == 0) = false := by simp; omega
          have BBE := Lib.hid (bt B3.out hbe.out)
          clear hX0
          go_wp2_with fail
          go_ret2
          exact ⟨BBE.out, .inl ⟨hbad.out, rfl⟩⟩
        · have hv2 : Hid (∀ d, d < j + 1 → ¬ badD T q d) := by
            intro d hd
            by_cases e : d = j
            · subst e; exact fun hb => hY0 (by have := hb.2; rw [← HY.out] at this; omega)
            · exact hv.out d (by omega)
          have e1 : ((X : Int) == 0) = false := by simp; omega
          have e2 : ((Y : Int) == 0) = false := by simp; omega
          have hX1 : 0 < X := by omega
          have hY1 : 0 < Y := by omega
          obtain ⟨A, hA⟩ : ∃ A, A = fracF (X : Int) (Y : Int) := ⟨_, rfl⟩
          have HA := Lib.hid hA
          have HXY : Hid (X ≤ 13194139533312 ∧ Y ≤ 13194139533312 ∧ 0 < X ∧ 0 < Y) := ⟨by omega, by omega, hX1, hY1⟩
          clear hX0 hY0 hA
          go_wp2_with fail
          refine wp_region_still_tail_move 9 0 [(9, 3), (9, 1), (9, 2), (9, 7), (9, 5), (9, 6), (9, 0), (10, 0), (10, 1), (10, 2), (10, 3), (10, 4), (10, 5), (10, 6), (10, 7), (10, 8), (11, 1), (11, 2), (11, 3), (11, 4), (11, 5), (11, 6), (11, 7), (11, 8), (11, 9)] _ _ (by kernel_rfl) rfl rfl (by kernel_rfl) (by kernel_rfl) (by kernel_rfl) (by kernel_rfl) (by kernel_rfl) (by kernel_rfl) (by kernel_rfl) (by kernel_rfl) (fun _ _ _ _ h => h) ?_
          simp only [List.take_succ_cons, List.take_zero, List.drop_succ_cons, List.drop_zero]
          repeat still_step
          refine wpStill_nil ?_
          change wpList _ _ _ _ _ wr.drew
          have hd1 : Hid (Below wr.heap.size wr wr.drew) := (below_refl wr).drew
          go_wp2_with (first
            | (go_at_call 49; refine (rfrac_any X Y HXY.out.2.2.1 HXY.out.2.2.2 HXY.out.1 HXY.out.2.1 _).mono ?_; rintro e w5 ⟨rfl, b5⟩; rw [← HA.out]; have B5 := Lib.hid (bt hd1.out b5); have hba := below_alloc (.cells #[.int .i64 A.1, .int .i64 A.2] 56 (0, 0)) (below_refl w5); have B6 := Lib.hid (bt B5.out hba); have OA := Lib.hid (hO.out.fw B6.out); have hnew : Hid ((w5.alloc (.cells #[.int .i64 A.1, .int .i64 A.2] 56 (0, 0))).heap[w5.heap.size]? = some (.cells #[.int .i64 A.1, .int .i64 A.2] 56 (0, 0))) := heap_alloc_new w5 _; clear b5 hba)
            | (at_builtin; refine wpList_pushA rfl (.tmp 18) (.tmp 28) 50 rfl vfr 2 vfr_len vfr_one w3.heap.size 56 i0 (.agg #[.int .i64 0, .int .i64 0]) 16 u0 hi hz0 hz1 hz2 rfl (by omega) sa j sc _ rfl OA.out w5.heap.size A _ rfl _ _ rfl hnew.out (by omega) (by omega) (Nat.le_trans hbe.out.size B6.out.size) ?_; intro g5 c5 w9 hown hgr hl; have O9 := Lib.hid hown; have B9 : Hid (Below w3.heap.size w3 w9) := (bt hbe.out B6.out).grown hgr (Nat.le_trans hbe.out.size B6.out.size) (fun k hk => (OA.out.lt k hk).1); clear hown hgr hl)
            | fail)
          refine ⟨⟨j + 1, _, _, by omega, by go_num, rfl, hv2.out, ?_, B9.out⟩, ?_⟩
          · rw [HSN.out, ← HA.out]; exact O9.out
          · simp [intOf]; omega
    · have hjn : j = n := by omega
      subst hjn
      have BBE := Lib.hid (bt B3.out hbe.out)
      go_wp2_with fail
      go_ret2
      exact ⟨BBE.out, .inr ⟨hv.out, _, _, rfl, hO.out.mono B3.out.size⟩⟩
end Go.Proofs.Ytpecepfnmkpmmaa
