/- QuotaFits: the walk. -/
import Derived.Test.YtpecepfnmkpmmaaSm
import Derived.Test.YtpecepfnmkpmmaaWQApp
import Derived.Test.YtpecepfnmkpmmaaQu
import Derived.Deep.CutRange
namespace Go.Proofs.Ytpecepfnmkpmmaa
open Go.RowKit Go.Kin Quo
set_option maxRecDepth 100000
set_option linter.unusedVariables false
theorem two_new (w : World) (A B : Array Value) (E : TypeId) :
    (∀ i v, A[i]? = some v → (((w.alloc (.cells A E)).alloc (.cells B E)).drew).cell? ⟨w.heap.size, i, none⟩ = some v) ∧ (∀ i v, B[i]? = some v → (((w.alloc (.cells A E)).alloc (.cells B E)).drew).cell? ⟨w.heap.size + 1, i, none⟩ = some v) ∧ Below w.heap.size w ((w.alloc (.cells A E)).alloc (.cells B E)).drew := by
  have e : (w.alloc (.cells A E)).heap.size = w.heap.size + 1 := by simp
  have k0 : ((w.alloc (.cells A E)).alloc (.cells B E)).heap[w.heap.size]? = some (.cells A E) := hp_old (hp_new rfl)
  have k1 : ((w.alloc (.cells A E)).alloc (.cells B E)).heap[w.heap.size + 1]? = some (.cells B E) := hp_new e
  have k2 : Below w.heap.size w ((w.alloc (.cells A E)).alloc (.cells B E)).drew := (below_alloc _ (below_alloc _ (below_refl w))).drew
  generalize (w.alloc (.cells A E)).alloc (.cells B E) = w' at *
  rw [← heap_drew w'] at k0 k1
  refine ⟨fun i v h => ?_, fun i v h => ?_, k2⟩
  · rw [cell_of_row _ _ _ _ _ _ k0]; exact h
  · rw [cell_of_row _ _ _ _ _ _ k1]; exact h
theorem fits_no (ta : Option Addr) (n tc : Nat) (T : Tab) (qa : Option Addr) (m qc : Nat) (q : List Int) (w : World) (h : RdT w ta n tc T) (h2 : Rd vi w qa m qc q) (hf : ¬ Fit T q) (hl : Low T 12 1000) (h20 : m ≤ 20) :
    Calls Try.prog 13 #[.slice ta n tc, .slice qa m qc] w fun e w' => e = .returned (.bool true) ∧ Below w.heap.size w w' := by
  have H := Lib.hid h; have H2 := Lib.hid h2; have HNO := Lib.hid hf
  have hd := decide_eq_true hl
  clear h h2 hf hl
  go_enter Try.func13, Try.ntmps13
  go_wp2_with (first
    | (go_at_call 14; refine (awake_any _).mono ?_; rintro e w1 ⟨rfl, b1⟩; have H1 := Lib.hid (H.out.fw b1); have H21 := Lib.hid (H2.out.fw b1); have B1 := Lib.hid b1; clear b1)
    | (go_at_call 16; refine (low_any _ _ _ T _ _ _ H1.out).mono ?_; rw [hd]; rintro e w' ⟨rfl, rfl⟩)
    | (go_at_call 28; refine (settle_no _ _ _ T _ _ _ q _ H1.out H21.out HNO.out).mono ?_; rintro e w' ⟨rfl, rfl⟩)
    | fail)
  go_ret
  exact ⟨rfl, B1.out⟩
theorem fits_low (ta : Option Addr) (n tc : Nat) (T : Tab) (qa : Option Addr) (m qc : Nat) (w : World) (h : RdT w ta n tc T) (hl : ¬ Low T 12 1000) :
    Calls Try.prog 13 #[.slice ta n tc, .slice qa m qc] w fun e w' => e = .returned (.bool true) ∧ Below w.heap.size w w' := by
  have H := Lib.hid h
  have hd := decide_eq_false hl
  clear h hl
  go_enter Try.func13, Try.ntmps13
  go_wp2_with (first
    | (go_at_call 14; refine (awake_any _).mono ?_; rintro e w1 ⟨rfl, b1⟩; have H1 := Lib.hid (H.out.fw b1); have B1 := Lib.hid b1; clear b1)
    | (go_at_call 16; refine (low_any _ _ _ T _ _ _ H1.out).mono ?_; rw [hd]; rintro e w' ⟨rfl, rfl⟩)
    | fail)
  go_ret
  exact ⟨rfl, B1.out⟩
theorem fits_long (ta : Option Addr) (n tc : Nat) (T : Tab) (qa : Option Addr) (m qc : Nat) (w : World) (h : RdT w ta n tc T) (hl : Low T 12 1000) (h20 : 20 < m) (hm : m ≤ 9223372036854775807) :
    Calls Try.prog 13 #[.slice ta n tc, .slice qa m qc] w fun e w' => e = .returned (.bool true) ∧ Below w.heap.size w w' := by
  have H := Lib.hid h
  have hd := decide_eq_true hl
  clear h hl
  go_enter Try.func13, Try.ntmps13
  go_wp2_with (first
    | (go_at_call 14; refine (awake_any _).mono ?_; rintro e w1 ⟨rfl, b1⟩; have H1 := Lib.hid (H.out.fw b1); have B1 := Lib.hid b1; clear b1)
    | (go_at_call 16; refine (low_any _ _ _ T _ _ _ H1.out).mono ?_; rw [hd]; rintro e w' ⟨rfl, rfl⟩)
    | fail)
  go_ret
  exact ⟨rfl, B1.out⟩
set_option maxHeartbeats 8000000 in
theorem fits_ok (ta : Option Addr) (n tc : Nat) (T : Tab) (qa : Option Addr) (qc : Nat) (q : List Int) (w : World) (h : RdT w ta n tc T) (h2 : Rd vi w qa n qc q) (hf : Fit T q) (hl : Low T 12 1000) :
    Calls Try.prog 13 #[.slice ta n tc, .slice qa n qc] w fun e w' => e = .returned (.bool true) ∧ Below w.heap.size w w' := by
  have hn : n ≤ 12 := by have := hf.1.1; rw [h.len] at this; exact this
  have H := Lib.hid h; have H2 := Lib.hid h2; have HF := Lib.hid hf
  have hlen := Lib.hid h.len
  have hd := decide_eq_true hl
  have z0 : ((n : Int) != (n : Int)) = false := by simp
  clear h h2 hf hl
  go_enter Try.func13, Try.ntmps13
  by_cases hfull : Full T q
  · have HFULL := Lib.hid hfull
    clear hfull
    go_wp2_with (first
      | (go_at_call 14; refine (awake_any _).mono ?_; rintro e w1 ⟨rfl, b1⟩; have H1 := Lib.hid (H.out.fw b1); have H21 := Lib.hid (H2.out.fw b1); have B1 := Lib.hid b1; clear b1)
      | (go_at_call 16; refine (low_any _ _ _ T _ _ _ H1.out).mono ?_; rw [hd]; rintro e w' ⟨rfl, rfl⟩)
      | (go_at_call 28; refine (settle_any _ _ _ T _ _ q _ H1.out H21.out HF.out).mono ?_; rintro e w2 ⟨b2, ⟨_, rfl⟩ | ⟨φ, _, _, hB, _⟩⟩; rotate_left; (· exact absurd (HFULL.out φ hB.flow) hB.all); have B2 := Lib.hid (bt B1.out b2); clear b2)
      | fail)
    go_ret
    exact ⟨rfl, B2.out⟩
  · have HFULL := Lib.hid hfull
    clear hfull
    go_upto_region 8 with (first
      | (go_at_call 14; refine (awake_any _).mono ?_; rintro e w1 ⟨rfl, b1⟩; have H1 := Lib.hid (H.out.fw b1); have H21 := Lib.hid (H2.out.fw b1); have B1 := Lib.hid b1; clear b1)
      | (go_at_call 16; refine (low_any _ _ _ T _ _ _ H1.out).mono ?_; rw [hd]; rintro e w' ⟨rfl, rfl⟩)
      | (go_at_call 28; refine (settle_any _ _ _ T _ _ q _ H1.out H21.out HF.out).mono ?_; rintro e w2 ⟨b2, ⟨hyes, _⟩ | ⟨φ, ma, mc, hB, rfl, hm⟩⟩; (· exact absurd hyes HFULL.out); have B2 := Lib.hid (bt B1.out b2); have H3 := Lib.hid (H1.out.fw b2); have H23 := Lib.hid (H21.out.fw b2); have BST := Lib.hid hB; have HMV := Lib.hid hm; clear b2 hB hm)
      | fail)
    obtain ⟨r, hr⟩ : ∃ r, r = relMoves T q φ := ⟨_, rfl⟩
    obtain ⟨L, hL⟩ : ∃ L, L = r.length := ⟨_, rfl⟩
    obtain ⟨S, s1, s2, s3, s4⟩ := fits_plain HF.out BST.out.flow BST.out.all
    rw [← hr] at s1
    rw [← hr] at HMV ⊢
    rw [← hL] at HMV ⊢
    have HSORT : Hid (List.Pairwise MvLt r) := by rw [hr]; exact rel_sorted T q φ
    have HLL := Lib.hid hL
    have hLlim := HMV.out.lim
    have S1 := Lib.hid s1; have S2 := Lib.hid s2; have S4 := Lib.hid s4
    have S3 : Hid (S.length = n) := by rw [s3]; exact hlen.out
    clear hr hL s1 s2 s3 s4
    go_wp2_with (first
      | (go_at_call 34; refine (apply_any _ _ _ T _ _ _ (r.map mzOf) _ H3.out HMV.out).mono ?_; rw [S1.out]; rintro e w4 ⟨ra, rc, rfl, r4, b4⟩; dsimp only at r4 ⊢; rw [S3.out] at r4 ⊢; have R4 := Lib.hid r4; have B4 := Lib.hid (bt B2.out b4); have H4 := Lib.hid (H3.out.fw b4); have H24 := Lib.hid (H23.out.fw b4); have MV4 := Lib.hid (HMV.out.fw b4); clear r4 b4)
      | (go_at_call_of 30 ta; refine (Held_any _ _ _ T _ H4.out HF.out.1).mono ?_; rintro e w5 ⟨g5, rfl, hg5, r5, b5⟩; have B5 := Lib.hid (bt B4.out b5); have R5 := Lib.hid (R4.out.fw b5); have H25 := Lib.hid (H24.out.fw b5); have MV5 := Lib.hid (MV4.out.fw b5); have A5 := Lib.hid r5; clear hg5 r5 b5)
      | (go_at_call_of 30 ra; refine (Held_any _ _ _ S _ R5.out S2.out).mono ?_; rintro e w6 ⟨g6, rfl, hg6, r6, b6⟩; have B6 := Lib.hid (bt B5.out b6); have H26 := Lib.hid (H25.out.fw b6); have MV6 := Lib.hid (MV5.out.fw b6); have A6 := Lib.hid (A5.out.fw b6); have D6 := Lib.hid r6; clear hg6 r6 b6)
      | fail)
    go_loopw [13] (fun i wr => ∃ d : Nat, d ≤ n ∧ i = .int .i64 (d : Int) ∧ Hid (Drw w6 wr)) (fun i _ => n - (intOf i).toNat)
    case atStart => exact ⟨0, by omega, rfl, Drw.refl w6⟩
    case round =>
      obtain ⟨d, hdn, rfl, hdr⟩ := hrel
      rename World => wo
      by_cases hlt : d < n
      · have i3 : (d : Int) < (n : Int) := by omega
        have x0 : (heldF T)[d]? = some (loadOf T d) := get_some (by rw [held_length, hlen.out]; exact hlt) 0
        have y0 : (heldF S)[d]? = some (loadOf S d) := get_some (by rw [held_length, S3.out]; exact hlt) 0
        have q0 : q[d]? = some (q.getD d 0) := get_some (by rw [H26.out.len]; exact hlt) 0
        obtain ⟨f1, f2⟩ := S4.out d (by rw [hlen.out]; exact hlt)
        have hov : over T q d ↔ q.getD d 0 < loadOf T d := Iff.rfl
        obtain ⟨x, hx⟩ : ∃ x, x = loadOf T d := ⟨_, rfl⟩
        obtain ⟨y, hy⟩ : ∃ y, y = loadOf S d := ⟨_, rfl⟩
        obtain ⟨p, hp⟩ : ∃ p, p = q.getD d 0 := ⟨_, rfl⟩
        rw [← hx, ← hp] at hov
        rw [← hx] at x0 f2; rw [← hy] at y0 f1 f2; rw [← hp] at q0 f1 f2
        have c1 := (A6.out.fw hdr.out.fw).cell x0
        have c2 := (D6.out.fw hdr.out.fw).cell y0
        obtain ⟨qb, qo, rfl, c3⟩ := (H26.out.fw hdr.out.fw).cell d _ q0
        unfold vi at c1 c2 c3
        clear x0 y0 q0 hx hy hp
        by_cases hv : p < x
        · have e := f1 (hov.2 hv)
          subst e
          have e1 : (y != y) = false := by simp
          have e2 := decide_eq_true hv
          have e3 : decide (x ≤ y) = false := decide_eq_false (by omega)
          clear f1 f2 hov hv
          go_wp2_with fail
          go_quiet (fail)
          go_wp2_with fail
          go_roundw
          case rel => exact ⟨d + 1, by omega, by go_num, hdr.out.step nq⟩
          case measure => simp [intOf]; omega
        · have hxp : x ≤ p := by omega
          obtain ⟨k1, k2⟩ := f2 (fun z => hv (hov.1 z))
          have e2 := decide_eq_false hv
          have e3 := decide_eq_true hxp
          have e4 : decide (p < y) = false := decide_eq_false (by omega)
          have e5 : decide (y < x) = false := decide_eq_false (by omega)
          clear f1 f2 hov hv hxp k1 k2
          go_wp2_with fail
          go_quiet (fail)
          go_wp2_with fail
          go_roundw
          case rel => exact ⟨d + 1, by omega, by go_num, hdr.out.step nq⟩
          case measure => simp [intOf]; omega
      · have BD := Lib.hid (bt B6.out hdr.out.fw)
        have MVD := Lib.hid (MV6.out.fw hdr.out.fw)
        go_wp2_with fail
        go_loopw [14, 15, 16] (fun i _ _ wr => ∃ j : Nat, (j + 1 ≤ L ∨ j = 0) ∧ i = .int .i64 ((j : Int) + 1) ∧ Hid (Below wo.heap.size wo wr)) (fun i _ _ _ => L - ((intOf i).toNat - 1))
        case atStart => exact ⟨0, .inr rfl, rfl, below_refl wo⟩
        case round =>
          obtain ⟨j, hj, rfl, hbe⟩ := hrel
          by_cases hlt2 : j + 1 < L
          · have i4 : (j : Int) + 1 < (L : Int) := by omega
            obtain ⟨m0, hm0⟩ : ∃ m0, r[j]? = some m0 := ⟨_, List.getElem?_eq_getElem (by rw [← HLL.out]; omega)⟩
            obtain ⟨m1, hm1⟩ : ∃ m1, r[j + 1]? = some m1 := ⟨_, List.getElem?_eq_getElem (by rw [← HLL.out]; exact hlt2)⟩
            have hlt3 : MvLt m0 m1 := by
              have := List.pairwise_iff_getElem.1 HSORT.out j (j + 1) (by rw [← HLL.out]; omega) (by rw [← HLL.out]; exact hlt2) (Nat.lt_succ_self j)
              rw [List.getElem?_eq_getElem (by rw [← HLL.out]; omega)] at hm0
              rw [List.getElem?_eq_getElem (by rw [← HLL.out]; exact hlt2)] at hm1
              rwa [Option.some.inj hm0, Option.some.inj hm1] at this
            have HLT := Lib.hid hlt3
            obtain ⟨mb, mo, rfl, c0, c1, c2, c3⟩ := RdA.mov (MVD.out.fw hbe.out) (i := j) (m := mzOf m0) (by rw [List.getElem?_map, hm0]; rfl)
            obtain ⟨mb', mo', he, d0, d1, d2, d3⟩ := RdA.mov (MVD.out.fw hbe.out) (i := j + 1) (m := mzOf m1) (by rw [List.getElem?_map, hm1]; rfl)
            cases he
            change _ = some (Value.int .i64 (m0.fr : Int)) at c0
            change _ = some (Value.int .i64 (m0.dst : Int)) at c1
            change _ = some (Value.int .i64 (m0.ow : Int)) at c2
            change _ = some (Value.int .i64 m0.amt) at c3
            change _ = some (Value.int .i64 (m1.fr : Int)) at d0
            change _ = some (Value.int .i64 (m1.dst : Int)) at d1
            change _ = some (Value.int .i64 (m1.ow : Int)) at d2
            change _ = some (Value.int .i64 m1.amt) at d3
            have k1 := iwq (a := (j : Int)) (by omega)
            have k2 := w64q (a := (j : Int)) (by omega)
            have k3 : (j : Int) < (L : Int) := by omega
            have k4 : (0 : Int) ≤ (j : Int) + 1 := by omega
            have k5 : ((j : Int) + 1).toNat = j + 1 := by omega
            have hlt4 : (m0.fr : Int) < m1.fr ∨ (m0.fr : Int) = m1.fr ∧ ((m0.ow : Int) < m1.ow ∨ (m0.ow : Int) = m1.ow ∧ (m0.dst : Int) < m1.dst) := by
              unfold MvLt at hlt3
              omega
            clear hm0 hm1 hlt3 HLT
            generalize (m0.fr : Int) = af at *
            generalize (m1.fr : Int) = bf at *
            generalize (m0.ow : Int) = ao at *
            generalize (m1.ow : Int) = bo at *
            generalize (m0.dst : Int) = ad at *
            generalize (m1.dst : Int) = bd at *
            generalize m0.amt = aa at *
            generalize m1.amt = ba at *
            have HLT := Lib.hid hlt4
            clear hlt4
            go_upto_region 21 with fail
            go_cut [15, 16] from 145 to 192 (fun a b wq => ∃ g1 g2, a = .pointer (some ⟨g1, 0, none⟩) ∧ b = .pointer (some ⟨g2, 0, none⟩) ∧ Hid (wq.cell? ⟨g1, 0, none⟩ = some (.int .i64 af)) ∧ Hid (wq.cell? ⟨g1, 1, none⟩ = some (.int .i64 ad)) ∧ Hid (wq.cell? ⟨g1, 2, none⟩ = some (.int .i64 ao)) ∧ Hid (wq.cell? ⟨g2, 0, none⟩ = some (.int .i64 bf)) ∧ Hid (wq.cell? ⟨g2, 1, none⟩ = some (.int .i64 bd)) ∧ Hid (wq.cell? ⟨g2, 2, none⟩ = some (.int .i64 bo)) ∧ Hid (Below wo.heap.size wo wq))
            case first =>
              go_region_held3 (fun w' => w'.cell? ⟨mb, mo + j * 4, none⟩ = some (.int .i64 af) ∧ w'.cell? ⟨mb, mo + j * 4 + 1, none⟩ = some (.int .i64 ad) ∧ w'.cell? ⟨mb, mo + j * 4 + 2, none⟩ = some (.int .i64 ao) ∧ w'.cell? ⟨mb, mo + j * 4 + 3, none⟩ = some (.int .i64 aa) ∧ w'.cell? ⟨mb, mo + (j + 1) * 4, none⟩ = some (.int .i64 bf) ∧ w'.cell? ⟨mb, mo + (j + 1) * 4 + 1, none⟩ = some (.int .i64 bd) ∧ w'.cell? ⟨mb, mo + (j + 1) * 4 + 2, none⟩ = some (.int .i64 bo) ∧ w'.cell? ⟨mb, mo + (j + 1) * 4 + 3, none⟩ = some (.int .i64 ba)) (first | assumption | go_keep) (fail)
              · go_wp2_with fail
                go_meet
                obtain ⟨t1, t2, t3⟩ := two_new wr #[.int .i64 af, .int .i64 ad, .int .i64 ao, .int .i64 aa] #[.int .i64 bf, .int .i64 bd, .int .i64 bo, .int .i64 ba] 47
                exact ⟨wr.heap.size, wr.heap.size + 1, rfl, rfl, t1 0 _ rfl, t1 1 _ rfl, t1 2 _ rfl, t2 0 _ rfl, t2 1 _ rfl, t2 2 _ rfl, bt hbe.out t3⟩
              · go_wp2_with fail
                go_meet
                obtain ⟨t1, t2, t3⟩ := two_new wr #[.int .i64 bf, .int .i64 bd, .int .i64 bo, .int .i64 ba] #[.int .i64 af, .int .i64 ad, .int .i64 ao, .int .i64 aa] 47
                exact ⟨wr.heap.size + 1, wr.heap.size, rfl, rfl, t2 0 _ rfl, t2 1 _ rfl, t2 2 _ rfl, t1 0 _ rfl, t1 1 _ rfl, t1 2 _ rfl, bt hbe.out t3⟩
            case rest =>
              obtain ⟨g1, g2, rfl, rfl, p0, p1, p2, q0, q1, q2, hbq⟩ := hcut
              have p0 := p0.out; have p1 := p1.out; have p2 := p2.out; have q0 := q0.out; have q1 := q1.out; have q2 := q2.out
              rcases HLT.out with h1 | ⟨rfl, h1 | ⟨rfl, h1⟩⟩
              · have e1 : decide (bf < af) = false := decide_eq_false (by omega)
                have e2 : (af == bf) = false := by simp; omega
                clear h1 HLT
                go_wp2_with fail
                go_roundw
                case rel => exact ⟨j + 1, .inl (by omega), by go_num, hbq⟩
                case measure => simp [intOf]; omega
              · have e1 : decide (af < af) = false := decide_eq_false (by omega)
                have e2 : (af == af) = true := by simp
                have e3 : decide (bo < ao) = false := decide_eq_false (by omega)
                have e4 : (ao == bo) = false := by simp; omega
                clear h1 HLT
                go_wp2_with fail
                go_roundw
                case rel => exact ⟨j + 1, .inl (by omega), by go_num, hbq⟩
                case measure => simp [intOf]; omega
              · have e1 : decide (af < af) = false := decide_eq_false (by omega)
                have e2 : (af == af) = true := by simp
                have e3 : decide (ao < ao) = false := decide_eq_false (by omega)
                have e4 : (ao == ao) = true := by simp
                have e5 : decide (bd ≤ ad) = false := decide_eq_false (by omega)
                clear h1 HLT
                go_wp2_with fail
                go_roundw
                case rel => exact ⟨j + 1, .inl (by omega), by go_num, hbq⟩
                case measure => simp [intOf]; omega
          · have hge : (L : Int) ≤ (j : Int) + 1 := by omega
            go_wp2_with fail
            go_ret
            exact ⟨rfl, bt BD.out hbe.out⟩
theorem walk_QuotaFits (ta : Option Addr) (n tc : Nat) (T : Tab) (qa : Option Addr) (m qc : Nat) (q : List Int) (w : World) (h : RdT w ta n tc T) (hy : ∀ m ∈ T, ∀ z ∈ m, -9223372036854775808 ≤ z ∧ z ≤ 9223372036854775807) (h2 : Rd vi w qa m qc q) (hy2 : ∀ z ∈ q, -9223372036854775808 ≤ z ∧ z ≤ 9223372036854775807) :
    Calls Try.prog 13 #[.slice ta n tc, .slice qa m qc] w fun e w' => e = .returned (.bool true) ∧ Below w.heap.size w w' := by
  have hlim2 : m ≤ 9223372036854775807 := by have := h2.cap; have := h2.max; unfold maxLen at *; omega
  by_cases hl : Low T 12 1000
  · by_cases h20 : 20 < m
    · exact fits_long ta n tc T qa m qc w h hl h20 hlim2
    · by_cases hf : Fit T q
      · obtain rfl : m = n := by rw [← h2.len, hf.2.1, h.len]
        exact fits_ok ta m tc T qa qc q w h h2 hf hl
      · exact fits_no ta n tc T qa m qc q w h h2 hf hl (by omega)
  · exact fits_low ta n tc T qa m qc w h hl
end Go.Proofs.Ytpecepfnmkpmmaa
