/- MatrixKernels: the walk. -/
import Derived.Test.YtchhfpaicdhjbaaMw
import Derived.Test.YtchhfpaicdhjbaaMy
import Derived.Test.YtchhfpaicdhjbaaMkc
namespace Mat
theorem freeC_get {piv : List Nat} {c : Nat} (hc : c ∉ piv) : ∀ k, c < k → (freeC piv k)[(freeC piv c).length]? = some c
  | 0, h => by omega
  | k + 1, h => by
    by_cases e : c = k
    · subst e
      rw [freeC_free hc, List.getElem?_append_right (Nat.le_refl _), Nat.sub_self]; rfl
    · have ih := freeC_get hc k (by omega)
      by_cases hm : k ∈ piv
      · rw [freeC_pivot hm]; exact ih
      · rw [freeC_free hm, List.getElem?_append_left (List.getElem?_eq_some_iff.1 ih).1]; exact ih
end Mat
namespace Go.Proofs.Ytchhfpaicdhjbaa
open Go.RowKit Go.Kin Mat
open Fq (sum)
set_option maxRecDepth 100000
set_option linter.unusedVariables false

set_option maxHeartbeats 2000000 in
theorem walk_MatrixKernels (a : Option Addr) (n c : Nat) (A : List (List Nat)) (w : World) (h1 : RdM w a n c A) (hb1 : ∀ m ∈ A, ∀ x ∈ m, x < 256) :
    Calls Try.prog 4 #[.slice a n c] w fun e w' => e = .returned (.bool true) ∧ Below w.heap.size w w' := by
  by_cases hfA : FewL A 8
  case neg =>
    have HF := decide_eq_false hfA
    go_enter Try.func4, Try.ntmps4
    go_wp2_with (first
      | (go_at_call 13; refine (few_any _ _ _ _ 8 _ h1).mono ?_; rw [HF]; rintro e w' ⟨rfl, rfl⟩)
      | (go_at_call 14; refine (awake_any _).mono ?_; rintro e w1 ⟨rfl, b1⟩))
    go_ret
    exact ⟨rfl, b1⟩
  have HF := decide_eq_true hfA
  by_cases hok : ValidL A
  case neg =>
    have dA := decide_eq_false hok
    have HO := Lib.hid hok
    clear hok hfA
    go_enter Try.func4, Try.ntmps4
    go_wp2_with (first
      | (go_at_call 13; refine (few_any _ _ _ _ 8 _ h1).mono ?_; rw [HF]; rintro e w' ⟨rfl, rfl⟩)
      | (go_at_call 17; refine (kernel_bad _ _ _ A _ (by repeat (first | assumption | apply RdM.alloc | (apply RdM.fw2; assumption))) HO.out).mono ?_; rintro e w' ⟨rfl, rfl⟩)
      | (go_at_call 16; refine (rvalid_any _ _ _ _ _ (by repeat (first | assumption | apply RdM.alloc | (apply RdM.fw2; assumption)))).mono ?_; rintro e w2 ⟨rfl, hd⟩; have b2 := hd.fw; clear hd)
      | (go_at_call 14; refine (awake_any _).mono ?_; rintro e w4 ⟨rfl, b4⟩))
    go_ret
    exact ⟨rfl, (by repeat (first | assumption | apply below_alloc | (apply bt'; assumption)))⟩
  have dA := decide_eq_true hok
  obtain ⟨k, f, v1, hk, rfl⟩ := valid_form h1 hb1 hok
  have hcA := v1.cols f
  have hn := v1.hn; have hkk := (few_vm hfA v1).2
  obtain ⟨s, hs⟩ : ∃ s, s = elimE n f k := ⟨_, rfl⟩
  have HS := Lib.hid hs
  obtain ⟨nk, hnk⟩ : ∃ nk, nk = (freeC s.piv k).length := ⟨_, rfl⟩
  have HNK := Lib.hid hnk
  obtain ⟨np, hnp⟩ : ∃ np, np = s.piv.length := ⟨_, rfl⟩
  have HNP := Lib.hid hnp
  obtain ⟨pl, hpl⟩ : ∃ pl, pl = s.piv.map Int.ofNat := ⟨_, rfl⟩
  have HPL := Lib.hid hpl
  have hnkk : nk ≤ k := by rw [hnk]; exact freeC_le _ _
  clear hok hfA hk hb1 hs hnk hnp hpl
  go_enter Try.func4, Try.ntmps4
  go_wp2_with (first
    | (go_at_call 13; refine (few_any _ _ _ _ 8 _ h1).mono ?_; rw [HF]; rintro e w' ⟨rfl, rfl⟩)
    | (go_at_call 17; refine (kernel_any _ _ _ k f _ (by repeat (first | assumption | apply RdM.alloc | (apply RdM.fw2; assumption))) v1).mono ?_; rw [← HS.out, ← HNK.out]; rintro e w1 ⟨ka, kc, rfl, hM, b1⟩; have r1 := hM.rdm; clear hM)
    | (go_at_call 16; refine (rvalid_any _ _ _ _ _ (by repeat (first | assumption | apply RdM.alloc | (apply RdM.fw2; assumption)))).mono ?_; rintro e w2 ⟨rfl, hd⟩; have b2 := hd.fw; clear hd)
    | (go_at_call 18; refine (rreduce_any _ _ _ _ f _ (by repeat (first | assumption | apply RdM.alloc | (apply RdM.fw2; assumption))) v1).mono ?_; rw [← HS.out]; rintro e w3 ⟨oa', oc', qa, qc, he, hM', hO', b3⟩; rw [← HNP.out] at he; subst he; rw [← HNP.out, ← HPL.out] at hO'; have p3 := hO'.rd; clear hM' hO'))
  have hk3' : RdM w3 ka nk kc (mlist nk k (kerM s (freeC s.piv k))) := (by repeat (first | assumption | apply RdM.alloc | (apply RdM.fw2; assumption)))
  have hm3' : RdM w3 a n c (mlist n k f) := (by repeat (first | assumption | apply RdM.alloc | (apply RdM.fw2; assumption)))
  have hb3' : Below w.heap.size w w3 := (by repeat (first | assumption | apply below_alloc | (apply bt'; assumption)))
  have HK3 := Lib.hid hk3'; have HM3 := Lib.hid hm3'; have HB3 := Lib.hid hb3'; have HP3 := Lib.hid p3
  clear hk3' hm3' hb3' p3 r1 b1 b2 b3 h1
  go_loopw [7, 8, 9] (fun at' i _ wr => ∃ c' t : Nat, c' ≤ k ∧ i = .int .i64 (c' : Int) ∧ at' = .int .i64 (t : Int) ∧ t ≤ c' ∧ Hid (t = (freeC s.piv c').length) ∧ Hid (Below w3.heap.size w3 wr)) (fun _ i _ _ => k - (intOf i).toNat)
  case atStart => exact ⟨0, 0, by omega, rfl, rfl, by omega, rfl, below_refl w3⟩
  case round =>
    obtain ⟨c', t, hc', rfl, rfl, htc, ht, hbe⟩ := hrel
    by_cases hlc : c' < k
    · have i2 : (c' : Int) < (k : Int) := by omega
      by_cases hpm : c' ∈ s.piv
      · have FR : Hid (Calls Try.prog 20 #[.slice qa np qc, .int .i64 (c' : Int)] wr fun e w' => e = .returned (.bool false) ∧ wr = w') := by
          refine (free_any qa np qc pl (c' : Int) wr (HP3.out.fw hbe.out)).mono fun e w' ⟨he, hw⟩ => ⟨?_, hw⟩
          rw [he, decide_eq_true]; · rfl
          rw [HPL.out]
          exact List.mem_map.2 ⟨c', hpm, rfl⟩
        have ht2 : Hid (t = (freeC s.piv (c' + 1)).length) := by show _ = _; rw [freeC_pivot hpm]; exact ht.out
        clear hpm
        go_wp2_with (first
          | (go_at_call 19; refine (rcols_any _ _ _ _ _ (HM3.out.fw hbe.out)).mono ?_; rw [hcA]; rintro e w' ⟨rfl, rfl⟩)
          | (go_at_call 20; with_reducible refine FR.out.mono ?_; rintro e w' ⟨rfl, rfl⟩))
        go_roundw
        case rel => exact ⟨c' + 1, t, by omega, by go_num, rfl, by omega, ht2.out, hbe.out⟩
        case measure => simp [intOf]; omega
      · have hget := freeC_get hpm k hlc
        rw [← ht.out] at hget
        have htn : t < nk := by rw [HNK.out]; exact (List.getElem?_eq_some_iff.1 hget).1
        have hkr : kerM s (freeC s.piv k) t = kerV s c' s.piv.length := by
          unfold kerM; rw [List.getD_eq_getElem?_getD, hget]; rfl
        have HKR := Lib.hid hkr
        have ht2 : Hid (t + 1 = (freeC s.piv (c' + 1)).length) := by show _ = _; rw [freeC_free hpm, List.length_append, ← ht.out]; rfl
        have FR : Hid (∀ wx, Below w3.heap.size w3 wx → Calls Try.prog 20 #[.slice qa np qc, .int .i64 (c' : Int)] wx fun e w' => e = .returned (.bool true) ∧ wx = w') := by
          intro wx hwx
          refine (free_any qa np qc pl (c' : Int) wx (HP3.out.fw hwx)).mono fun e w' ⟨he, hw⟩ => ⟨?_, hw⟩
          rw [he, decide_eq_false]; · rfl
          rw [HPL.out]
          intro hm
          obtain ⟨u, hu, e⟩ := List.mem_map.1 hm
          have : u = c' := Int.ofNat.inj e
          exact hpm (this ▸ hu)
        have HPM := Lib.hid hpm
        obtain ⟨rr, ra, rn, rc, ba, ob, hmr, rfl, k0w, hrow0⟩ := HK3.out.row htn
        obtain rfl := mlist_row hmr
        obtain rfl : k = rn := by have := hrow0.len; rwa [mrow_length] at this
        rw [hkr] at hrow0
        have lbk := lt_of_cell k0w
        have k0 := (cellBelow hbe.out lbk).trans k0w
        have K0W := Lib.hid k0w
        have HROW := Lib.hid hrow0
        have i3 : (t : Int) < (nk : Int) := by omega
        have e1 : decide (nk ≤ t) = false := by simp; omega
        have e2 : (((k : Nat) : Int) != ((k : Nat) : Int)) = false := by simp
        have HCQ : Hid (∀ nn, Calls Try.prog 19 #[.slice a n c] (wr.drewN nn) fun e w' => e = .returned (.int .i64 ((k : Nat) : Int)) ∧ wr.drewN nn = w') := fun nn => by
          have := rcols_any a n c _ (wr.drewN nn) (HM3.out.fw (fdrewN hbe.out nn))
          rw [hcA] at this; exact this
        clear hmr k0w hrow0 hkr hget hpm
        go_wp2_with (first
          | (go_at_call 19; refine (rcols_any _ _ _ _ _ (HM3.out.fw hbe.out)).mono ?_; rw [hcA]; rintro e w' ⟨rfl, rfl⟩)
          | (go_at_call 20; with_reducible refine (FR.out _ hbe.out).mono ?_; rintro e w' ⟨rfl, rfl⟩))
        go_quiet ((go_at_call 19; exact qsame (HCQ.out _)))
        rename World => wo
        have hbo := Lib.hid (fdrewN hbe.out nq)
        generalize wo.drewN nq = wq at hbo ⊢
        go_wp2_with fail
        go_loop [9] (fun i => ∃ d : Nat, d ≤ k ∧ i = .int .i64 (d : Int)) (fun i => k - (intOf i).toNat)
        case atStart => exact ⟨0, by omega, rfl⟩
        case round =>
          obtain ⟨d, hd, rfl⟩ := hrel
          have kq := (cellBelow hbo.out lbk).trans K0W.out
          by_cases hld : d < k
          · have j2 : (d : Int) < (k : Int) := by omega
            by_cases hdm : d ∈ s.piv
            · have FD : Hid (Calls Try.prog 20 #[.slice qa np qc, .int .i64 (d : Int)] wq fun e w' => e = .returned (.bool false) ∧ wq = w') := by
                refine (free_any qa np qc pl (d : Int) wq (HP3.out.fw hbo.out)).mono fun e w' ⟨he, hw⟩ => ⟨?_, hw⟩
                rw [he, decide_eq_true]; · rfl
                rw [HPL.out]
                exact List.mem_map.2 ⟨d, hdm, rfl⟩
              clear hdm kq
              go_wp2_with (first
                | (go_at_call 19; refine (rcols_any _ _ _ _ _ (HM3.out.fw hbo.out)).mono ?_; rw [hcA]; rintro e w' ⟨rfl, rfl⟩)
                | (go_at_call 20; with_reducible refine FD.out.mono ?_; rintro e w' ⟨rfl, rfl⟩))
              go_round
              case rel => exact ⟨d + 1, by omega, by go_num⟩
              case measure => simp [intOf]; omega
            · have FD : Hid (Calls Try.prog 20 #[.slice qa np qc, .int .i64 (d : Int)] wq fun e w' => e = .returned (.bool true) ∧ wq = w') := by
                refine (free_any qa np qc pl (d : Int) wq (HP3.out.fw hbo.out)).mono fun e w' ⟨he, hw⟩ => ⟨?_, hw⟩
                rw [he, decide_eq_false]; · rfl
                rw [HPL.out]
                intro hm
                obtain ⟨u, hu, e⟩ := List.mem_map.1 hm
                have : u = d := Int.ofNat.inj e
                exact hdm (this ▸ hu)
              obtain ⟨bx, ox, hbx, d1⟩ := (HROW.out.fw hbo.out).cell d _ (mrow_get _ hld)
              subst hbx
              rw [kerV_free hdm] at d1
              by_cases hdc : d = c'
              · rw [if_pos hdc] at d1
                have d2 : wq.cell? ⟨bx, ox + d, none⟩ = some (.int .u8 1) := d1
                have e3 : (((c' : Nat) : Int) == ((d : Nat) : Int)) = true := by simp; omega
                have e4 : (((c' : Nat) : Int) != ((d : Nat) : Int)) = false := by simp; omega
                clear hdm d1 hdc
                go_wp2_with (first
                  | (go_at_call 19; refine (rcols_any _ _ _ _ _ (HM3.out.fw hbo.out)).mono ?_; rw [hcA]; rintro e w' ⟨rfl, rfl⟩)
                  | (go_at_call 20; with_reducible refine FD.out.mono ?_; rintro e w' ⟨rfl, rfl⟩))
                go_round
                case rel => exact ⟨d + 1, by omega, by go_num⟩
                case measure => simp [intOf]; omega
              · rw [if_neg hdc] at d1
                have d2 : wq.cell? ⟨bx, ox + d, none⟩ = some (.int .u8 0) := d1
                have e3 : (((c' : Nat) : Int) == ((d : Nat) : Int)) = false := by simp; omega
                have e4 : (((c' : Nat) : Int) != ((d : Nat) : Int)) = true := by simp; omega
                clear hdm d1 hdc
                go_wp2_with (first
                  | (go_at_call 19; refine (rcols_any _ _ _ _ _ (HM3.out.fw hbo.out)).mono ?_; rw [hcA]; rintro e w' ⟨rfl, rfl⟩)
                  | (go_at_call 20; with_reducible refine FD.out.mono ?_; rintro e w' ⟨rfl, rfl⟩))
                go_round
                case rel => exact ⟨d + 1, by omega, by go_num⟩
                case measure => simp [intOf]; omega
          · have hdk : d = k := by omega
            subst hdk
            have EQ : Hid (mlist n 1 (mul d f (colM (mrow d (kerV s c' s.piv.length)))) = mlist n 1 (fun _ _ => 0)) := mlist_congr fun i x hi _ => by
              have := ker_vanish (n := n) (f := f) hlc (by rw [← HS.out]; exact HPM.out) i hi
              rw [← HS.out] at this
              show sum (fun t => f i t * colM (mrow d (kerV s c' s.piv.length)) t x) d = 0
              rw [← this]
              refine Fq.sum_congr fun t ht => ?_
              unfold colM
              rw [List.getD_eq_getElem?_getD, mrow_get _ ht]
              show f i t * Fq.of (kerV s c' s.piv.length t).n = _
              rw [Fq.of_val]
            have rq := HROW.out.fw hbo.out
            have mq := HM3.out.fw hbo.out
            go_wp2_with (first
              | (go_at_call 19; refine (rcols_any _ _ _ _ _ (HM3.out.fw hbo.out)).mono ?_; rw [hcA]; rintro e w' ⟨rfl, rfl⟩)
              | (go_at_call 23; refine (column_any _ _ _ _ _ (by repeat (first | assumption | apply Rd.alloc | (apply Rd.fw2; assumption))) (mrow_byt _ _) (by omega)).mono ?_; rintro e w12 ⟨a12, c12, rfl, hM, b12⟩; have r12 := hM.rdm (by omega); clear hM)
              | (go_at_call 22; refine (rprod_any _ _ _ _ _ _ 1 f (colM (mrow d (kerV s c' s.piv.length))) _ (by repeat (first | assumption | apply RdM.alloc | (apply RdM.fw2; assumption))) (by repeat (first | assumption | apply RdM.alloc | (apply RdM.fw2; assumption))) (by omega) (by omega) (fun e => by omega)).mono ?_; rintro e w13 ⟨a13, c13, rfl, hM, b13⟩; have r13 := hM.rdm (by omega); rw [EQ.out] at r13; clear hM)
              | (go_at_call 24; refine (rzero_any n 1 _ (by omega) (by omega)).mono ?_; rintro e w14 ⟨a14, c14, rfl, hM, b14⟩; have r14 := hM.rdm (by omega); clear hM)
              | (go_at_call 21; refine (msame_eq _ _ _ _ _ _ _ _ _ (by repeat (first | assumption | apply RdM.alloc | (apply RdM.fw2; assumption))) (by repeat (first | assumption | apply RdM.alloc | (apply RdM.fw2; assumption))) mlist_b rfl).mono ?_; rintro e w15 ⟨rfl, hd⟩; have b15 := hd.fw; clear hd))
            go_roundw
            case rel => exact ⟨c' + 1, t + 1, by omega, by go_num, by go_num, by omega, ht2.out, bt hbo.out (bt (bt (bt b12 b13) b14) b15)⟩
            case measure => simp [intOf]; omega
    · have hck : c' = k := by omega
      subst hck
      have e5 : (((t : Nat) : Int) == ((nk : Nat) : Int)) = true := by have := ht.out; have := HNK.out; simp; omega
      have bw := bt HB3.out hbe.out
      clear hlc ht
      go_wp2_with (first
        | (go_at_call 19; refine (rcols_any _ _ _ _ _ (HM3.out.fw hbe.out)).mono ?_; rw [hcA]; rintro e w' ⟨rfl, rfl⟩)
        | (go_at_call 14; refine (awake_any _).mono ?_; rintro e w16 ⟨rfl, b16⟩))
      go_ret
      exact ⟨rfl, bt bw b16⟩
end Go.Proofs.Ytchhfpaicdhjbaa
