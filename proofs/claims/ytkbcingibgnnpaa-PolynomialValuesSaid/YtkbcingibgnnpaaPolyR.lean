/- polynomial.Roots. -/
import Derived.Test.YtkbcingibgnnpaaPolyG
import Derived.Test.YtkbcingibgnnpaaPolyD
namespace Poly
/-- The roots, ascending. -/
def rootsTo (p : Poly) (k : Nat) : List Nat := (List.range k).filter fun x => decide (eval p (Fq.of x) = 0)
theorem rootsTo_zero (p : Poly) : rootsTo p 0 = [] := rfl
theorem rootsTo_succ (p : Poly) (k : Nat) : rootsTo p (k + 1) = rootsTo p k ++ if eval p (Fq.of k) = 0 then [k] else [] := by
  unfold rootsTo
  rw [List.range_succ, List.filter_append]
  congr 1
  by_cases h : eval p (Fq.of k) = 0 <;> simp [h]
theorem rootsTo_len (p : Poly) (k : Nat) : (rootsTo p k).length ≤ k := by
  have := List.length_filter_le (fun x => decide (eval p (Fq.of x) = 0)) (List.range k)
  rw [List.length_range] at this
  exact this
theorem rootsTo_byt (p : Poly) : Gf.Byt (rootsTo p 256) := fun x hx => by
  have := (List.mem_filter.1 hx).1
  simpa using this
end Poly
namespace Go.Proofs.Ytkbcingibgnnpaa
open Go.RowKit Go.Kin
set_option maxRecDepth 100000

theorem roots_zero (a : Option Addr) (n c : Nat) (p : List Nat) (w : World) (h1 : Rd vb w a n c p) (hp : Gf.Byt p) (hn : n ≤ 140737488355328) (h0 : Poly.of p = 0) :
    Calls Try.prog 39 #[.slice a n c] w fun e w' => e = .returned (.tuple #[.slice none 0 0, .int .i64 1]) ∧ Below w.heap.size w w' := by
  have H1 := Lib.hid h1; clear h1
  go_enter Try.func39, Try.ntmps39
  go_wp2_with fail
  refine (trim_any _ _ _ p _ H1.out hp hn).mono ?_
  rintro e w1 ⟨g1, rfl, hg1, hB1, hb1⟩
  clear hB1
  rw [h0, Poly.out_zero]
  go_wp2
  go_ret2
  exact ⟨rfl, hb1⟩

set_option maxHeartbeats 1000000 in
theorem roots_any (a : Option Addr) (n c : Nat) (p : List Nat) (w : World) (h1 : Rd vb w a n c p) (hp : Gf.Byt p) (hn : n ≤ 140737488355328) (h0 : 0 < (Poly.of p).sz) :
    Calls Try.prog 39 #[.slice a n c] w (RetOwnErr vb 5 w (Poly.rootsTo (Poly.of p) 256) 0) := by
  obtain ⟨i0, hi, hz0, hz1, hz2⟩ := info_parts info5
  have u1 := Try.underlying22
  have H1 := Lib.hid h1
  have hPn := Poly.sz_of_le p
  rw [h1.len] at hPn
  clear h1
  have BP := Lib.hid (Poly.out_byt (Poly.of p))
  have oP := Lib.hid (Poly.of_out (Poly.of p))
  have hP := Poly.out_length (Poly.of p)
  obtain ⟨P, HP⟩ : ∃ P, Hid (Poly.out (Poly.of p) = P) := ⟨_, rfl⟩
  obtain ⟨s, HS⟩ : ∃ s, Hid ((Poly.of p).sz = s) := ⟨_, rfl⟩
  rw [HP.out] at oP BP hP
  rw [HS.out] at hP hPn h0
  have HPL := Lib.hid hP; clear hP
  have e0 : (((s : Nat) : Int) == 0) = false := by simp; omega
  go_enter Try.func39, Try.ntmps39
  go_wp2_with fail
  refine (trim_any _ _ _ p _ H1.out hp hn).mono ?_
  rintro e w1 ⟨g1, rfl, hg1, hB1, hb1⟩
  rw [HP.out, HPL.out]
  rw [HP.out] at hB1
  have P1 := Lib.hid hB1; clear hB1
  go_wp2_with fail
  go_loopw [4, 5, 11] (fun o _ i wr => ∃ (k : Nat) (oa : Option Addr) (m oc : Nat), k ≤ 256 ∧ m ≤ k ∧ i = .int .i64 (k : Int) ∧ o = .slice oa m oc ∧ Hid (Own vb w1.heap.size 5 wr oa m oc (Poly.rootsTo (Poly.of p) k)) ∧ Hid (Blk vb 5 wr g1 P) ∧ Below w.heap.size w wr ∧ w1.heap.size ≤ wr.heap.size) (fun _ _ i _ => 256 - (intOf i).toNat)
  case atStart => exact ⟨0, none, 0, 0, by omega, by omega, rfl, rfl, ⟨rfl, .inl ⟨rfl, rfl, rfl⟩⟩, P1.out, hb1, Nat.le_refl _⟩
  case round =>
    obtain ⟨k, oa, m, oc, hk, hm, rfl, rfl, hO, hP, hbe, hsz⟩ := hrel
    have hw1 := hb1.size
    have l1 := P1.out.lt
    by_cases hlt : k < 256
    · obtain ⟨z, HZ⟩ : ∃ z, Hid (Poly.eval (Poly.of p) (Fq.of k) = z) := ⟨_, rfl⟩
      have i1 : (k : Int) < 256 := by omega
      have hs := Poly.rootsTo_succ (Poly.of p) k
      rw [HZ.out] at hs
      have E1 : Calls Try.prog 20 #[.slice (some ⟨g1, 0, none⟩) s s, .int .u8 (k : Int)] wr fun e w' => e = .returned (.int .u8 ((z.n : Nat) : Int)) ∧ Drw wr w' := by
        have := eval_any (some ⟨g1, 0, none⟩) s s P (k : Int) wr (hP.out.rdn HPL.out (Nat.le_refl _) (by omega)) BP.out (by omega) (by omega)
        rwa [Int.toNat_natCast, oP.out, HZ.out] at this
      by_cases hz0' : z.n = 0
      · have t1 : (((z.n : Nat) : Int) == 0) = true := by rw [hz0']; rfl
        have hzz := Fq.n_eq_zero.1 hz0'
        rw [if_pos hzz] at hs
        have HSS := Lib.hid hs; clear hs hz0' hzz
        go_wp2_with (first
          | (go_at_call 20; refine E1.mono ?_; rintro e w3 ⟨rfl, hd⟩; have N3 := Lib.hid (((blk_new vb 5 w3 [k]).rdn (n := 1) (c := 1) rfl (Nat.le_refl _) (by omega))); have ba3 : Below w3.heap.size w3 (w3.alloc (.cells (row vb [k]) 5 (0, 0))) := (Below.refl _ _).alloc (Nat.le_refl _) _; have O3 := Lib.hid ((hO.out.fw hd.fw).fw ba3); have P3 := Lib.hid ((hP.out.fw hd.fw).fw ba3); have b3 := bt (bt hbe hd.fw) ba3; have s3 := Nat.le_trans (Nat.le_trans hsz hd.fw.size) ba3.size)
          | (at_builtin; refine wpList_append_rd rfl (.tmp 19) (.tmp 22) 22 rfl vb vb_one w1.heap.size 5 i0 (.int .u8 0) 1 u1 hi hz0 hz1 hz2 rfl _ m oc _ rfl O3.out (some ⟨w3.heap.size, 0, none⟩) 1 1 [k] rfl N3.out (by unfold maxLen; omega) (by omega) s3 ?_; intro sa c2 w4 hown hgr))
        go_roundw
        case rel =>
          have hne : ∀ x, (Value.slice oa m oc).ownBlock = some x → w1.heap.size ≤ x := fun x hx => (O3.out.ownsRow.lt x hx).1
          refine ⟨k + 1, sa, m + 1, c2, by omega, by omega, by go_num, rfl, ?_, ?_, ?_, Nat.le_trans s3 hgr.size⟩
          · show Own _ _ _ _ _ _ _ _
            rw [HSS.out]; exact hown
          · refine (hgr.block g1 P3.out.lt ?_).trans P3.out
            intro e
            have := hne g1 e.symm
            omega
          · exact b3.grown hgr b3.size fun x hx => Nat.le_trans hw1 (hne x hx)
        case measure => simp [intOf]; omega
      · have t1 : (((z.n : Nat) : Int) == 0) = false := by simp; omega
        rw [if_neg (fun e => hz0' (by rw [e]; rfl)), List.append_nil] at hs
        have HSS := Lib.hid hs; clear hs hz0'
        go_wp2_with (go_at_call 20; refine E1.mono ?_; rintro e w3 ⟨rfl, hd⟩)
        go_roundw
        case rel =>
          refine ⟨k + 1, oa, m, oc, by omega, by omega, by go_num, rfl, ?_, hP.out.fw hd.fw, bt hbe hd.fw, Nat.le_trans hsz hd.fw.size⟩
          show Own _ _ _ _ _ _ _ _
          rw [HSS.out]; exact hO.out.fw hd.fw
        case measure => simp [intOf]; omega
    · have hk2 : k = 256 := by omega
      subst hk2
      go_wp2
      go_ret2
      have hl := hO.out.len
      exact ⟨oa, oc, by rw [hl]; rfl, by rw [hl]; exact hO.out.mono hw1, hbe⟩
end Go.Proofs.Ytkbcingibgnnpaa
