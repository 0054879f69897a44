/- polynomial.Mul. -/
import Derived.Test.YtkbcingibgnnpaaPolyW
namespace Go.Proofs.Ytkbcingibgnnpaa
open Go.RowKit Go.Kin
set_option maxRecDepth 100000

set_option maxHeartbeats 400000 in
theorem pmul_big (a b : Option Addr) (n m c d : Nat) (p q : List Nat) (w : World) (h1 : Rd vb w a n c p) (h2 : Rd vb w b m d q) (hp : Gf.Byt p) (hq : Gf.Byt q) (hn : n ≤ 140737488355328) (hm : m ≤ 140737488355328)
    (hP0 : 0 < (Poly.of p).sz) (hQ0 : 0 < (Poly.of q).sz) (hbig : 1025 < (Poly.of p).sz + (Poly.of q).sz) :
    Calls Try.prog 27 #[.slice a n c, .slice b m d] w fun e w' => e = .returned (.tuple #[.slice none 0 0, .int .i64 2]) ∧ Below w.heap.size w w' := by
  have H1 := Lib.hid h1; have H2 := Lib.hid h2
  have hP := Poly.out_length (Poly.of p)
  have hQ := Poly.out_length (Poly.of q)
  have hPn := Poly.sz_of_le p
  have hQn := Poly.sz_of_le q
  rw [h1.len] at hPn
  rw [h2.len] at hQn
  clear h1 h2
  obtain ⟨P, HP⟩ : ∃ P, Hid (Poly.out (Poly.of p) = P) := ⟨_, rfl⟩
  obtain ⟨Q, HQ⟩ : ∃ Q, Hid (Poly.out (Poly.of q) = Q) := ⟨_, rfl⟩
  obtain ⟨s, HS⟩ : ∃ s, Hid (P.length = s) := ⟨_, rfl⟩
  obtain ⟨t, HT⟩ : ∃ t, Hid (Q.length = t) := ⟨_, rfl⟩
  rw [HP.out, HS.out] at hP
  rw [HQ.out, HT.out] at hQ
  rw [← hP] at hP0 hbig hPn
  rw [← hQ] at hQ0 hbig hQn
  clear hP hQ
  have e0 : (((s : Nat) : Int) == 0) = false := by simp; omega
  have e3 : (((t : Nat) : Int) == 0) = false := by simp; omega
  go_enter Try.func27, Try.ntmps27
  go_wp2_with fail
  refine (trim_any _ _ _ p _ H1.out hp hn).mono ?_
  rintro e w1 ⟨g1, rfl, hg1, hB1, hb1⟩
  rw [HP.out, HS.out]
  have B1 := Lib.hid (H2.out.fw hb1)
  go_wp2_with fail
  refine (trim_any _ _ _ q _ B1.out hq hm).mono ?_
  rintro e w2 ⟨g2, rfl, hg2, hB2, hb2⟩
  rw [HQ.out, HT.out]
  clear hB1 hB2
  go_wp2_with fail
  go_ret2
  exact ⟨rfl, bt hb1 hb2⟩

set_option maxHeartbeats 1000000 in
theorem pmul_any (a b : Option Addr) (n m c d : Nat) (p q : List Nat) (w : World) (h1 : Rd vb w a n c p) (h2 : Rd vb w b m d q) (hp : Gf.Byt p) (hq : Gf.Byt q) (hn : n ≤ 140737488355328) (hm : m ≤ 140737488355328)
    (hP0 : 0 < (Poly.of p).sz) (hQ0 : 0 < (Poly.of q).sz) (hbig : (Poly.of p).sz + (Poly.of q).sz ≤ 1025) :
    Calls Try.prog 27 #[.slice a n c, .slice b m d] w (RetBlkErr vb 5 w (Poly.out (Poly.of p * Poly.of q)) 0) := by
  obtain ⟨i0, hi, hz0, hz1, hz2⟩ := info_parts info5
  have u1 := Try.underlying22
  have H1 := Lib.hid h1; have H2 := Lib.hid h2
  have hP := Poly.out_length (Poly.of p)
  have hQ := Poly.out_length (Poly.of q)
  have hPQ := Lib.hid (Poly.sz_mul hP0 hQ0)
  clear h1 h2
  have bP := Poly.out_byt (Poly.of p)
  have bQ := Poly.out_byt (Poly.of q)
  have oP := Lib.hid (Poly.of_out (Poly.of p))
  have oQ := Lib.hid (Poly.of_out (Poly.of q))
  obtain ⟨P, HP⟩ : ∃ P, Hid (Poly.out (Poly.of p) = P) := ⟨_, rfl⟩
  obtain ⟨Q, HQ⟩ : ∃ Q, Hid (Poly.out (Poly.of q) = Q) := ⟨_, rfl⟩
  obtain ⟨s, HS⟩ : ∃ s, Hid (P.length = s) := ⟨_, rfl⟩
  obtain ⟨t, HT⟩ : ∃ t, Hid (Q.length = t) := ⟨_, rfl⟩
  rw [HP.out] at oP bP
  rw [HQ.out] at oQ bQ
  rw [HP.out, HS.out] at hP
  rw [HQ.out, HT.out] at hQ
  rw [← hP] at hP0 hbig hPQ
  rw [← hQ] at hQ0 hbig hPQ
  have BP := Lib.hid bP; have BQ := Lib.hid bQ
  clear hP hQ bP bQ
  have e0 : (((s : Nat) : Int) == 0) = false := by simp; omega
  have e3 : (((t : Nat) : Int) == 0) = false := by simp; omega
  obtain ⟨N, HN⟩ : ∃ N, Hid (N + 1 = s + t) := ⟨s + t - 1, by show _ = _; omega⟩
  have n1 : N ≤ 1024 := by have := HN.out; omega
  have n2 : s ≤ N := by have := HN.out; omega
  have n3 : t ≤ N := by have := HN.out; omega
  go_enter Try.func27, Try.ntmps27
  go_wp2_with fail
  refine (trim_any _ _ _ p _ H1.out hp hn).mono ?_
  rintro e w1 ⟨g1, rfl, hg1, hB1, hb1⟩
  rw [HP.out, HS.out]
  rw [HP.out] at hB1
  have P1 := Lib.hid hB1; clear hB1
  have B1 := Lib.hid (H2.out.fw hb1)
  go_wp2_with fail
  refine (trim_any _ _ _ q _ B1.out hq hm).mono ?_
  rintro e w2 ⟨g2, rfl, hg2, hB2, hb2⟩
  rw [HQ.out, HT.out]
  rw [HQ.out] at hB2
  have Q2 := Lib.hid hB2; have P2 := Lib.hid (P1.out.fw hb2); clear hB2
  go_wp2_with (at_make; refine wpList_make_blk rfl (.tmp 34) (.tmp 34) 22 rfl vb 0 5 i0 u1 hi hz0 hz1 rfl _ _ _ _ N rfl rfl (by have := HN.out; omega) (by have := HN.out; omega) (by rw [hz2]; omega) (by omega) ?_; intro w3 hk3 hb3 hs3; have HK3 := Lib.hid hk3; have P3 := Lib.hid (P2.out.fw hb3); have Q3 := Lib.hid (Q2.out.fw hb3); clear hk3 hs3)
  go_loopw [7, 8, 38] (fun _ _ i wr => ∃ (k : Nat) (L : List Nat), k ≤ s ∧ i = .int .i64 (k : Int) ∧ Hid (L.length = N) ∧ Hid (Gf.Byt L) ∧ Hid (Poly.of L = Poly.of (P.take k) * Poly.of q) ∧ Hid (Blk vb 5 wr w2.heap.size L) ∧ Below w2.heap.size w2 wr) (fun _ _ i _ => s - (intOf i).toNat)
  case atStart =>
    refine ⟨0, List.replicate N 0, by omega, rfl, List.length_replicate, Poly.zeros_byt _, ?_, HK3.out, hb3⟩
    show _ = _
    rw [Poly.of_zeros, Poly.of_take_zero, Poly.zero_mul]
  case round =>
    obtain ⟨k, L, hk, rfl, hlen, hbyt, hval, hBk, hbe⟩ := hrel
    by_cases hlt : k < s
    · obtain ⟨z, hz⟩ : ∃ z, P[k]? = some z := ⟨_, List.getElem?_eq_getElem (by rw [HS.out]; exact hlt)⟩
      have c1 := (P2.out.fw hbe).cell hz
      have bz := BP.out.at hz
      have HZ := Lib.hid hz; clear hz
      unfold vb at c1
      have i1 : (k : Int) < (s : Int) := by omega
      have i2 : (k : Int) ≤ (N : Int) := by omega
      have i3 : ¬ N = k := by omega
      have i4 : ¬ k = N := by omega
      go_wp2_with fail
      refine (addto_any w2.heap.size k (N - k) (N - k) L (some ⟨g2, 0, none⟩) t t Q _ wr hBk.out hbyt.out ((Q2.out.fw hbe).rdn HT.out (Nat.le_refl _) (by omega)) BQ.out (by omega) (by omega) (by rw [hlen.out]; have := HN.out; omega) (by have := HN.out; omega) (by omega)).mono ?_
      rintro e w4 ⟨rfl, L4, hL4, hby4, hv4, hB4, hg4⟩
      have HL4 := Lib.hid hL4; have HBY4 := Lib.hid hby4; have HV4 := Lib.hid hv4; have HB4 := Lib.hid hB4; have HG4 := Lib.hid hg4
      clear hL4 hby4 hv4 hB4 hg4
      go_wp2
      go_roundw
      case rel =>
        refine ⟨k + 1, L4, by omega, by go_num, ?_, HBY4.out, ?_, HB4.out, below_grown hbe HG4.out (Nat.le_refl _)⟩
        · show L4.length = N
          rw [HL4.out]; exact hlen.out
        · show _ = _
          rw [HV4.out, hval.out, Int.toNat_natCast, oQ.out, Poly.of_take_succ HZ.out, Poly.add_mul]
      case measure => simp [intOf]; omega
    · have hks : k = s := by omega
      have hfin : Poly.of L = Poly.of p * Poly.of q := by
        rw [hval.out, hks, List.take_of_length_le (by rw [HS.out]; omega), oP.out]
      have hL : L = Poly.out (Poly.of p * Poly.of q) := Poly.eq_out hbyt.out hfin (by rw [hPQ.out, hlen.out]; have := HN.out; omega)
      have hNlen : (Poly.out (Poly.of p * Poly.of q)).length = N := by rw [Poly.out_length, hPQ.out]; have := HN.out; omega
      have HL := Lib.hid hL; have HNL := Lib.hid hNlen; clear hfin hks hL hNlen
      go_wp2
      go_ret2
      refine ⟨w2.heap.size, ?_, Nat.le_trans hb1.size hb2.size, ?_, bt hb1 (bt hb2 hbe)⟩
      · rw [HNL.out]; rfl
      · rw [← HL.out]; exact hBk.out
end Go.Proofs.Ytkbcingibgnnpaa
