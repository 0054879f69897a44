/- kinkeepref06.Mul. -/
import Derived.Test.YtkbcingibgnnpaaRefP
import Derived.Test.YtkbcingibgnnpaaRefA
import Derived.Deep.RegionWith
namespace Go.Proofs.Ytkbcingibgnnpaa
open Go.RowKit Go.Kin
set_option maxRecDepth 100000

set_option maxHeartbeats 3000000 in
theorem rpmul_any (a b : Option Addr) (n m c d : Nat) (p q : List Nat) (w : World) (h1 : Rd vb w a n c p) (h2 : Rd vb w b m d q) (hp : Gf.Byt p) (hq : Gf.Byt q) (hnm : n + m ≤ 140737488355000) :
    Calls Try.prog 28 #[.slice a n c, .slice b m d] w (GivesS w (n + m) (Poly.out (Poly.of p * Poly.of q))) := by
  obtain ⟨i0, hi, hz0, hz1, hz2⟩ := info_parts info5
  have u1 := Try.underlying22
  have H1 := Lib.hid h1; have H2 := Lib.hid h2; clear h1 h2
  obtain ⟨M, HM⟩ : ∃ M, Hid (M = n + m) := ⟨_, rfl⟩
  have hM1 : n + m ≤ M := by have := HM.out; omega
  have hM2 : M ≤ n + m := by have := HM.out; omega
  go_enter Try.func28, Try.ntmps28
  go_wp2_with (at_make; refine wpList_make_blk rfl (.tmp 12) (.tmp 12) 22 rfl vb 0 5 i0 u1 hi hz0 hz1 rfl _ _ _ _ M rfl rfl (by omega) (by omega) (by rw [hz2]; omega) (by omega) ?_; intro w2 hk2 hb2 hs2; have HK2 := Lib.hid hk2; clear hk2 hs2)
  go_loopw [6, 7, 16, 21] (fun _ _ i _ wr => ∃ (k : Nat) (L : List Nat), k ≤ n ∧ i = .int .i64 (k : Int) ∧ Hid (L.length = M) ∧ Hid (Gf.Byt L) ∧ Hid (Poly.of L = Poly.of (p.take k) * Poly.of q) ∧ Hid (Blk vb 5 wr w.heap.size L) ∧ Below w.heap.size w wr) (fun _ _ i _ _ => n - (intOf i).toNat)
  case atStart =>
    refine ⟨0, _, by omega, rfl, List.length_replicate, Poly.zeros_byt M, ?_, HK2.out, hb2⟩
    show _ = _
    rw [Poly.of_zeros, Poly.of_take_zero, Poly.zero_mul]
  case round =>
    obtain ⟨k, L, hk, rfl, hlen, hbyt, hval, hB, hbe⟩ := hrel
    by_cases hlt : k < n
    · obtain ⟨x, hx⟩ : ∃ x, p[k]? = some x := ⟨_, List.getElem?_eq_getElem (by rw [H1.out.len]; exact hlt)⟩
      have bx := hp.at hx
      have HX := Lib.hid hx; clear hx
      have i1 : (k : Int) < (n : Int) := by omega
      rename World => wo
      go_wp2_with fail
      go_loopw [7, 21] (fun _ i wr => ∃ (j : Nat) (L' : List Nat), j ≤ m ∧ i = .int .i64 (j : Int) ∧ Hid (L'.length = M) ∧ Hid (Gf.Byt L') ∧ Hid (Poly.of L' = Poly.of (p.take k) * Poly.of q + Poly.mon (Fq.of x) k * Poly.of (q.take j)) ∧ Hid (Blk vb 5 wr w.heap.size L') ∧ Below w.heap.size w wr) (fun _ i _ => m - (intOf i).toNat)
      case atStart =>
        refine ⟨0, L, by omega, rfl, hlen.out, hbyt.out, ?_, hB.out, hbe⟩
        show _ = _
        rw [Poly.of_take_zero, Poly.mul_zero, Poly.add_zero, hval.out]
      case round =>
        obtain ⟨j, L', hj, rfl, hlen', hbyt', hval', hB', hbe'⟩ := hrel
        by_cases hjt : j < m
        · obtain ⟨y, hy⟩ : ∃ y, q[j]? = some y := ⟨_, List.getElem?_eq_getElem (by rw [H2.out.len]; exact hjt)⟩
          obtain ⟨u, hu⟩ : ∃ u, L'[k + j]? = some u := ⟨_, List.getElem?_eq_getElem (by rw [hlen'.out]; omega)⟩
          obtain ⟨o1, o2, rfl, c1⟩ := (H1.out.fw hbe').cell k x HX.out
          obtain ⟨o3, o4, rfl, c2⟩ := (H2.out.fw hbe').cell j y hy
          have c3 := hB'.out.cell hu
          have f3 := hB'.out.frozen (k + j)
          have byy := hq.at hy
          have bu := hbyt'.out.at hu
          obtain ⟨z, hz⟩ : ∃ z, z = Gf.mul x y := ⟨_, rfl⟩
          have bz : z < 256 := by rw [hz]; exact Gf.mul_lt _ _ bx
          have ex : bits .xor .u8 ((u : Nat) : Int) ((z : Nat) : Int) = ((u ^^^ z : Nat) : Int) := by rw [xor8 _ _ (by omega) (by omega) (by omega) (by omega)]; rfl
          have E1 : ∀ w, Calls Try.prog 51 #[.int .u8 ((x : Nat) : Int), .int .u8 ((y : Nat) : Int)] w fun e w' => e = .returned (.int .u8 ((z : Nat) : Int)) ∧ w = w' := fun w => by
            have := rmul_any ((x : Nat) : Int) ((y : Nat) : Int) w (by omega) (by omega) (by omega) (by omega)
            rwa [Int.toNat_natCast, Int.toNat_natCast, ← hz] at this
          have hv2 : Hid (Poly.of (L'.set (k + j) (u ^^^ z)) = Poly.of (p.take k) * Poly.of q + Poly.mon (Fq.of x) k * Poly.of (q.take (j + 1))) := by
            show _ = _
            rw [Poly.of_set hbyt'.out hu bz, Poly.of_take_succ hy, hval'.out, Poly.mul_add, Poly.mon_mul_mon, hz, Fq.of_mul bx byy, Poly.add_assoc]
          have EX := Lib.hid ex; clear ex hy hu hz
          unfold vb at c1 c2 c3
          have i2 : (j : Int) < (m : Int) := by omega
          have i3 : (k : Int) + (j : Int) < (M : Int) := by omega
          have i4 : 0 ≤ (k : Int) + (j : Int) := by omega
          have i5 : (k : Int) + (j : Int) ≤ 9223372036854775807 := by omega
          have i6 : IntKind.i64.wrap ((k : Int) + (j : Int)) = (k : Int) + (j : Int) := by rw [IntKind.wrap_i64]; omega
          have i7 : ((k : Int) + (j : Int)).toNat = k + j := by omega
          go_wp2_with fail
          go_region_with (go_at_call 51; refine (E1 _).mono ?_; rintro e w' ⟨rfl, rfl⟩)
          all_goals
            try go_wp2
            go_roundw
            case rel =>
              refine ⟨j + 1, L'.set (k + j) (u ^^^ z), by omega, by go_num, ?_, Poly.set_byt hbyt'.out (Gf.xor_lt bu bz) _, hv2, ?_, ?_⟩
              · show (L'.set _ _).length = _
                rw [List.length_set]; exact hlen'.out
              · rw [EX.out]
                exact (hB'.out.drew 1).set (k + j) _
              · exact (fdrewN hbe' 1).setCell (Nat.le_refl _) _
            case measure => simp [intOf]; omega
        · have hjm : j = m := by omega
          have hv3 : Hid (Poly.of L' = Poly.of (p.take (k + 1)) * Poly.of q) := by
            show _ = _
            rw [hval'.out, hjm, show q.take m = q from List.take_of_length_le (by rw [H2.out.len]; omega), Poly.of_take_succ HX.out, Poly.add_mul]
          clear hjm hval'
          go_wp2
          go_roundw
          case rel => exact ⟨k + 1, L', by omega, by go_num, hlen'.out, hbyt'.out, hv3, hB'.out, hbe'⟩
          case measure => simp [intOf]; omega
    · have hkn : k = n := by omega
      have hfin : Poly.of L = Poly.of p * Poly.of q := by
        rw [hval.out, hkn, List.take_of_length_le (by rw [H1.out.len]; omega)]
      have HF := Lib.hid hfin; clear hfin hkn
      go_wp2_with (go_at_call 23; refine (rtrim_any _ _ _ L _ (hB.out.rdn hlen.out (Nat.le_refl _) (by omega)) hbyt.out (by omega)).mono ?_; rintro e w5 ⟨a5, n5, c5, rfl, r5, l5, b5⟩; rw [HF.out] at r5)
      go_ret
      exact ⟨a5, n5, c5, rfl, r5, by omega, bt hbe b5⟩
end Go.Proofs.Ytkbcingibgnnpaa
