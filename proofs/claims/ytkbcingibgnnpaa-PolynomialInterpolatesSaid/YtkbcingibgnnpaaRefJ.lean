/- kinkeepref06.Interpolate. -/
import Derived.Test.YtkbcingibgnnpaaRefI
import Derived.Deep.RegionWith
namespace Poly
theorem lag_one {B : Poly} {x y : Fq} (h : eval B x = 1) (hxy : x ≠ y) : eval (B * lin y * C (Fq.inv (x + y))) x = 1 := by
  have hne : x + y ≠ 0 := fun e => hxy (Fq.add_eq_zero.1 e)
  rw [eval_mul, eval_mul, eval_lin, eval_C, h, Fq.one_mul, Fq.mul_inv hne]
theorem lag_zero {B : Poly} {y z : Fq} (c : Fq) (h : eval B z = 0) : eval (B * lin y * C c) z = 0 := by
  rw [eval_mul, eval_mul, h, Fq.zero_mul, Fq.zero_mul]
theorem lag_new {B : Poly} {y : Fq} (c : Fq) : eval (B * lin y * C c) y = 0 := by
  rw [eval_mul, eval_mul, eval_lin, Fq.add_self, Fq.mul_zero, Fq.zero_mul]
theorem lag_sz {B : Poly} {y c : Fq} {m : Nat} (h : B.sz ≤ m) : (B * lin y * C c).sz ≤ m + 1 := by
  have h1 := sz_mul_le (B * lin y) (C c)
  have h2 := sz_mul_le B (lin y)
  have h3 := sz_C_le c
  rw [sz_lin] at h2
  rcases Nat.eq_zero_or_pos B.sz with h0 | h0
  · rw [sz_eq_zero.1 h0, zero_mul, zero_mul]; show 0 ≤ _; omega
  · omega
theorem nodup_inj {xs : List Nat} (h : xs.Nodup) {i j x : Nat} (hi : xs[i]? = some x) (hj : xs[j]? = some x) : i = j := by
  rcases Nat.lt_trichotomy i j with hl | hl | hl
  · exact absurd (List.mem_of_getElem? (i := i) (by rw [List.getElem?_take, if_pos hl]; exact hi)) (fun hm => Go.Proofs.Ytkbcingibgnnpaa.not_nodup_take hj hm h)
  · exact hl
  · exact absurd (List.mem_of_getElem? (i := j) (by rw [List.getElem?_take, if_pos hl]; exact hj)) (fun hm => Go.Proofs.Ytkbcingibgnnpaa.not_nodup_take hi hm h)
end Poly
namespace Go.Proofs.Ytkbcingibgnnpaa
open Go.RowKit Go.Kin
set_option maxRecDepth 100000

set_option maxHeartbeats 2000000 in
theorem rinterp_any (a b : Option Addr) (n c d : Nat) (xs ys : List Nat) (w : World) (h1 : Rd vb w a n c xs) (h2 : Rd vb w b n d ys) (hx : Gf.Byt xs) (hy : Gf.Byt ys) (hn : n ≤ 1000) (hnd : xs.Nodup) :
    Calls Try.prog 17 #[.slice a n c, .slice b n d] w fun e w' => ∃ P : Poly, P.sz ≤ n ∧ Poly.Takes P xs ys ∧ GivesS w n (Poly.out P) e w' := by
  have H1 := Lib.hid h1; have H2 := Lib.hid h2; have ND := Lib.hid hnd; clear h1 h2 hnd
  go_enter Try.func17, Try.ntmps17
  go_wp2_with fail
  go_loopw [5, 6, 7, 8, 11, 17] (fun o _ _ _ i _ wr => ∃ (k : Nat) (S : List Nat) (oa : Option Addr) (on oc : Nat), k ≤ n ∧ i = .int .i64 (k : Int) ∧ o = .slice oa on oc ∧ on ≤ n ∧ Hid (Rd vb wr oa on oc S) ∧ Hid (Gf.Byt S) ∧ Hid ((Poly.of S).sz ≤ n) ∧
      Hid (∀ (t x y : Nat), xs[t]? = some x → ys[t]? = some y → Poly.eval (Poly.of S) (Fq.of x) = if t < k then Fq.of y else 0) ∧ Below w.heap.size w wr) (fun _ _ _ _ i _ _ => n - (intOf i).toNat)
  case atStart => exact ⟨0, [], none, 0, 0, by omega, rfl, rfl, by omega, Rd.nil _ _, (fun _ h => by cases h), (by show (0 : Nat) ≤ n; omega), (fun t x y _ _ => by rw [if_neg (by omega)]; rfl), below_refl w⟩
  case round =>
    obtain ⟨k, S, oa, on, oc, hk, rfl, rfl, hon, hS, hSb, hSs, hSv, hbe⟩ := hrel
    by_cases hlt : k < n
    · obtain ⟨xk, hxk⟩ : ∃ x, xs[k]? = some x := ⟨_, List.getElem?_eq_getElem (by rw [H1.out.len]; omega)⟩
      obtain ⟨yk, hyk⟩ : ∃ y, ys[k]? = some y := ⟨_, List.getElem?_eq_getElem (by rw [H2.out.len]; omega)⟩
      have bxk := hx.at hxk
      have byk := hy.at hyk
      have HXK := Lib.hid hxk; have HYK := Lib.hid hyk; clear hxk hyk
      have i1 : (k : Int) < (n : Int) := by omega
      rename World => wo
      go_wp2_with fail
      go_loopw [7, 8, 17] (fun bv _ i wr => ∃ (j : Nat) (Bl : List Nat) (ba : Option Addr) (bn bc : Nat), j ≤ n ∧ i = .int .i64 (j : Int) ∧ bv = .slice ba bn bc ∧ bn ≤ n + 1 ∧ Hid (Rd vb wr ba bn bc Bl) ∧ Hid (Gf.Byt Bl) ∧ Hid ((Poly.of Bl).sz ≤ (if k < j then j else j + 1)) ∧
          Hid (Poly.eval (Poly.of Bl) (Fq.of xk) = 1) ∧ Hid (∀ (t x : Nat), xs[t]? = some x → t < j → t ≠ k → Poly.eval (Poly.of Bl) (Fq.of x) = 0) ∧ Below wo.heap.size wo wr) (fun _ _ i _ => n - (intOf i).toNat)
      case atStart =>
        refine ⟨0, [1], _, 1, 1, by omega, rfl, rfl, by omega, rd_new vb 5 wo [1] rfl (by omega), byt1 (by omega), ?_, ?_, (fun t x _ h _ => by omega), below_alloc _ (below_refl wo)⟩
        · show _ ≤ _
          rw [if_neg (by omega)]; exact Poly.sz_of_le [1]
        · show _ = _
          rw [one_of, Poly.eval_one]
      case round =>
        obtain ⟨j, Bl, ba, bn, bc, hj, rfl, rfl, hbn, hB, hBb, hBs, hB1, hB0, hbi⟩ := hrel
        by_cases hjt : j < n
        · by_cases hjk : j = k
          · have e1 : (((j : Nat) : Int) != ((k : Nat) : Int)) = false := by simp; omega
            have hs2 : Hid ((Poly.of Bl).sz ≤ (if k < j + 1 then j + 1 else j + 1 + 1)) := by
              have := hBs.out
              show _ ≤ _
              rw [if_neg (by omega)] at this
              rw [if_pos (by omega)]; exact this
            have hb2 : Hid (∀ (t x : Nat), xs[t]? = some x → t < j + 1 → t ≠ k → Poly.eval (Poly.of Bl) (Fq.of x) = 0) := fun t x h1 h2 h3 => hB0.out t x h1 (by omega) h3
            subst hjk
            go_wp2
            go_roundw
            case rel => exact ⟨j + 1, Bl, ba, bn, bc, by omega, by go_num, rfl, hbn, hB.out, hBb.out, hs2, hB1.out, hb2, hbi⟩
            case measure => simp [intOf]; omega
          · have e1 : (((j : Nat) : Int) != ((k : Nat) : Int)) = true := by simp; omega
            have e2 : ¬ (j : Int) = (k : Int) := by omega
            obtain ⟨xj, hxj⟩ : ∃ x, xs[j]? = some x := ⟨_, List.getElem?_eq_getElem (by rw [H1.out.len]; omega)⟩
            have bxj := hx.at hxj
            have hne : xk ≠ xj := fun e => hjk (Poly.nodup_inj ND.out (e ▸ hxj) HXK.out)
            have hbw := bt hbe hbi
            obtain ⟨o1, o2, rfl, c1⟩ := (H1.out.fw hbw).cell j xj hxj
            unfold vb at c1
            have HXJ := Lib.hid hxj
            have i2 : (j : Int) < (n : Int) := by omega
            clear hxj
            go_wp2_with (go_at_call 28; refine (rpmul_any _ _ bn 2 _ _ Bl [xj, 1] _ (Rd.alloc _ hB.out) (rd_new vb 5 wr [xj, 1] rfl (by omega)) hBb.out (byt2 bxj (by omega)) (by omega)).mono ?_; rintro e w3 ⟨a3, n3, c3, rfl, r3, l3, b3⟩; rw [Poly.of_pair] at r3; have R3 := Lib.hid r3; clear r3)
            have hb3 := bt (below_alloc (.cells (row vb [xj, 1]) 5 (0, 0)) hbw) b3
            obtain ⟨o3, o4, e34, c5⟩ := (H1.out.fw hb3).cell k xk HXK.out
            cases e34
            obtain ⟨o5, o6, e56, c6⟩ := (H1.out.fw hb3).cell j xj HXJ.out
            cases e56
            unfold vb at c5 c6
            have bxx := Gf.xor_lt bxk bxj
            have hx0 : 0 < xk ^^^ xj := by
              rcases Nat.eq_zero_or_pos (xk ^^^ xj) with e | e
              · exact absurd (Gf.xor_self_eq _ _ e) hne
              · exact e
            obtain ⟨z, hz⟩ : ∃ z, z = Gf.inv (xk ^^^ xj) := ⟨_, rfl⟩
            have bz : z < 256 := by rw [hz]; exact Gf.inv_lt _ bxx
            have ex : bits .xor .u8 ((xk : Nat) : Int) ((xj : Nat) : Int) = ((xk ^^^ xj : Nat) : Int) := by rw [xor8 _ _ (by omega) (by omega) (by omega) (by omega)]; rfl
            have E1 : ∀ w, Calls Try.prog 50 #[.int .u8 ((xk ^^^ xj : Nat) : Int)] w fun e w' => e = .returned (.int .u8 ((z : Nat) : Int)) ∧ w = w' := fun w => by
              have := rinv_any ((xk ^^^ xj : Nat) : Int) w (by omega) (by omega)
              rwa [Int.toNat_natCast, ← hz] at this
            have hzq : Hid (Fq.of z = Fq.inv (Fq.of xk + Fq.of xj)) := by
              show _ = _
              rw [hz, Fq.of_inv bxx, Fq.of_add bxk bxj]
            have hqne : Fq.of xk ≠ Fq.of xj := fun e => hne (Fq.of_inj bxk bxj e)
            have EX := Lib.hid ex; clear ex hz
            go_region_with (first
              | (go_at_call 50; rw [EX.out]; refine (E1 _).mono ?_; rintro e w' ⟨rfl, rfl⟩)
              | (go_at_call 28; refine (rpmul_any _ _ n3 1 _ _ (Poly.out (Poly.of Bl * Poly.lin (Fq.of xj))) [z] _ (Rd.alloc _ (R3.out.drw ((Drw.refl _).step 1))) (rd_newe vb 5 _ [z] (n := 1) rfl (by omega) rfl) (Poly.out_byt _) (byt1 bz) (by omega)).mono ?_; rintro e w4 ⟨a4, n4, c4, rfl, r4, l4, b4⟩))
            all_goals
              rw [Poly.of_out, Poly.of_single, hzq.out] at r4
              have hl4 := r4.len
              rw [Poly.out_length] at hl4
              have hs4 := Poly.lag_sz (B := Poly.of Bl) (y := Fq.of xj) (c := Fq.inv (Fq.of xk + Fq.of xj)) hBs.out
              rw [hl4] at hs4
              have hs5 : n4 ≤ (if k < j + 1 then j + 1 else j + 1 + 1) := by
                split at hs4 <;> split <;> omega
              have hs6 : n4 ≤ n + 1 := by split at hs5 <;> omega
              have HL4 := Lib.hid hl4; have HS5 := Lib.hid hs5
              clear hl4 hs4 hs5
              try go_wp2
              go_roundw
              case rel =>
                refine ⟨j + 1, _, a4, n4, c4, by omega, by go_num, rfl, hs6, r4, Poly.out_byt _, ?_, ?_, ?_, ?_⟩
                · show _ ≤ _
                  rw [Poly.of_out, HL4.out]; exact HS5.out
                · show _ = _
                  rw [Poly.of_out]; exact Poly.lag_one hB1.out hqne
                · intro t x h1 h2 h3
                  rw [Poly.of_out]
                  by_cases htj : t = j
                  · subst htj
                    rw [HXJ.out] at h1
                    cases h1
                    exact Poly.lag_new _
                  · exact Poly.lag_zero _ (hB0.out t x h1 (by omega) h3)
                · exact bt (below_alloc _ (fdrewN (bt (below_alloc _ hbi) b3) 1)) b4
              case measure => simp [intOf]; omega
        · have hjn : j = n := by omega
          have hbw := bt hbe hbi
          have hbs := hBs.out
          rw [if_pos (by omega), hjn] at hbs
          have hB2 : Hid (∀ (t x : Nat), xs[t]? = some x → t ≠ k → Poly.eval (Poly.of Bl) (Fq.of x) = 0) := fun t x h1 h3 => hB0.out t x h1 (by rw [hjn, ← H1.out.len]; exact (List.getElem?_eq_some_iff.1 h1).1) h3
          have HBS := Lib.hid hbs
          obtain ⟨o1, o2, rfl, c1⟩ := (H2.out.fw hbw).cell k yk HYK.out
          unfold vb at c1
          have S5 := Lib.hid (hS.out.fw hbi)
          clear hbs hBs hB0 hjn
          go_wp2_with (first
            | (go_at_call 28; refine (rpmul_any _ _ bn 1 _ _ Bl [yk] _ (Rd.alloc _ hB.out) (rd_new vb 5 wr [yk] rfl (by omega)) hBb.out (byt1 byk) (by omega)).mono ?_; rintro e w3 ⟨a3, n3, c3, rfl, r3, l3, b3⟩; rw [Poly.of_single] at r3; have R3 := Lib.hid r3; clear r3)
            | (go_at_call 26; refine (radd_any _ _ on n3 _ _ S _ _ ((S5.out.alloc _).fw b3) R3.out hSb.out (Poly.out_byt _) (by omega)).mono ?_; rintro e w4 ⟨a4, n4, c4, rfl, r4, l4, b4⟩; rw [Poly.of_out] at r4; have R4 := Lib.hid r4; clear r4))
          have hs4 : (Poly.of S + Poly.of Bl * Poly.C (Fq.of yk)).sz ≤ n := by
            have h1 := Poly.sz_add_le (Poly.of S) (Poly.of Bl * Poly.C (Fq.of yk))
            have h2 := Poly.sz_mul_le (Poly.of Bl) (Poly.C (Fq.of yk))
            have h3 := Poly.sz_C_le (Fq.of yk)
            have h4 := HBS.out
            have h5 := hSs.out
            omega
          have hl4 := R4.out.len
          rw [Poly.out_length] at hl4
          have HS4 := Lib.hid hs4
          rw [hl4] at hs4
          clear hl4
          go_roundw
          case rel =>
            refine ⟨k + 1, _, a4, n4, c4, by omega, by go_num, rfl, hs4, R4.out, Poly.out_byt _, ?_, ?_, bt (bt (below_alloc _ hbw) b3) b4⟩
            · show _ ≤ _
              rw [Poly.of_out]; exact HS4.out
            · intro t x y h1 h2
              rw [Poly.of_out, Poly.eval_add, Poly.eval_mul, Poly.eval_C, hSv.out t x y h1 h2]
              by_cases htk : t = k
              · subst htk
                rw [HXK.out] at h1; cases h1
                rw [HYK.out] at h2; cases h2
                rw [if_neg (by omega), if_pos (by omega), hB1.out, Fq.one_mul, Fq.zero_add]
              · rw [hB2.out t x h1 htk, Fq.zero_mul, Fq.add_zero]
                by_cases ht : t < k
                · rw [if_pos ht, if_pos (by omega)]
                · rw [if_neg ht, if_neg (by omega)]
          case measure => simp [intOf]; omega
    · have hkn : k = n := by omega
      go_wp2_with (go_at_call 23; refine (rtrim_any _ _ _ S _ hS.out hSb.out (by omega)).mono ?_; rintro e w5 ⟨a5, n5, c5, rfl, r5, l5, b5⟩)
      go_ret
      refine ⟨Poly.of S, hSs.out, ?_, a5, n5, c5, rfl, r5, by omega, bt hbe b5⟩
      intro t x y h1 h2
      rw [hSv.out t x y h1 h2, if_pos (by rw [hkn, ← H1.out.len]; exact (List.getElem?_eq_some_iff.1 h1).1)]
end Go.Proofs.Ytkbcingibgnnpaa
