/- kinkeeplaw06.awake returns true. -/
import Derived.Test.YtkbcingibgnnpaaPolyS
import Derived.Test.YtkbcingibgnnpaaPolyU
namespace Go.Proofs.Ytkbcingibgnnpaa
open Go.RowKit Go.Kin
set_option maxRecDepth 100000

theorem byt2 {x y : Nat} (hx : x < 256) (hy : y < 256) : Gf.Byt [x, y] := fun z hz => by simp at hz; omega
theorem byt3 {x y t : Nat} (hx : x < 256) (hy : y < 256) (ht : t < 256) : Gf.Byt [x, y, t] := fun z hz => by simp at hz; omega
theorem byt1 {x : Nat} (hx : x < 256) : Gf.Byt [x] := fun z hz => by simp at hz; omega

theorem aw_mul : Poly.out (Poly.of [1, 1] * Poly.of [2, 1]) = [2, 3, 1] := by decide +kernel
theorem aw_div : Poly.out (Poly.of [1, 1] * Poly.of [1, 1] + Poly.of [1]) = Poly.out (Poly.of [0, 0, 1]) := by decide +kernel
theorem aw_roots : Poly.rootsTo (Poly.of [2, 3, 1]) 256 = [1, 2] := by decide +kernel
theorem aw_i0 : Poly.eval (Poly.of [2, 2]) (Fq.of 0) = Fq.of 2 := by decide +kernel
theorem aw_i1 : Poly.eval (Poly.of [2, 2]) (Fq.of 1) = Fq.of 0 := by decide +kernel
theorem aw_o1 : Poly.out (Poly.of [1, 1]) = [1, 1] := by decide +kernel
theorem aw_o2 : Poly.out (Poly.of [1]) = [1] := by decide +kernel
theorem aw_o3 : Poly.out (Poly.of [2, 2]) = [2, 2] := by decide +kernel
theorem aw_s1 : (Poly.of [1, 1]).sz = 2 := by decide +kernel
theorem aw_s2 : (Poly.of [1]).sz = 1 := by decide +kernel
theorem aw_s3 : (Poly.of [2, 3, 1]).sz = 3 := by decide +kernel
theorem aw_s4 : (Poly.of [2, 2]).sz = 2 := by decide +kernel

theorem aw_div2 {d r : Poly} (h : Poly.of [0, 0, 1] = d * Poly.of [1, 1] + r) (hr : r.sz < (Poly.of [1, 1]).sz) : Poly.out d = [1, 1] ∧ Poly.out r = [1] := by
  have e : Poly.of [1, 1] * Poly.of [1, 1] + Poly.of [1] = Poly.of [0, 0, 1] := by
    rw [← Poly.of_out (Poly.of [1, 1] * Poly.of [1, 1] + Poly.of [1]), aw_div, Poly.of_out]
  obtain ⟨h1, h2⟩ := Poly.div_unique (e.trans h) (by rw [aw_s1, aw_s2]; omega) hr
  exact ⟨by rw [← h1]; exact aw_o1, by rw [← h2]; exact aw_o2⟩

theorem aw_interp {p : Poly} (hs : p.sz ≤ 2) (h : Poly.Takes p [0, 1] [2, 0]) : Poly.out p = [2, 2] := by
  have e : p = Poly.of [2, 2] := by
    refine Poly.takes_unique (xs := [0, 1]) (ys := [2, 0]) (byt2 (by omega) (by omega)) (by decide) rfl h ?_ hs (by rw [aw_s4]; decide)
    intro i x y hx hy
    match i, hx, hy with
    | 0, hx, hy => cases hx; cases hy; exact aw_i0
    | 1, hx, hy => cases hx; cases hy; exact aw_i1
  rw [e, aw_o3]

set_option maxHeartbeats 1000000 in
theorem awake_any (w : World) :
    Calls Try.prog 13 #[] w fun e w' => e = .returned (.bool true) ∧ Below w.heap.size w w' := by
  have tok : True := trivial
  go_enter Try.func13, Try.ntmps13
  go_wp2_with (first
    | (go_at_call 27; refine (pmul_g _ _ 2 2 _ _ [1, 1] [2, 1] _ (Rd.alloc _ (rd_new vb 5 w [1, 1] (n := 2) rfl (by omega))) (rd_new1 vb 5 w _ [2, 1] (n := 2) rfl (by omega)) (byt2 (by omega) (by omega)) (byt2 (by omega) (by omega)) (by omega)).mono ?_; rintro e w1 ⟨a1, n1, c1, rfl, r1, b1⟩; rw [aw_mul] at r1; have R1 := Lib.hid r1; have B1 : Below w.heap.size w w1 := bt (below_alloc _ (below_alloc _ (Below.refl _ _))) b1; clear r1)
    | (go_at_call 30; have _t := tok; refine (divmod_g _ _ 3 2 _ _ [0, 0, 1] [1, 1] _ (Rd.alloc _ (rd_new vb 5 w1 [0, 0, 1] (n := 3) rfl (by omega))) (rd_new1 vb 5 w1 _ [1, 1] (n := 2) rfl (by omega)) (byt3 (by omega) (by omega) (by omega)) (byt2 (by omega) (by omega)) (by omega) (by omega) (by rw [aw_s1]; omega)).mono ?_; rintro e w2 ⟨dd, rr, a2, n2, c2, a3, n3, c3, hv, hr, rfl, r2, r3, b2⟩; obtain ⟨h1, h2⟩ := aw_div2 hv hr; rw [h1] at r2; rw [h2] at r3; have R2 := Lib.hid r2; have R3 := Lib.hid r3; have R1 := Lib.hid (((R1.out.alloc _).alloc _).fw b2); have B2 : Below w.heap.size w w2 := bt (below_alloc _ (below_alloc _ B1)) b2; clear r2 r3 hv hr h1 h2 tok)
    | (go_at_call 14; refine (interp_g _ _ 2 _ _ [0, 1] [2, 0] _ (Rd.alloc _ (rd_new vb 5 w2 [0, 1] (n := 2) rfl (by omega))) (rd_new1 vb 5 w2 _ [2, 0] (n := 2) rfl (by omega)) (byt2 (by omega) (by omega)) (byt2 (by omega) (by omega)) (by omega) (by decide)).mono ?_; rintro e w3 ⟨pp, hs, ht, a4, n4, c4, rfl, r4, b3⟩; rw [aw_interp hs ht] at r4; have R4 := Lib.hid r4; have R1 := Lib.hid (((R1.out.alloc _).alloc _).fw b3); have R2 := Lib.hid (((R2.out.alloc _).alloc _).fw b3); have R3 := Lib.hid (((R3.out.alloc _).alloc _).fw b3); have B3 : Below w.heap.size w w3 := bt (below_alloc _ (below_alloc _ B2)) b3; clear r4 hs ht)
    | (go_at_call 39; refine (roots_g _ 3 _ [2, 3, 1] _ (rd_new vb 5 w3 [2, 3, 1] (n := 3) rfl (by omega)) (byt3 (by omega) (by omega) (by omega)) (by omega) (by rw [aw_s3]; omega)).mono ?_; rintro e w4 ⟨a5, n5, c5, rfl, r5, b4⟩; rw [aw_roots] at r5; have R5 := Lib.hid r5; have R1 := Lib.hid ((R1.out.alloc _).fw b4); have R2 := Lib.hid ((R2.out.alloc _).fw b4); have R3 := Lib.hid ((R3.out.alloc _).fw b4); have R4 := Lib.hid ((R4.out.alloc _).fw b4); have B4 : Below w.heap.size w w4 := bt (below_alloc _ B3) b4; clear r5)
    | (go_at_call 30; refine (divmod_zero _ _ 1 0 _ _ [1] [] _ (rd_new vb 5 w4 [1] (n := 1) rfl (by omega)) (Rd.nil _ _) (byt1 (by omega)) (fun _ h => by cases h) (by omega) (by omega) rfl).mono ?_; rintro e w5 ⟨rfl, b5⟩; have R1 := Lib.hid ((R1.out.alloc _).fw b5); have R2 := Lib.hid ((R2.out.alloc _).fw b5); have R3 := Lib.hid ((R3.out.alloc _).fw b5); have R4 := Lib.hid ((R4.out.alloc _).fw b5); have R5 := Lib.hid ((R5.out.alloc _).fw b5); have B5 : Below w.heap.size w w5 := bt (below_alloc _ B4) b5)
    | (go_at_call_of 16 a1; refine (lsame_eq _ _ _ _ _ _ [2, 3, 1] [2, 3, 1] _ (by repeat (first | exact R1.out | apply Rd.alloc)) (rd_newe vb 5 _ [2, 3, 1] (n := 3) rfl (by omega) (by simp)) (byt3 (by omega) (by omega) (by omega)) (byt3 (by omega) (by omega) (by omega)) rfl).mono ?_; rintro e w' ⟨rfl, rfl⟩)
    | (go_at_call_of 16 a2; refine (lsame_eq _ _ _ _ _ _ [1, 1] [1, 1] _ (by repeat (first | exact R2.out | apply Rd.alloc)) (rd_newe vb 5 _ [1, 1] (n := 2) rfl (by omega) (by simp)) (byt2 (by omega) (by omega)) (byt2 (by omega) (by omega)) rfl).mono ?_; rintro e w' ⟨rfl, rfl⟩)
    | (go_at_call_of 16 a3; refine (lsame_eq _ _ _ _ _ _ [1] [1] _ (by repeat (first | exact R3.out | apply Rd.alloc)) (rd_newe vb 5 _ [1] (n := 1) rfl (by omega) (by simp)) (byt1 (by omega)) (byt1 (by omega)) rfl).mono ?_; rintro e w' ⟨rfl, rfl⟩)
    | (go_at_call_of 16 a4; refine (lsame_eq _ _ _ _ _ _ [2, 2] [2, 2] _ (by repeat (first | exact R4.out | apply Rd.alloc)) (rd_newe vb 5 _ [2, 2] (n := 2) rfl (by omega) (by simp)) (byt2 (by omega) (by omega)) (byt2 (by omega) (by omega)) rfl).mono ?_; rintro e w' ⟨rfl, rfl⟩)
    | (go_at_call_of 16 a5; refine (lsame_eq _ _ _ _ _ _ [1, 2] [1, 2] _ (by repeat (first | exact R5.out | apply Rd.alloc)) (rd_newe vb 5 _ [1, 2] (n := 2) rfl (by omega) (by simp)) (byt2 (by omega) (by omega)) (byt2 (by omega) (by omega)) rfl).mono ?_; rintro e w' ⟨rfl, rfl⟩))
  go_ret
  exact ⟨rfl, by repeat (first | exact B5 | apply below_alloc)⟩
end Go.Proofs.Ytkbcingibgnnpaa
