/- Plain: shares are values of polynomials; the coefficients that fit a secret and shares are unique. -/
import Derived.Test.YtioiaiifkfopnaaPolyU
import Derived.Test.YtioiaiifkfopnaaSp
namespace Sss
/-- The b-th elements of the rows. -/
def col (b : Nat) (R : List (List Nat)) : List Nat := R.map fun l => l.getD b 0
theorem col_cons (b : Nat) (l : List Nat) (R : List (List Nat)) : col b (l :: R) = l.getD b 0 :: col b R := rfl
theorem col_get {b i : Nat} {R : List (List Nat)} {l : List Nat} (h : R[i]? = some l) : (col b R)[i]? = some (l.getD b 0) := by
  rw [col, List.getElem?_map, h]; rfl
theorem col_getD {b i : Nat} {R : List (List Nat)} {l : List Nat} (h : R[i]? = some l) : (col b R).getD i 0 = l.getD b 0 := by
  rw [List.getD_eq_getElem?_getD, col_get h]; rfl
/-- Parts of 32, as many as k. -/
def rows : Nat → List Nat → List (List Nat)
  | 0, _ => []
  | k + 1, cs => cs.take 32 :: rows k (cs.drop 32)
theorem rows_length : ∀ (k : Nat) (cs : List Nat), (rows k cs).length = k
  | 0, _ => rfl
  | k + 1, cs => by rw [rows, List.length_cons, rows_length k]
theorem rows_flatten : ∀ (L : List (List Nat)), (∀ l ∈ L, l.length = 32) → rows L.length L.flatten = L
  | [], _ => rfl
  | l :: L, h => by
    have hl := h l (by simp)
    rw [List.length_cons, rows, List.flatten_cons, List.take_left' hl, List.drop_left' hl, rows_flatten L fun x hx => h x (List.mem_cons_of_mem _ hx)]
theorem flatten_rows : ∀ (k : Nat) (cs : List Nat), cs.length = 32 * k → (rows k cs).flatten = cs
  | 0, cs, h => by
    obtain rfl : cs = [] := List.eq_nil_of_length_eq_zero (by omega)
    rfl
  | k + 1, cs, h => by
    rw [rows, List.flatten_cons, flatten_rows k (cs.drop 32) (by rw [List.length_drop]; omega), List.take_append_drop]
theorem rows_mem : ∀ (k : Nat) (cs : List Nat), cs.length = 32 * k → ∀ l ∈ rows k cs, l.length = 32
  | 0, _, _, l, hl => by simp [rows] at hl
  | k + 1, cs, h, l, hl => by
    rw [rows] at hl
    rcases List.mem_cons.1 hl with rfl | hl
    · rw [List.length_take]; omega
    · exact rows_mem k (cs.drop 32) (by rw [List.length_drop]; omega) l hl
theorem rows_byt : ∀ (k : Nat) (cs : List Nat), Gf.Byt cs → ∀ l ∈ rows k cs, Gf.Byt l
  | 0, _, _, l, hl => by simp [rows] at hl
  | k + 1, cs, h, l, hl => by
    rw [rows] at hl
    rcases List.mem_cons.1 hl with rfl | hl
    · exact fun x hx => h x (List.mem_of_mem_take hx)
    · exact rows_byt k (cs.drop 32) (fun x hx => h x (List.mem_of_mem_drop hx)) l hl
theorem rows_get : ∀ (k : Nat) (cs : List Nat) (x : Nat), x < k → (rows k cs)[x]? = some ((cs.drop (32 * x)).take 32)
  | 0, _, x, h => by omega
  | k + 1, cs, 0, h => by rw [rows]; rfl
  | k + 1, cs, x + 1, h => by
    rw [rows, List.getElem?_cons_succ, rows_get k _ x (by omega), List.drop_drop]
    congr 3
    omega
theorem flatten_len {n : Nat} : ∀ (L : List (List Nat)), (∀ l ∈ L, l.length = n) → L.flatten.length = n * L.length
  | [], _ => rfl
  | l :: L, h => by
    rw [List.flatten_cons, List.length_append, flatten_len L fun x hx => h x (List.mem_cons_of_mem _ hx), h l (by simp), List.length_cons, Nat.mul_succ]; omega
theorem eval_at_zero (p : Poly) : Poly.eval p 0 = p.cf 0 := by
  conv => lhs; rw [Poly.horner p]
  rw [Poly.eval_add, Poly.eval_C, Poly.eval_x_mul, Fq.zero_mul, Fq.add_zero]
theorem of_cons (a : Nat) (l : List Nat) : Poly.of (a :: l) = Poly.C (Fq.of a) + Poly.mon 1 1 * Poly.of l := Poly.of_drop (l := a :: l) (k := 0) (x := a) rfl
theorem sz_of (l : List Nat) : (Poly.of l).sz ≤ l.length := by
  have := Poly.sz_ofL (l.map Fq.of)
  rwa [List.length_map] at this
end Sss
namespace Go.Proofs.Ytioiaiifkfopnaa
open Sss
/-- The lists' values at x, from the last list on. -/
def evRec (x n : Nat) : List (List Nat) → List Nat
  | [] => List.replicate n 0
  | l :: R => Gf.mulAdd l (evRec x n R) x
theorem horn_drop (x n : Nat) (R : List (List Nat)) : ∀ k, k ≤ R.length → hornL x n (fun k : Fin R.length => R.get k) (backL R.length k) = evRec x n (R.drop (R.length - k))
  | 0, _ => by
    rw [Nat.sub_zero, List.drop_eq_nil_of_le (Nat.le_refl _)]; rfl
  | k + 1, h => by
    have hlt : R.length - 1 - k < R.length := by omega
    rw [backL_succ (by omega), hornL_snoc, horn_drop x n R k (by omega), show R.length - (k + 1) = R.length - 1 - k from by omega, List.drop_eq_getElem_cons hlt, show R.length - 1 - k + 1 = R.length - k from by omega]
    rfl
theorem evR_rec (x n : Nat) (R : List (List Nat)) : evR x n R = evRec x n R := by
  have := horn_drop x n R R.length (Nat.le_refl _)
  rw [Nat.sub_self, List.drop_zero] at this
  exact this
theorem evRec_len {x n : Nat} {R : List (List Nat)} (h : ∀ l ∈ R, l.length = n) : (evRec x n R).length = n := by rw [← evR_rec]; exact evR_len h
theorem evRec_byt {x n : Nat} (hx : x < 256) {R : List (List Nat)} (h : ∀ l ∈ R, Gf.Byt l) : Gf.Byt (evRec x n R) := by rw [← evR_rec]; exact evR_byt hx h
theorem evRec_val {x n b : Nat} (hx : x < 256) (hb : b < n) : ∀ R : List (List Nat), (∀ l ∈ R, l.length = n) → (∀ l ∈ R, Gf.Byt l) → Fq.of ((evRec x n R).getD b 0) = Poly.eval (Poly.of (col b R)) (Fq.of x)
  | [], _, _ => by
    rw [evRec, List.getD_eq_getElem?_getD, List.getElem?_replicate, if_pos hb]
    exact (Poly.eval_zero _).symm
  | l :: R, hl, hB => by
    have ih := evRec_val hx hb R (fun l h => hl l (List.mem_cons_of_mem _ h)) (fun l h => hB l (List.mem_cons_of_mem _ h))
    have hR := evRec_len (x := x) (fun l h => hl l (List.mem_cons_of_mem _ h) : ∀ l ∈ R, l.length = n)
    have hBR := evRec_byt (n := n) hx (fun l h => hB l (List.mem_cons_of_mem _ h) : ∀ l ∈ R, Gf.Byt l)
    have h1 : l[b]? = some (l.getD b 0) := by
      rw [List.getD_eq_getElem?_getD, List.getElem?_eq_getElem (by rw [hl l (by simp)]; exact hb)]; rfl
    have h2 : (evRec x n R)[b]? = some ((evRec x n R).getD b 0) := by
      rw [List.getD_eq_getElem?_getD, List.getElem?_eq_getElem (by rw [hR]; exact hb)]; rfl
    have h3 := Gf.mulAdd_get l (evRec x n R) x b _ _ h1 h2
    rw [evRec, List.getD_eq_getElem?_getD, h3, Option.getD_some, col_cons, of_cons, Poly.eval_add, Poly.eval_C, Poly.eval_x_mul, ← ih, Fq.of_add (Gf.mul_lt _ _ hx) ((hB l (by simp)).getD b), Fq.of_mul hx (hBR.getD b), Fq.add_comm]
theorem evR_val {x n b : Nat} (hx : x < 256) (hb : b < n) {R : List (List Nat)} (hl : ∀ l ∈ R, l.length = n) (hB : ∀ l ∈ R, Gf.Byt l) : Fq.of ((evR x n R).getD b 0) = Poly.eval (Poly.of (col b R)) (Fq.of x) := by
  rw [evR_rec]; exact evRec_val hx hb R hl hB
theorem ext_getD {n : Nat} {l m : List Nat} (hl : l.length = n) (hm : m.length = n) (h : ∀ b, b < n → l.getD b 0 = m.getD b 0) : l = m := by
  refine List.ext_getElem? fun b => ?_
  by_cases hb : b < n
  · have := h b hb
    rw [List.getD_eq_getElem?_getD, List.getD_eq_getElem?_getD, List.getElem?_eq_getElem (by rw [hl]; exact hb), List.getElem?_eq_getElem (by rw [hm]; exact hb)] at this
    rw [List.getElem?_eq_getElem (by rw [hl]; exact hb), List.getElem?_eq_getElem (by rw [hm]; exact hb)]
    exact congrArg some this
  · rw [List.getElem?_eq_none (by rw [hl]; omega), List.getElem?_eq_none (by rw [hm]; omega)]
/-- The lists L hold the coefficients, but the first, of the polynomials that take the secret S at 0 and the shares D at xs. -/
def FitOk (n : Nat) (S xs : List Nat) (D L : List (List Nat)) : Prop :=
  L.length = xs.length ∧ (∀ l ∈ L, l.length = n ∧ Gf.Byt l) ∧ ∀ b, b < n → ∃ p : Poly, p.sz ≤ xs.length + 1 ∧ Poly.Takes p (0 :: xs) (S.getD b 0 :: col b D) ∧ ∀ (i : Nat) (l : List Nat), L[i]? = some l → Fq.of (l.getD b 0) = p.cf (i + 1)
theorem FitOk.poly {n : Nat} {S xs : List Nat} {D L : List (List Nat)} (h : FitOk n S xs D L) {b : Nat} (hb : b < n) : Poly.Takes (Poly.of (S.getD b 0 :: col b L)) (0 :: xs) (S.getD b 0 :: col b D) ∧
    ∀ (i : Nat) (l : List Nat), L[i]? = some l → Fq.of (l.getD b 0) = (Poly.of (S.getD b 0 :: col b L)).cf (i + 1) := by
  obtain ⟨h1, h2, h3⟩ := h
  obtain ⟨p, hs, ht, hc⟩ := h3 b hb
  have e : Poly.of (S.getD b 0 :: col b L) = p := Poly.ext fun i => by
    rw [Poly.cf_of]
    cases i with
    | zero =>
      have := ht 0 0 (S.getD b 0) rfl rfl
      rw [Fq.of_zero, eval_at_zero] at this
      exact this.symm
    | succ i =>
      rw [List.getD_cons_succ]
      by_cases hi : i < L.length
      · rw [col_getD (List.getElem?_eq_getElem hi)]
        exact hc i _ (List.getElem?_eq_getElem hi)
      · rw [List.getD_eq_getElem?_getD, List.getElem?_eq_none (by rw [col, List.length_map]; omega), Poly.cf_of_ge (by omega)]; rfl
  rw [e]
  exact ⟨ht, hc⟩
theorem fit_back {n : Nat} {S xs : List Nat} {D L : List (List Nat)} (h : FitOk n S xs D L) (hS : S.length = n) (hSb : Gf.Byt S) (hx : Gf.Byt xs) (hD : ∀ l ∈ D, l.length = n) (hDb : ∀ l ∈ D, Gf.Byt l)
    {i x : Nat} {d : List Nat} (h1 : xs[i]? = some x) (h2 : D[i]? = some d) : evR x n (S :: L) = d := by
  have hl : ∀ l ∈ S :: L, l.length = n := fun l hl => by
    rcases List.mem_cons.1 hl with rfl | hl
    · exact hS
    · exact (h.2.1 l hl).1
  have hb : ∀ l ∈ S :: L, Gf.Byt l := fun l hl => by
    rcases List.mem_cons.1 hl with rfl | hl
    · exact hSb
    · exact (h.2.1 l hl).2
  have hxb := hx.at h1
  refine ext_getD (evR_len hl) (hD d (List.mem_of_getElem? h2)) fun b hbn => ?_
  refine Fq.of_inj ((evR_byt hxb hb).getD b) ((hDb d (List.mem_of_getElem? h2)).getD b) ?_
  rw [evR_val hxb hbn hl hb, col_cons]
  exact (h.poly hbn).1 (i + 1) x _ h1 (col_get h2)
theorem fit_unique {n : Nat} {S xs : List Nat} {D L G : List (List Nat)} (h : FitOk n S xs D L) (hS : S.length = n) (hSb : Gf.Byt S) (hx : Gf.Byt xs) (hx0 : 0 ∉ xs) (hnd : xs.Nodup) (hDl : D.length = xs.length)
    (hG : G.length = xs.length) (hGl : ∀ l ∈ G, l.length = n) (hGb : ∀ l ∈ G, Gf.Byt l) (hv : ∀ (i x : Nat) (d : List Nat), xs[i]? = some x → D[i]? = some d → evR x n (S :: G) = d) : G = L := by
  have hl : ∀ l ∈ S :: G, l.length = n := fun l hl => by
    rcases List.mem_cons.1 hl with rfl | hl
    · exact hS
    · exact hGl l hl
  have hb : ∀ l ∈ S :: G, Gf.Byt l := fun l hl => by
    rcases List.mem_cons.1 hl with rfl | hl
    · exact hSb
    · exact hGb l hl
  have key : ∀ b, b < n → Poly.of (S.getD b 0 :: col b G) = Poly.of (S.getD b 0 :: col b L) := fun b hbn => by
    have hx' : Gf.Byt (0 :: xs) := fun y hy => by
      rcases List.mem_cons.1 hy with rfl | hy
      · omega
      · exact hx y hy
    refine Poly.takes_unique (xs := 0 :: xs) (ys := S.getD b 0 :: col b D) hx' (List.nodup_cons.2 ⟨hx0, hnd⟩) (by simp [col, hDl]) ?_ (h.poly hbn).1 ?_ ?_
    · intro i x y h1 h2
      cases i with
      | zero =>
        cases h1; cases h2
        rw [Fq.of_zero, eval_at_zero, Poly.cf_of]; rfl
      | succ i =>
        rw [List.getElem?_cons_succ] at h1 h2
        obtain ⟨d, hd⟩ : ∃ d, D[i]? = some d := ⟨_, List.getElem?_eq_getElem (by rw [hDl]; exact (List.getElem?_eq_some_iff.1 h1).1)⟩
        rw [col_get hd] at h2
        cases h2
        rw [← hv i x d h1 hd, evR_val (hx.at h1) hbn hl hb, col_cons]
    · have := sz_of (S.getD b 0 :: col b G)
      simp only [List.length_cons, col, List.length_map] at this ⊢
      omega
    · have := sz_of (S.getD b 0 :: col b L)
      have h1 := h.1
      simp only [List.length_cons, col, List.length_map] at this ⊢
      omega
  refine List.ext_getElem? fun i => ?_
  by_cases hi : i < xs.length
  · have hi1 : i < G.length := by omega
    have hi2 : i < L.length := by rw [h.1]; exact hi
    rw [List.getElem?_eq_getElem hi1, List.getElem?_eq_getElem hi2]
    have hm1 : G[i] ∈ G := List.getElem_mem hi1
    have hm2 : L[i] ∈ L := List.getElem_mem hi2
    refine congrArg some (ext_getD (hGl _ hm1) (h.2.1 _ hm2).1 fun b hbn => ?_)
    refine Fq.of_inj ((hGb _ hm1).getD b) ((h.2.1 _ hm2).2.getD b) ?_
    rw [(h.poly hbn).2 i _ (List.getElem?_eq_getElem hi2), ← key b hbn, Poly.cf_of, List.getD_cons_succ, col_getD (List.getElem?_eq_getElem hi1)]
  · rw [List.getElem?_eq_none (by omega), List.getElem?_eq_none (by rw [h.1]; omega)]
end Go.Proofs.Ytioiaiifkfopnaa
