/- TopSecretShares: the contracts as its walk wants them, and the plain end. -/
import Derived.Test.YtioiaiifkfopnaaWTSa
namespace Go.Proofs.Ytioiaiifkfopnaa
open Go.RowKit Go.Kin
set_option maxRecDepth 100000
set_option linter.unusedVariables false
theorem shares_r (ms : ByteArray) (hms : ms.size = 32) (r : Nat) (hr : r ≤ 4) (a : Option Addr) (c : Nat) (ds : List Nat) (b : Option Addr) (d : Nat) (cs : List Nat) (w : World)
    (hD : Rd vn w a (r + 1) c ds) (hd : ∀ x ∈ ds, x < 12) (hnd : ds.Nodup) (hC : Rd vb w b (32 * r) d cs) (hcb : Gf.Byt cs) :
    Calls Try.prog 6 #[.string ms, .int .i64 ((r : Int) + 1), .slice a (r + 1) c, .slice b (32 * r) d] w fun e w' => ∃ (sa : Option Addr) (sc : Nat), e = .returned (.tuple #[.slice sa (r + 1) sc, .int .i64 0]) ∧
      RdSh w' sa (r + 1) sc (ds.map (· + 1)) (ds.map fun x => evR (x + 1) 32 (bl ms :: Sss.rows r cs)) ∧ Below w.heap.size w w' := by
  refine (shares_any ms hms (r + 1) (by omega) (by omega) a (r + 1) c ds b d cs w hD (by omega) (by omega) hd hnd hC hcb).mono ?_
  rintro e w' ⟨sa, sc, T, rfl, hT, hf, hv, hb⟩
  refine ⟨sa, sc, rfl, ⟨T, hT, hf, by rw [List.length_map, hD.len], fun i x y hx hy => ?_⟩, hb⟩
  have h1 := hv x (List.mem_of_getElem? hx)
  have h2 : (T.map Prod.fst)[i]? = some x.1 := by rw [List.getElem?_map, hx]; rfl
  rw [hf, List.getElem?_map] at h2
  rw [List.getElem?_map] at hy
  cases hz : ds[i]? with
  | none => rw [hz] at hy; cases hy
  | some z =>
    rw [hz] at h2 hy
    cases hy
    have h3 : z + 1 = x.1 := by simpa using h2
    show Rd vb w' _ _ _ (evR (z + 1) 32 _)
    rw [h3]
    exact h1
theorem fits_r (a : Option Addr) (n c : Nat) (S : List Nat) (sa : Option Addr) (q sc : Nat) (xs : List Nat) (D : List (List Nat)) (w : World)
    (hS : Rd vb w a n c S) (hT : RdSh w sa q sc xs D) (hDn : ∀ d ∈ D, d.length = n) (hDb : ∀ d ∈ D, Gf.Byt d) (hSb : Gf.Byt S) (hq : q ≤ 15) (hn : n ≤ 1024) (hx : ∀ x ∈ xs, 1 ≤ x ∧ x ≤ 255) (hnd : xs.Nodup) :
    Calls Try.prog 7 #[.slice a n c, .slice sa q sc, .int .i64 ((q : Int) + 1)] w fun e w' => ∃ o L, e = .returned (.tuple #[.slice (some ⟨o, 0, none⟩) q q, .int .i64 0]) ∧ RdM w' (some ⟨o, 0, none⟩) q q L ∧ FitOk n S xs D L ∧ Below w.heap.size w w' := by
  obtain ⟨T, h1, h2, h3, h4⟩ := hT
  subst h2
  exact fits_any a n c S sa q sc T D w hS h1 h4 h3 hDn hDb hSb hq hn hx hnd
/-- The members' shares. -/
def shD (M : List Nat) (r : Nat) (R : List (List Nat)) : List (List Nat) := (M.map fun x => evR (x + 1) 32 R).take r
theorem shD_len {M : List Nat} {r : Nat} {R : List (List Nat)} (hR : ∀ l ∈ R, l.length = 32) : ∀ d ∈ shD M r R, d.length = 32 := fun d hd => by
  obtain ⟨x, _, rfl⟩ := List.mem_map.1 (List.mem_of_mem_take hd)
  exact evR_len hR
theorem shD_byt {M : List Nat} {r : Nat} {R : List (List Nat)} (hM : ∀ x ∈ M, x < 12) (hR : ∀ l ∈ R, Gf.Byt l) : ∀ d ∈ shD M r R, Gf.Byt d := fun d hd => by
  obtain ⟨x, hx, rfl⟩ := List.mem_map.1 (List.mem_of_mem_take hd)
  exact evR_byt (by have := hM x hx; omega) hR
theorem shD_length {M : List Nat} {r : Nat} {R : List (List Nat)} (h : M.length = r + 1) : (shD M r R).length = r := by
  rw [shD, List.length_take, List.length_map]; omega
theorem xs_take_len {M : List Nat} {r : Nat} (h : M.length = r + 1) : ((M.map (· + 1)).take r).length = r := by rw [List.length_take, List.length_map]; omega
theorem xs_take_ok {M : List Nat} {r : Nat} (hM : ∀ x ∈ M, x < 12) : ∀ x ∈ (M.map (· + 1)).take r, 1 ≤ x ∧ x ≤ 255 := fun x hx => xs_ok hM x (List.mem_of_mem_take hx)
theorem xs_take_nd {M : List Nat} {r : Nat} (h : M.Nodup) : ((M.map (· + 1)).take r).Nodup := (xs_nodup h).sublist (List.take_sublist _ _)
theorem xs_take_byt {M : List Nat} {r : Nat} (hM : ∀ x ∈ M, x < 12) : Gf.Byt ((M.map (· + 1)).take r) := fun x hx => by have := xs_take_ok hM x hx; omega
theorem sh_get {M : List Nat} {r i x : Nat} {R : List (List Nat)} (h1 : ((M.map (· + 1)).take r)[i]? = some x) : (shD M r R)[i]? = some (evR x 32 R) := by
  rw [List.getElem?_take] at h1
  rw [shD, List.getElem?_take]
  split at h1
  · rename_i hi
    rw [if_pos hi]
    rw [List.getElem?_map] at h1 ⊢
    cases hz : M[i]? with
    | none => rw [hz] at h1; cases h1
    | some z => rw [hz] at h1; cases h1; rfl
  · cases h1
/-- Shares are the same just where they are so at every x. -/
theorem shD_eq {M : List Nat} {r : Nat} (hl : M.length = r + 1) {R : List (List Nat)} {D : List (List Nat)} (hD : D.length = r) (h : ∀ (i x : Nat) (d : List Nat), ((M.map (· + 1)).take r)[i]? = some x → D[i]? = some d → evR x 32 R = d) : shD M r R = D := by
  refine List.ext_getElem? fun i => ?_
  by_cases hi : i < r
  · have h1 := List.getElem?_eq_getElem (show i < ((M.map (· + 1)).take r).length by rw [xs_take_len hl]; exact hi)
    have h2 := List.getElem?_eq_getElem (show i < D.length by rw [hD]; exact hi)
    rw [sh_get h1, h2, h i _ _ h1 h2]
  · rw [List.getElem?_eq_none (by rw [shD_length hl]; omega), List.getElem?_eq_none (by omega)]
theorem row_cons {S : List Nat} (hS : S.length = 32) {R : List (List Nat)} (h : ∀ l ∈ R, l.length = 32) : ∀ l ∈ S :: R, l.length = 32 := fun l hl => by
  rcases List.mem_cons.1 hl with rfl | hl
  · exact hS
  · exact h l hl
theorem byt_cons {S : List Nat} (hS : Gf.Byt S) {R : List (List Nat)} (h : ∀ l ∈ R, Gf.Byt l) : ∀ l ∈ S :: R, Gf.Byt l := fun l hl => by
  rcases List.mem_cons.1 hl with rfl | hl
  · exact hS
  · exact h l hl
/-- The coefficients that Fits gives lead back to the shares. -/
theorem end_again {M : List Nat} {r : Nat} (hl : M.length = r + 1) (hM : ∀ x ∈ M, x < 12) {S O : List Nat} (hS : S.length = 32) (hSb : Gf.Byt S) (hO : O.length = 32) (hOb : Gf.Byt O) {R L : List (List Nat)} (hR : ∀ l ∈ R, l.length = 32) (hRb : ∀ l ∈ R, Gf.Byt l)
    (hF : FitOk 32 O ((M.map (· + 1)).take r) (shD M r (S :: R)) L) : shD M r (O :: L) = shD M r (S :: R) :=
  shD_eq hl (shD_length hl) fun i x d h1 h2 => fit_back hF hO hOb (xs_take_byt hM) (shD_len (row_cons hS hR)) (shD_byt hM (byt_cons hSb hRb)) h1 h2
/-- Another guess leads to them just where it is the same. -/
theorem end_guess {M : List Nat} {r : Nat} (hl : M.length = r + 1) (hM : ∀ x ∈ M, x < 12) (hnd : M.Nodup) {S O : List Nat} (hS : S.length = 32) (hSb : Gf.Byt S) (hO : O.length = 32) (hOb : Gf.Byt O) {R L : List (List Nat)} (hR : ∀ l ∈ R, l.length = 32) (hRb : ∀ l ∈ R, Gf.Byt l)
    (hF : FitOk 32 O ((M.map (· + 1)).take r) (shD M r (S :: R)) L) {gs : List Nat} (hg : gs.length = 32 * r) (hgb : Gf.Byt gs) : decide (shD M r (O :: Sss.rows r gs) = shD M r (S :: R)) = decide (gs = L.flatten) := by
  have hLl : L.length = r := by rw [hF.1, xs_take_len hl]
  refine decide_eq_decide.2 ⟨fun h => ?_, fun h => ?_⟩
  · have e : Sss.rows r gs = L := by
      refine fit_unique hF hO hOb (xs_take_byt hM) (fun h0 => ?_) (xs_take_nd hnd) (by rw [shD_length hl, xs_take_len hl]) (by rw [Sss.rows_length, xs_take_len hl]) (Sss.rows_mem r gs hg) (Sss.rows_byt r gs hgb) fun i x d h1 h2 => ?_
      · have := xs_take_ok hM 0 h0
        omega
      · have h3 := sh_get (R := O :: Sss.rows r gs) h1
        rw [h, h2] at h3
        cases h3
        rfl
    rw [← e, Sss.flatten_rows r gs hg]
  · have e : Sss.rows r gs = L := by
      rw [h, ← hLl]
      exact Sss.rows_flatten L fun l hl => (hF.2.1 l hl).1
    rw [e]
    exact end_again hl hM hS hSb hO hOb hR hRb hF
theorem key12 (x : Int) : ∃ k : Nat, k < 12 ∧ (x.tmod 12 + 12).tmod 12 = (k : Int) := by
  have h1 : x.tmod 12 < 12 := Int.tmod_lt_of_pos x (by omega)
  have h2 : -12 < x.tmod 12 := Int.lt_tmod_of_pos x (by omega)
  have h4 : 0 ≤ (x.tmod 12 + 12).tmod 12 := Int.tmod_nonneg _ (by omega)
  have h5 : (x.tmod 12 + 12).tmod 12 < 12 := Int.tmod_lt_of_pos _ (by omega)
  exact ⟨((x.tmod 12 + 12).tmod 12).toNat, by omega, by omega⟩
theorem mem_intn {k : Nat} {S : List Nat} : (k : Int) ∈ S.map Int.ofNat ↔ k ∈ S := by
  constructor
  · intro h
    obtain ⟨y, hy, e⟩ := List.mem_map.1 h
    have : (y : Int) = (k : Int) := e
    have : y = k := by omega
    rwa [← this]
  · intro h
    exact List.mem_map.2 ⟨k, h, rfl⟩
end Go.Proofs.Ytioiaiifkfopnaa
