/- MatrixSolves: the walk. -/
import Derived.Test.YtchhfpaicdhjbaaMw
import Derived.Test.YtchhfpaicdhjbaaMy
import Derived.Test.YtchhfpaicdhjbaaMkc
import Derived.Test.YtchhfpaicdhjbaaMkd
import Derived.Laws.AppendOwnNone
namespace Go.Kin
open Go.RowKit
theorem step_append_any {α : Type} {P : Program} (w : World) {ops : Array Oper} {o : Oper} {a : Act} {K : Act → World → Prop} {Q : Exit → Act → World → Prop} {E : Prop} (hgd : o.guard = none) (s x : Operand) (t : TypeId)
    (ho : o.op = .call { callee := .builtin .append, args := #[s, x], argTypes := #[t, t] }) (f : α → Value) (hf : ∀ x, (f x).oneCell' = true)
    (base : Nat) (e : TypeId) (i : TypeInfo) (z : Value) (bytes : Nat) (ht : P.underlying t = some (.slice e)) (hi : P.info? e = some i) (hz : i.zero = some z)
    (hsize : i.size = 1) (hby : i.bytes = bytes) (hzs : z.cells.size = 1)
    (sa : Option Addr) (n c : Nat) (L : List α) (hs : a.eval s = .slice sa n c) (hown : Own f base e w sa n c L)
    (xa : Option Addr) (m d : Nat) (X : List α) (hx : a.eval x = .slice xa m d) (hX : Rd f w xa m d X)
    (h63 : n + m ≤ maxLen) (hbytes : (n + m) * bytes ≤ 140737488355328) (hbase : base ≤ w.heap.size)
    (h : ∀ sa' c' w', Own f base e w' sa' (n + m) c' (L ++ X) → w.grownBy w' (Value.slice sa n c).ownBlock → K (a.put o.dst (.slice sa' (n + m) c')) w') :
    if Region.wanted o (yielded ops a.tmps) = true then Oper.wp P o a w K Q else E := by
  cases xa with
  | some ad => exact step_append_rd w hgd s x t ho f hf base e i z bytes ht hi hz hsize hby hzs sa n c L hs hown ad m d X hx hX h63 hbytes hbase h
  | none =>
    obtain ⟨rfl, rfl⟩ : m = 0 ∧ d = 0 := by
      have h1 := hX.none0 rfl
      have h2 := hX.cap
      exact ⟨by omega, h1⟩
    obtain rfl : X = [] := List.eq_nil_of_length_eq_zero hX.len
    have hw : Region.wanted o (yielded ops a.tmps) = true := by simp [Region.wanted, hgd]
    rw [if_pos hw]
    have hrun := run_append_owned_none (P := P) (w := w) base t o.type e i 1 ht hi (.slice sa n c) n (L.map f) hown.ownsRow
    unfold Oper.wp
    simp [execOp, ho, resolve, invoke, builtin, hs, hx, hrun, Result.andThen]
    have := h sa c w (by rw [List.append_nil]; exact hown) ⟨rfl, rfl, rfl, Nat.le_refl _, fun _ _ _ => rfl⟩
    exact this
end Go.Kin
namespace Go.Proofs.Ytchhfpaicdhjbaa
open Go.RowKit Go.Kin Mat
open Fq (sum)
set_option maxRecDepth 100000
set_option linter.unusedVariables false

theorem rank_wide (a : Option Addr) (n c k : Nat) (F : Mat) (w : World) (h : RdM w a n c (mlist n (k + 1) F)) (hn : n ≤ 64) (hk : k + 1 ≤ 64) :
    Calls Try.prog 29 #[.slice a n c] w fun e w' => e = .returned (.int .i64 ((elimE n F (k + 1)).piv.length : Int)) ∧ Below w.heap.size w w' := by
  rcases Nat.eq_zero_or_pos n with e | e
  · subst e
    have h1 : (elimE 0 F (k + 1)).piv.length = 0 := by have := (ech_elim 0 F (k + 1)).len; omega
    rw [h1]
    exact rank_ok a 0 c 0 F w h ⟨by omega, by omega, fun _ => rfl⟩
  · exact rank_ok a n c (k + 1) F w h ⟨hn, hk, fun e2 => by omega⟩
def Consist (n k : Nat) (s : EState) : Prop := ∀ i, s.piv.length ≤ i → i < n → s.R i k = 0
theorem solve_yes (a b : Option Addr) (n c d k : Nat) (f : Mat) (v : List Nat) (s : EState) (hs : s = elimE n (aug k f (colM v)) k) (hc : Consist n k s) (w : World) (h : RdM w a n c (mlist n k f)) (h2 : Rd vb w b n d v) (hb : Gf.Byt v) (hv : VM n k) :
    Calls Try.prog 31 #[.slice a n c, .slice b n d] w fun e w' => ∃ g, e = .returned (.tuple #[.slice (some ⟨g, 0, none⟩) k k, .int .i64 0]) ∧ Rd vb w' (some ⟨g, 0, none⟩) k k (mrow k (solV s k s.piv.length)) ∧ Below w.heap.size w w' := by
  have hk := hv.hk
  refine (solve_any a b n c d k f v w h h2 hb hv).mono fun e w' hr => ?_
  rw [← hs] at hr
  rcases hr with ⟨_, g, he, hB, hbl⟩ | ⟨⟨i, h1, h2, h3⟩, _⟩
  · exact ⟨g, he, hB.rdn (mrow_length _ _) (Nat.le_refl _) (by omega), hbl⟩
  · exact absurd (hc i h1 h2) h3
theorem solve_no (a b : Option Addr) (n c d k : Nat) (f : Mat) (v : List Nat) (s : EState) (hs : s = elimE n (aug k f (colM v)) k) (hc : ¬ Consist n k s) (w : World) (h : RdM w a n c (mlist n k f)) (h2 : Rd vb w b n d v) (hb : Gf.Byt v) (hv : VM n k) :
    Calls Try.prog 31 #[.slice a n c, .slice b n d] w fun e w' => e = .returned (.tuple #[.slice none 0 0, .int .i64 4]) ∧ Below w.heap.size w w' := by
  refine (solve_any a b n c d k f v w h h2 hb hv).mono fun e w' hr => ?_
  rw [← hs] at hr
  rcases hr with ⟨h1, _⟩ | ⟨_, he, hbl⟩
  · exact absurd h1 hc
  · exact ⟨he, hbl⟩
theorem mrow_snoc (k : Nat) (f : Mat) (v : List Nat) {j x : Nat} (hx : v[j]? = some x) (hb : x < 256) : mrow k (f j) ++ [x] = mrow (k + 1) (aug k f (colM v) j) := by
  rw [← mrow_aug]
  congr 1
  rw [mrow_one]
  unfold colM
  rw [List.getD_eq_getElem?_getD, hx]
  show _ = [(Fq.of x).n]
  rw [Fq.of_n hb]

set_option maxHeartbeats 2000000 in
theorem walk_MatrixSolves (a : Option Addr) (n c : Nat) (A : List (List Nat)) (b : Option Addr) (m d : Nat) (v : List Nat) (w : World) (h1 : RdM w a n c A) (hb1 : ∀ m ∈ A, ∀ x ∈ m, x < 256) (h2 : Rd vb w b m d v) (hb2 : ∀ x ∈ v, x < 256) :
    Calls Try.prog 7 #[.slice a n c, .slice b m d] w fun e w' => e = .returned (.bool true) ∧ Below w.heap.size w w' := by
  have hm63 : m ≤ 9223372036854775807 := by have := h2.cap; have := h2.max; unfold maxLen at *; omega
  have hl := h1.len
  by_cases hfA : FewL A 7
  case neg =>
    have HF := decide_eq_false hfA
    go_enter Try.func7, Try.ntmps7
    go_wp2_with (first
      | (go_at_call 13; refine (few_any _ _ _ _ 7 _ h1).mono ?_; rw [HF]; rintro e w' ⟨rfl, rfl⟩)
      | (go_at_call 14; refine (awake_any _).mono ?_; rintro e w1 ⟨rfl, b1⟩))
    go_ret
    exact ⟨rfl, b1⟩
  have HF := decide_eq_true hfA
  by_cases hm10 : m ≤ 8
  case neg =>
    have e1 : decide ((8 : Int) < (m : Int)) = true := by simp; omega
    go_enter Try.func7, Try.ntmps7
    go_wp2_with (first
      | (go_at_call 13; refine (few_any _ _ _ _ 7 _ h1).mono ?_; rw [HF]; rintro e w' ⟨rfl, rfl⟩)
      | (go_at_call 14; refine (awake_any _).mono ?_; rintro e w1 ⟨rfl, b1⟩))
    go_ret
    exact ⟨rfl, b1⟩
  have e1 : decide ((8 : Int) < (m : Int)) = false := by simp; omega
  by_cases hok : ValidL A ∧ m = A.length
  case neg =>
    have HO := Lib.hid hok
    by_cases vA : ValidL A
    · have dA := decide_eq_true vA
      have e2 : ((m : Int) != (n : Int)) = true := by
        have : m ≠ A.length := fun e => hok ⟨vA, e⟩
        simp; omega
      clear hok hl hfA vA
      go_enter Try.func7, Try.ntmps7
      go_wp2_with (first
        | (go_at_call 13; refine (few_any _ _ _ _ 7 _ h1).mono ?_; rw [HF]; rintro e w' ⟨rfl, rfl⟩)
        | (go_at_call 31; refine (solve_bad _ _ _ _ _ _ A _ (by repeat (first | assumption | apply RdM.alloc | (apply RdM.fw2; assumption))) HO.out).mono ?_; rintro e w' ⟨rfl, rfl⟩)
        | (go_at_call 16; refine (rvalid_any _ _ _ _ _ (by repeat (first | assumption | apply RdM.alloc | (apply RdM.fw2; assumption)))).mono ?_; rintro e w2 ⟨rfl, hd⟩; have b2 := hd.fw; clear hd)
        | (go_at_call 14; refine (awake_any _).mono ?_; rintro e w4 ⟨rfl, b4⟩))
      go_ret
      exact ⟨rfl, (by repeat (first | assumption | apply below_alloc | (apply bt'; assumption)))⟩
    · have dA := decide_eq_false vA
      clear hok hl hfA vA
      go_enter Try.func7, Try.ntmps7
      go_wp2_with (first
        | (go_at_call 13; refine (few_any _ _ _ _ 7 _ h1).mono ?_; rw [HF]; rintro e w' ⟨rfl, rfl⟩)
        | (go_at_call 31; refine (solve_bad _ _ _ _ _ _ A _ (by repeat (first | assumption | apply RdM.alloc | (apply RdM.fw2; assumption))) HO.out).mono ?_; rintro e w' ⟨rfl, rfl⟩)
        | (go_at_call 16; refine (rvalid_any _ _ _ _ _ (by repeat (first | assumption | apply RdM.alloc | (apply RdM.fw2; assumption)))).mono ?_; rintro e w2 ⟨rfl, hd⟩; have b2 := hd.fw; clear hd)
        | (go_at_call 14; refine (awake_any _).mono ?_; rintro e w4 ⟨rfl, b4⟩))
      go_ret
      exact ⟨rfl, (by repeat (first | assumption | apply below_alloc | (apply bt'; assumption)))⟩
  obtain ⟨vA, hmA⟩ := hok
  have dA := decide_eq_true vA
  obtain ⟨k, f, v1, hk, rfl⟩ := valid_form h1 hb1 vA
  obtain rfl : m = n := by rw [hmA, mlist_length]
  have hcA := v1.cols f
  have hn := v1.hn; have hkk := (few_vm hfA v1).2
  obtain ⟨s, hs⟩ : ∃ s, s = elimE m (aug k f (colM v)) k := ⟨_, rfl⟩
  have HS := Lib.hid hs
  obtain ⟨i0, hi, hz0, hz1, hz2⟩ := info_parts info5
  obtain ⟨i1, hi1, hy0, hy1, hy2⟩ := info_parts infoB
  have u0 := Try.underlying34
  have u1 := Try.underlying22
  have BY := Lib.hid hb2
  have e2 : ((m : Int) != (m : Int)) = false := by simp
  clear vA hmA hfA hk hb1 hl hs hb2
  by_cases hcon : Consist m k s
  · have HC := Lib.hid hcon
    clear hcon
    go_enter Try.func7, Try.ntmps7
    go_wp2_with (first
      | (go_at_call 13; refine (few_any _ _ _ _ 7 _ h1).mono ?_; rw [HF]; rintro e w' ⟨rfl, rfl⟩)
      | (go_at_call 31; refine (solve_yes _ _ _ _ _ _ f v s HS.out HC.out _ (by repeat (first | assumption | apply RdM.alloc | (apply RdM.fw2; assumption))) (by repeat (first | assumption | apply Rd.alloc | (apply Rd.fw2; assumption))) BY.out v1).mono ?_; rintro e w1 ⟨gx, rfl, x1, b1⟩)
      | (go_at_call 16; refine (rvalid_any _ _ _ _ _ (by repeat (first | assumption | apply RdM.alloc | (apply RdM.fw2; assumption)))).mono ?_; rintro e w2 ⟨rfl, hd⟩; have b2 := hd.fw; clear hd))
    have hx2' : Rd vb w2 (some ⟨gx, 0, none⟩) k k (mrow k (solV s k s.piv.length)) := (by repeat (first | assumption | apply Rd.alloc | (apply Rd.fw2; assumption)))
    have HXX := Lib.hid hx2'
    have hb2' : Below w.heap.size w w2 := (by repeat (first | assumption | apply below_alloc | (apply bt'; assumption)))
    have HB2 := Lib.hid hb2'
    have M0 := Lib.hid (matR_empty w2 (k + 1) (aug k f (colM v)))
    have H1 := Lib.hid h1; have H2 := Lib.hid h2
    clear b1 b2 hb2' h1 h2 x1 hx2'
    go_loopw [7, 8] (fun r i wr => ∃ (j : Nat) (oa : Option Addr) (oc : Nat), j ≤ m ∧ i = .int .i64 (j : Int) ∧ r = .slice oa j oc ∧ Hid (MatR wr w2.heap.size oa j oc (k + 1) (aug k f (colM v))) ∧ Hid (Below w2.heap.size w2 wr)) (fun _ i _ => m - (intOf i).toNat)
    case atStart => exact ⟨0, _, 0, by omega, rfl, rfl, M0.out, below_alloc _ (below_refl w2)⟩
    case round =>
      obtain ⟨j, oa, oc, hj, rfl, rfl, hM, hb5⟩ := hrel
      have hbe := Lib.hid (bt HB2.out hb5.out)
      by_cases hlt : j < m
      · have j2 : (j : Int) < (m : Int) := by omega
        obtain ⟨rr, ra, rn, rc, ba, ob, hmr, rfl, c0w, hrow0⟩ := H1.out.row hlt
        have lbw := lt_of_cell c0w
        have c0 := (cellBelow hbe.out lbw).trans c0w
        have hrow := hrow0.fw hbe.out
        obtain rfl := mlist_row hmr
        obtain rfl : k = rn := by have := hrow.len; rwa [mrow_length] at this
        obtain ⟨x, hx⟩ : ∃ x, v[j]? = some x := ⟨_, List.getElem?_eq_getElem (by rw [H2.out.len]; omega)⟩
        obtain ⟨bx, ox, rfl, d0w⟩ := H2.out.cell j x hx
        have lxw := lt_of_cell d0w
        have d0 := (cellBelow hbe.out lxw).trans d0w
        have bx1 := BY.out x (List.mem_of_getElem? hx)
        unfold vb at d0
        have C0W := Lib.hid c0w; have D0W := Lib.hid d0w; have HROW := Lib.hid hrow
        have HSN := Lib.hid (mrow_snoc k f v hx bx1)
        obtain ⟨L, h3, h4⟩ := hM.out
        have H3 := Lib.hid h3; have H4 := Lib.hid h4
        clear hx c0w d0w hrow hrow0 hmr h3 h4 hM
        go_wp2_with fail
        have lb : ba < wr.heap.size := Nat.lt_of_lt_of_le lbw hbe.out.size
        have lx : bx < wr.heap.size := Nat.lt_of_lt_of_le lxw hbe.out.size
        have hbd : Below wr.heap.size wr wr.drew := (below_refl wr).drew
        have BA : Hid (Below wr.heap.size wr (wr.drew.alloc (.cells (row vb []) 5 (0, 0)))) := below_alloc _ hbd
        have OA := Lib.hid ((blk_new vb 5 wr.drew []).own (B := wr.heap.size) (Nat.le_refl _) (by simp [maxLen]))
        have BB2 : Hid (Below wr.heap.size wr ((wr.drew.alloc (.cells (row vb []) 5 (0, 0))).alloc (.cells (row vb [x]) 5 (0, 0)))) := below_alloc _ BA.out
        have OB := Lib.hid (OA.out.fw (below_alloc (.cells (row vb [x]) 5 (0, 0)) (below_refl _)))
        have NB := Lib.hid (rd_new1 vb 5 wr.drew (.cells (row vb []) 5 (0, 0)) [x] (n := 1) rfl (by omega))
        have BC : Hid (Below wr.heap.size wr ((wr.drew.alloc (.cells (row vb [x]) 5 (0, 0))).alloc (.cells (row vb []) 5 (0, 0)))) := below_alloc _ (below_alloc _ hbd)
        have OC : Hid (Own vb wr.heap.size 5 ((wr.drew.alloc (.cells (row vb [x]) 5 (0, 0))).alloc (.cells (row vb []) 5 (0, 0))) (some ⟨wr.heap.size + 1, 0, none⟩) 0 0 []) := by
          have := (blk_new vb 5 (wr.drew.alloc (.cells (row vb [x]) 5 (0, 0))) []).own (B := wr.heap.size) (by simp) (by simp [maxLen])
          have e : (wr.drew.alloc (.cells (row vb [x]) 5 (0, 0))).heap.size = wr.heap.size + 1 := by simp
          rw [e] at this; exact this
        have NC := Lib.hid ((rd_new vb 5 wr.drew [x] (n := 1) rfl (by omega)).alloc (.cells (row vb []) 5 (0, 0)))
        clear hbd
        go_region_held3 (fun w' => w'.cell? ⟨ba, ob + j, none⟩ = some (.slice ra k rc) ∧ w'.cell? ⟨bx, ox + j, none⟩ = some (.int .u8 (x : Int)))
          (first
            | exact ⟨c0, d0⟩
            | exact ⟨k5, l5⟩
            | exact ⟨k6, l6⟩
            | exact ⟨k7, l7⟩
            | exact ⟨k8, l8⟩
            | go_keep)
          (first
            | (refine step_append_any _ (by rfl) (.tmp 55) (.tmp 59) 34 (by rfl) vb vb_one wr.heap.size 5 i0 (.int .u8 0) 1 u0 hi hz0 hz1 hz2 rfl (some ⟨wr.heap.size, 0, none⟩) 0 0 [] (by rfl) OA.out ra k rc (mrow k (f j)) (by rfl) (HROW.out.fw BA.out) (by unfold maxLen; omega) (by omega) BA.out.size ?_; rw [Nat.zero_add, List.nil_append]; intro sa5 sc5 w5 hown5 hgr5; have B5 : Hid (Below wr.heap.size wr w5) := BA.out.grown hgr5 BA.out.size (fun x hx => by cases hx; first | exact Nat.le_refl _ | exact Nat.le_succ _); have O5 := Lib.hid hown5; have WAY : Hid (True ∧ Rd vb (w5.alloc (.cells (row vb [x]) 5 (0, 0))) (some ⟨w5.heap.size, 0, none⟩) 1 1 [x]) := ⟨trivial, rd_new vb 5 w5 [x] rfl (by omega)⟩; have k5 : w5.cell? ⟨ba, ob + j, none⟩ = some (.slice ra k rc) := (cellBelow B5.out lb).trans c0; have l5 : w5.cell? ⟨bx, ox + j, none⟩ = some (.int .u8 (x : Int)) := (cellBelow B5.out lx).trans d0; clear hown5 hgr5)
            | (refine step_append_any _ (by rfl) (.tmp 55) (.tmp 59) 34 (by rfl) vb vb_one wr.heap.size 5 i0 (.int .u8 0) 1 u0 hi hz0 hz1 hz2 rfl (some ⟨wr.heap.size, 0, none⟩) 0 0 [] (by rfl) OB.out ra k rc (mrow k (f j)) (by rfl) (HROW.out.fw BB2.out) (by unfold maxLen; omega) (by omega) BB2.out.size ?_; rw [Nat.zero_add, List.nil_append]; intro sa5 sc5 w5 hown5 hgr5; have B5 : Hid (Below wr.heap.size wr w5) := BB2.out.grown hgr5 BB2.out.size (fun x hx => by cases hx; first | exact Nat.le_refl _ | exact Nat.le_succ _); have O5 := Lib.hid hown5; have N5 : Hid (Rd vb w5 (some ⟨wr.heap.size + 1, 0, none⟩) 1 1 [x]) := NB.out.grown (b := wr.heap.size) hgr5 (fun y hy => by cases hy; exact Nat.succ_ne_self _); have k5 : w5.cell? ⟨ba, ob + j, none⟩ = some (.slice ra k rc) := (cellBelow B5.out lb).trans c0; have l5 : w5.cell? ⟨bx, ox + j, none⟩ = some (.int .u8 (x : Int)) := (cellBelow B5.out lx).trans d0; clear hown5 hgr5)
            | (refine step_append_any _ (by rfl) (.tmp 55) (.tmp 59) 34 (by rfl) vb vb_one wr.heap.size 5 i0 (.int .u8 0) 1 u0 hi hz0 hz1 hz2 rfl (some ⟨wr.heap.size + 1, 0, none⟩) 0 0 [] (by rfl) OC.out ra k rc (mrow k (f j)) (by rfl) (HROW.out.fw BC.out) (by unfold maxLen; omega) (by omega) BC.out.size ?_; rw [Nat.zero_add, List.nil_append]; intro sa5 sc5 w5 hown5 hgr5; have B5 : Hid (Below wr.heap.size wr w5) := BC.out.grown hgr5 BC.out.size (fun x hx => by cases hx; first | exact Nat.le_refl _ | exact Nat.le_succ _); have O5 := Lib.hid hown5; have N5 : Hid (Rd vb w5 (some ⟨wr.heap.size, 0, none⟩) 1 1 [x]) := NC.out.grown (b := wr.heap.size + 1) hgr5 (fun y hy => by cases hy; exact Nat.ne_of_lt (Nat.lt_succ_self _)); have k5 : w5.cell? ⟨ba, ob + j, none⟩ = some (.slice ra k rc) := (cellBelow B5.out lb).trans c0; have l5 : w5.cell? ⟨bx, ox + j, none⟩ = some (.int .u8 (x : Int)) := (cellBelow B5.out lx).trans d0; clear hown5 hgr5)
            | (refine step_append_any _ (by rfl) (.tmp 60) (.tmp 65) 34 (by rfl) vb vb_one wr.heap.size 5 i0 (.int .u8 0) 1 u0 hi hz0 hz1 hz2 rfl sa5 k sc5 (mrow k (f j)) (by rfl) (O5.out.fw (below_alloc (.cells (row vb [x]) 5 (0, 0)) (below_refl w5))) (some ⟨w5.heap.size, 0, none⟩) 1 1 [x] (by rfl) WAY.out.2 (by unfold maxLen; omega) (by omega) (bt B5.out (below_alloc (.cells (row vb [x]) 5 (0, 0)) (below_refl w5))).size ?_; rw [HSN.out]; intro sa6 sc6 w6 hown6 hgr6; have B6 : Hid (Below wr.heap.size wr w6) := (bt B5.out (below_alloc (.cells (row vb [x]) 5 (0, 0)) (below_refl w5))).grown hgr6 (bt B5.out (below_alloc (.cells (row vb [x]) 5 (0, 0)) (below_refl w5))).size (fun x hx => own_ge O5.out hx); have ba6 := below_alloc (.cells (row vh [(sa6, k + 1, sc6)]) 34 (0, 0)) (below_refl w6); have O6 := Lib.hid ((hown6.mono (Nat.zero_le _)).fw ba6); have H6 := Lib.hid ((H3.out.fw B6.out).fw ba6); have N6 := Lib.hid (rd_new vh 34 w6 [(sa6, k + 1, sc6)] (n := 1) rfl (by omega)); have B7 := Lib.hid (bt B6.out ba6); have hb7 := Lib.hid ba6; have k6 : w6.cell? ⟨ba, ob + j, none⟩ = some (.slice ra k rc) := (cellBelow B6.out lb).trans c0; have l6 : w6.cell? ⟨bx, ox + j, none⟩ = some (.int .u8 (x : Int)) := (cellBelow B6.out lx).trans d0; have k7 : (w6.alloc (.cells #[.slice sa6 (k + 1) sc6] 34 (0, 0))).cell? ⟨ba, ob + j, none⟩ = some (.slice ra k rc) := (cellBelow B7.out lb).trans c0; have l7 : (w6.alloc (.cells #[.slice sa6 (k + 1) sc6] 34 (0, 0))).cell? ⟨bx, ox + j, none⟩ = some (.int .u8 (x : Int)) := (cellBelow B7.out lx).trans d0; clear hown6 hgr6 ba6)
            | (refine step_append_any _ (by rfl) (.tmp 60) (.tmp 65) 34 (by rfl) vb vb_one wr.heap.size 5 i0 (.int .u8 0) 1 u0 hi hz0 hz1 hz2 rfl sa5 k sc5 (mrow k (f j)) (by rfl) O5.out _ 1 1 [x] (by rfl) N5.out (by unfold maxLen; omega) (by omega) B5.out.size ?_; rw [HSN.out]; intro sa6 sc6 w6 hown6 hgr6; have B6 : Hid (Below wr.heap.size wr w6) := B5.out.grown hgr6 B5.out.size (fun x hx => own_ge O5.out hx); have ba6 := below_alloc (.cells (row vh [(sa6, k + 1, sc6)]) 34 (0, 0)) (below_refl w6); have O6 := Lib.hid ((hown6.mono (Nat.zero_le _)).fw ba6); have H6 := Lib.hid ((H3.out.fw B6.out).fw ba6); have N6 := Lib.hid (rd_new vh 34 w6 [(sa6, k + 1, sc6)] (n := 1) rfl (by omega)); have B7 := Lib.hid (bt B6.out ba6); have hb7 := Lib.hid ba6; have k6 : w6.cell? ⟨ba, ob + j, none⟩ = some (.slice ra k rc) := (cellBelow B6.out lb).trans c0; have l6 : w6.cell? ⟨bx, ox + j, none⟩ = some (.int .u8 (x : Int)) := (cellBelow B6.out lx).trans d0; have k7 : (w6.alloc (.cells #[.slice sa6 (k + 1) sc6] 34 (0, 0))).cell? ⟨ba, ob + j, none⟩ = some (.slice ra k rc) := (cellBelow B7.out lb).trans c0; have l7 : (w6.alloc (.cells #[.slice sa6 (k + 1) sc6] 34 (0, 0))).cell? ⟨bx, ox + j, none⟩ = some (.int .u8 (x : Int)) := (cellBelow B7.out lx).trans d0; clear hown6 hgr6 ba6)
            | (refine step_append_any _ (by rfl) (.tmp 54) (.tmp 67) 22 (by rfl) vh vh_one w2.heap.size 34 i1 (.slice none 0 0) 24 u1 hi1 hy0 hy1 hy2 rfl oa j oc L (by rfl) H6.out (some ⟨w6.heap.size, 0, none⟩) 1 1 [(sa6, k + 1, sc6)] (by rfl) N6.out (by unfold maxLen; omega) (by omega) (Nat.le_trans hb5.out.size B7.out.size) ?_; intro sa8 sc8 w8 hown8 hgr8; have B8 : Hid (Below w2.heap.size w2 w8) := (bt hb5.out B7.out).grown hgr8 (bt hb5.out B7.out).size (fun x hx => own_ge H6.out hx); have M8 := Lib.hid (matR_push (f := aug k f (colM v)) H6.out (fun i g hg => ((H4.out i g hg).fw B6.out).fw hb7.out) O6.out hown8 hgr8); have k8 : w8.cell? ⟨ba, ob + j, none⟩ = some (.slice ra k rc) := (cellBelow (bt HB2.out B8.out) lbw).trans C0W.out; have l8 : w8.cell? ⟨bx, ox + j, none⟩ = some (.int .u8 (x : Int)) := (cellBelow (bt HB2.out B8.out) lxw).trans D0W.out; clear hown8 hgr8))
        all_goals
          go_wp2_with fail
          go_roundw
          case rel =>
            refine ⟨j + 1, sa8, sc8, by omega, by go_num, rfl, M8.out.congr fun i c hi _ => ?_, B8.out⟩
            by_cases e : i < j
            · rw [if_pos e]
            · rw [if_neg e, show i = j by omega]
          case measure => simp [intOf]; omega
      · have hjm : j = m := by omega
        subst hjm
        have rW := hM.out.rdm
        have bw := hb5.out
        have r0 := H1.out.fw hbe.out
        have hb5x := hb5.out
        clear i0 hi hz0 hz1 hz2 i1 hi1 hy0 hy1 hy2 u0 u1 hM hb5
        obtain ⟨r1, hr1⟩ : ∃ r1, r1 = (elimE j (aug k f (colM v)) (k + 1)).piv.length := ⟨_, rfl⟩
        obtain ⟨r2, hr2⟩ : ∃ r2, r2 = (elimE j f k).piv.length := ⟨_, rfl⟩
        have hrm := rank_more j k f v
        rw [← hr1, ← hr2, ← HS.out] at hrm
        have HR1 := Lib.hid hr1; have HR2 := Lib.hid hr2
        have e3 : ((r1 : Int) != (r2 : Int)) = false := by
          have : r1 = r2 := hrm.2 HC.out
          simp; omega
        have HPV : Hid (s.piv = (elimE j f k).piv) := by show _ = _; rw [HS.out]; exact aug_len j f (colM v) k
        obtain ⟨pl, hpl⟩ : ∃ pl, pl = (elimE j f k).piv.map Int.ofNat := ⟨_, rfl⟩
        have HPL := Lib.hid hpl
        have hxx := HXX.out.fw hb5x
        have hvv := H2.out.fw hbe.out
        have tok : True := trivial
        clear hrm hr1 hr2 hpl hb5x
        go_wp2_with (first
          | (go_at_call 29; have _t := tok; refine (rank_wide _ _ _ k (aug k f (colM v)) _ (by repeat (first | assumption | apply RdM.alloc | (apply RdM.fw2; assumption))) (by omega) (by omega)).mono ?_; rw [← HR1.out]; rintro e w9 ⟨rfl, b9⟩; clear _t tok)
          | (go_at_call 29; refine (rank_ok _ _ _ k f _ (by repeat (first | assumption | apply RdM.alloc | (apply RdM.fw2; assumption))) v1).mono ?_; rw [← HR2.out]; rintro e w10 ⟨rfl, b10⟩)
          | (go_at_call 18; refine (rreduce_any _ _ _ _ f _ (by repeat (first | assumption | apply RdM.alloc | (apply RdM.fw2; assumption))) v1).mono ?_; rintro e w11 ⟨oa', oc', qa, qc, he, hM', hO', b11⟩; rw [← HR2.out] at he; subst he; rw [← HR2.out, ← HPL.out] at hO'; have p11 := hO'.rd; clear hM' hO')
          | (go_at_call 19; refine (rcols_any _ _ _ _ _ (by repeat (first | assumption | apply RdM.alloc | (apply RdM.fw2; assumption)))).mono ?_; rw [hcA]; rintro e w' ⟨rfl, rfl⟩))
        have X11' : Rd vb w11 (some ⟨gx, 0, none⟩) k k (mrow k (solV s k s.piv.length)) := (by repeat (first | assumption | apply Rd.alloc | (apply Rd.fw2; assumption)))
        have V11' : Rd vb w11 (b) j d v := (by repeat (first | assumption | apply Rd.alloc | (apply Rd.fw2; assumption)))
        have M11' : RdM w11 a j c (mlist j k f) := (by repeat (first | assumption | apply RdM.alloc | (apply RdM.fw2; assumption)))
        have B11' : Below w.heap.size w w11 := (by repeat (first | assumption | apply below_alloc | (apply bt'; assumption)))
        have X11 := Lib.hid X11'; have V11 := Lib.hid V11'; have M11 := Lib.hid M11'; have B11 := Lib.hid B11'; have P11 := Lib.hid p11
        clear X11' V11' M11' B11' p11 b9 b10 b11 rW bw r0 hxx hvv
        go_loop [11] (fun i => ∃ c' : Nat, c' ≤ k ∧ i = .int .i64 (c' : Int)) (fun i => k - (intOf i).toNat)
        case atStart => exact ⟨0, by omega, rfl⟩
        case round =>
          obtain ⟨c', hc', rfl⟩ := hrel
          by_cases hlc : c' < k
          · have j3 : (c' : Int) < (k : Int) := by omega
            by_cases hpm : c' ∈ s.piv
            · have FR : Hid (Calls Try.prog 20 #[.slice qa r2 qc, .int .i64 (c' : Int)] w11 fun e w' => e = .returned (.bool false) ∧ w11 = w') := by
                refine (free_any qa r2 qc pl (c' : Int) w11 P11.out).mono fun e w' ⟨he, hw⟩ => ⟨?_, hw⟩
                rw [he, decide_eq_true]; · rfl
                rw [HPL.out, ← HPV.out]
                exact List.mem_map.2 ⟨c', hpm, rfl⟩
              clear hpm
              go_wp2_with (go_at_call 20; with_reducible refine FR.out.mono ?_; rintro e w' ⟨rfl, rfl⟩)
              go_round
              case rel => exact ⟨c' + 1, by omega, by go_num⟩
              case measure => simp [intOf]; omega
            · have FR : Hid (Calls Try.prog 20 #[.slice qa r2 qc, .int .i64 (c' : Int)] w11 fun e w' => e = .returned (.bool true) ∧ w11 = w') := by
                refine (free_any qa r2 qc pl (c' : Int) w11 P11.out).mono fun e w' ⟨he, hw⟩ => ⟨?_, hw⟩
                rw [he, decide_eq_false]; · rfl
                rw [HPL.out, ← HPV.out]
                intro hm
                obtain ⟨t, ht, e⟩ := List.mem_map.1 hm
                have : t = c' := Int.ofNat.inj e
                exact hpm (this ▸ ht)
              obtain ⟨bq, oq, hbq, d1⟩ := X11.out.cell c' _ (mrow_get _ hlc)
              cases hbq
              rw [solV_free hpm] at d1
              have d2 : w11.cell? ⟨gx, 0 + c', none⟩ = some (.int .u8 0) := d1
              rw [Nat.zero_add] at d2
              clear hpm d1
              go_wp2_with (go_at_call 20; with_reducible refine FR.out.mono ?_; rintro e w' ⟨rfl, rfl⟩)
              go_round
              case rel => exact ⟨c' + 1, by omega, by go_num⟩
              case measure => simp [intOf]; omega
          · have hck : c' = k := by omega
            subst hck
            have hx11 := X11.out; have hv11 := V11.out; have hm11 := M11.out; have hb11 := B11.out
            have byx := mrow_byt c' (solV s c' s.piv.length)
            have hbyv := BY.out
            rcases Nat.eq_zero_or_pos c' with hz | hz
            · subst hz
              rcases Nat.eq_zero_or_pos j with hj0 | hj0
              · subst hj0
                have tok : True := trivial
                go_wp2_with (first
                  | (go_at_call 23; have _t := tok; refine (column_any _ _ _ _ _ (by repeat (first | assumption | apply Rd.alloc | (apply Rd.fw2; assumption))) byx (by omega)).mono ?_; rintro e w12 ⟨a12, c12, rfl, hM, b12⟩; have r12 : RdM w12 a12 0 c12 (mlist 0 0 f) := hM.rdm (by omega); clear hM _t tok)
                  | (go_at_call 22; refine (rprod_any _ _ _ _ _ _ 0 f f _ (by repeat (first | assumption | apply RdM.alloc | (apply RdM.fw2; assumption))) (by repeat (first | assumption | apply RdM.alloc | (apply RdM.fw2; assumption))) (by omega) (by omega) (fun _ => rfl)).mono ?_; rintro e w13 ⟨a13, c13, rfl, hM, b13⟩; have r13 : RdM w13 a13 0 c13 [] := hM.rdm (by omega); clear hM)
                  | (go_at_call 23; refine (column_any _ _ _ _ _ (by repeat (first | assumption | apply Rd.alloc | (apply Rd.fw2; assumption))) hbyv (by omega)).mono ?_; rintro e w14 ⟨a14, c14, rfl, hM, b14⟩; have r14 : RdM w14 a14 0 c14 [] := hM.rdm (by omega); clear hM)
                  | (go_at_call 21; refine (msame_eq _ _ _ _ _ _ [] [] _ (by repeat (first | assumption | apply RdM.alloc | (apply RdM.fw2; assumption))) (by repeat (first | assumption | apply RdM.alloc | (apply RdM.fw2; assumption))) (fun _ h => by cases h) rfl).mono ?_; rintro e w15 ⟨rfl, hd⟩; have b15 := hd.fw; clear hd)
                  | (go_at_call 14; refine (awake_any _).mono ?_; rintro e w16 ⟨rfl, b16⟩))
                go_ret
                exact ⟨rfl, (by repeat (first | assumption | apply below_alloc | (apply bt'; assumption)))⟩
              · have j4 : (0 : Int) < (j : Int) := by omega
                have NE : Hid (decide (mlist j 0 f = mlist j 1 (colM v)) = false) := decide_eq_false fun e => by
                  have h0 := mlist_get (k := 0) f hj0
                  rw [e, mlist_get _ hj0] at h0
                  simp [mrow] at h0
                have tok : True := trivial
                go_wp2_with (first
                  | (go_at_call 23; have _t := tok; refine (column_any _ _ _ _ _ (by repeat (first | assumption | apply Rd.alloc | (apply Rd.fw2; assumption))) byx (by omega)).mono ?_; rintro e w12 ⟨a12, c12, rfl, hM, b12⟩; have r12 : RdM w12 a12 0 c12 (mlist 0 0 f) := hM.rdm (by omega); clear hM _t tok)
                  | (go_at_call 22; refine (rprod_any _ _ _ _ _ _ 0 f f _ (by repeat (first | assumption | apply RdM.alloc | (apply RdM.fw2; assumption))) (by repeat (first | assumption | apply RdM.alloc | (apply RdM.fw2; assumption))) (by omega) (by omega) (fun _ => rfl)).mono ?_; rintro e w13 ⟨a13, c13, rfl, hM, b13⟩; have r13 : RdM w13 a13 j c13 (mlist j 0 f) := (hM.congr (g := f) fun _ _ _ h => by omega).rdm (by omega); clear hM)
                  | (go_at_call 23; refine (column_any _ _ _ _ _ (by repeat (first | assumption | apply Rd.alloc | (apply Rd.fw2; assumption))) hbyv (by omega)).mono ?_; rintro e w14 ⟨a14, c14, rfl, hM, b14⟩; have r14 := hM.rdm (by omega); clear hM)
                  | (go_at_call 21; refine (msame_any _ _ _ _ _ _ (mlist j 0 f) (mlist j 1 (colM v)) _ (by repeat (first | assumption | apply RdM.alloc | (apply RdM.fw2; assumption))) (by repeat (first | assumption | apply RdM.alloc | (apply RdM.fw2; assumption))) mlist_b mlist_b).mono ?_; rw [NE.out]; rintro e w15 ⟨rfl, hd⟩; have b15 := hd.fw; clear hd)
                  | (go_at_call 19; refine (rcols_any _ _ _ _ _ (by repeat (first | assumption | apply RdM.alloc | (apply RdM.fw2; assumption)))).mono ?_; rw [hcA]; rintro e w' ⟨rfl, rfl⟩)
                  | (go_at_call 14; refine (awake_any _).mono ?_; rintro e w16 ⟨rfl, b16⟩))
                go_ret
                exact ⟨rfl, (by repeat (first | assumption | apply below_alloc | (apply bt'; assumption)))⟩
            · have EQ : Hid (mlist j 1 (mul c' f (colM (mrow c' (solV s c' s.piv.length)))) = mlist j 1 (colM v)) := mlist_congr fun i x hi _ => by
                have := sol_solves (v := v) (k := c') (f := f) (n := j) (by rw [← HS.out]; exact HC.out) hi
                rw [← HS.out] at this
                show sum (fun t => f i t * colM (mrow c' (solV s c' s.piv.length)) t x) c' = Fq.of (v.getD i 0)
                rw [← this]
                refine Fq.sum_congr fun t ht => ?_
                unfold colM
                rw [List.getD_eq_getElem?_getD, mrow_get _ ht]
                show f i t * Fq.of (solV s c' s.piv.length t).n = _
                rw [Fq.of_val]
              have tok : True := trivial
              go_wp2_with (first
                | (go_at_call 23; have _t := tok; refine (column_any _ _ _ _ _ (by repeat (first | assumption | apply Rd.alloc | (apply Rd.fw2; assumption))) byx (by omega)).mono ?_; rintro e w12 ⟨a12, c12, rfl, hM, b12⟩; have r12 := hM.rdm (by omega); clear hM _t tok)
                | (go_at_call 22; refine (rprod_any _ _ _ _ _ _ 1 f (colM (mrow c' (solV s c' s.piv.length))) _ (by repeat (first | assumption | apply RdM.alloc | (apply RdM.fw2; assumption))) (by repeat (first | assumption | apply RdM.alloc | (apply RdM.fw2; assumption))) (by omega) (by omega) (fun e => by omega)).mono ?_; rintro e w13 ⟨a13, c13, rfl, hM, b13⟩; have r13 := hM.rdm (by omega); rw [EQ.out] at r13; clear hM)
                | (go_at_call 23; refine (column_any _ _ _ _ _ (by repeat (first | assumption | apply Rd.alloc | (apply Rd.fw2; assumption))) hbyv (by omega)).mono ?_; rintro e w14 ⟨a14, c14, rfl, hM, b14⟩; have r14 := hM.rdm (by omega); clear hM)
                | (go_at_call 21; refine (msame_eq _ _ _ _ _ _ _ _ _ (by repeat (first | assumption | apply RdM.alloc | (apply RdM.fw2; assumption))) (by repeat (first | assumption | apply RdM.alloc | (apply RdM.fw2; assumption))) mlist_b rfl).mono ?_; rintro e w15 ⟨rfl, hd⟩; have b15 := hd.fw; clear hd)
                | (go_at_call 14; refine (awake_any _).mono ?_; rintro e w16 ⟨rfl, b16⟩))
              go_ret
              exact ⟨rfl, (by repeat (first | assumption | apply below_alloc | (apply bt'; assumption)))⟩
  · have HC := Lib.hid hcon
    clear hcon
    go_enter Try.func7, Try.ntmps7
    go_wp2_with (first
      | (go_at_call 13; refine (few_any _ _ _ _ 7 _ h1).mono ?_; rw [HF]; rintro e w' ⟨rfl, rfl⟩)
      | (go_at_call 31; refine (solve_no _ _ _ _ _ _ f v s HS.out HC.out _ (by repeat (first | assumption | apply RdM.alloc | (apply RdM.fw2; assumption))) (by repeat (first | assumption | apply Rd.alloc | (apply Rd.fw2; assumption))) BY.out v1).mono ?_; rintro e w1 ⟨rfl, b1⟩)
      | (go_at_call 16; refine (rvalid_any _ _ _ _ _ (by repeat (first | assumption | apply RdM.alloc | (apply RdM.fw2; assumption)))).mono ?_; rintro e w2 ⟨rfl, hd⟩; have b2 := hd.fw; clear hd))
    have hb2' : Below w.heap.size w w2 := (by repeat (first | assumption | apply below_alloc | (apply bt'; assumption)))
    have HB2 := Lib.hid hb2'
    have M0 := Lib.hid (matR_empty w2 (k + 1) (aug k f (colM v)))
    have H1 := Lib.hid h1; have H2 := Lib.hid h2
    clear b1 b2 hb2' h1 h2
    go_loopw [7, 8] (fun r i wr => ∃ (j : Nat) (oa : Option Addr) (oc : Nat), j ≤ m ∧ i = .int .i64 (j : Int) ∧ r = .slice oa j oc ∧ Hid (MatR wr w2.heap.size oa j oc (k + 1) (aug k f (colM v))) ∧ Hid (Below w2.heap.size w2 wr)) (fun _ i _ => m - (intOf i).toNat)
    case atStart => exact ⟨0, _, 0, by omega, rfl, rfl, M0.out, below_alloc _ (below_refl w2)⟩
    case round =>
      obtain ⟨j, oa, oc, hj, rfl, rfl, hM, hb5⟩ := hrel
      have hbe := Lib.hid (bt HB2.out hb5.out)
      by_cases hlt : j < m
      · have j2 : (j : Int) < (m : Int) := by omega
        obtain ⟨rr, ra, rn, rc, ba, ob, hmr, rfl, c0w, hrow0⟩ := H1.out.row hlt
        have lbw := lt_of_cell c0w
        have c0 := (cellBelow hbe.out lbw).trans c0w
        have hrow := hrow0.fw hbe.out
        obtain rfl := mlist_row hmr
        obtain rfl : k = rn := by have := hrow.len; rwa [mrow_length] at this
        obtain ⟨x, hx⟩ : ∃ x, v[j]? = some x := ⟨_, List.getElem?_eq_getElem (by rw [H2.out.len]; omega)⟩
        obtain ⟨bx, ox, rfl, d0w⟩ := H2.out.cell j x hx
        have lxw := lt_of_cell d0w
        have d0 := (cellBelow hbe.out lxw).trans d0w
        have bx1 := BY.out x (List.mem_of_getElem? hx)
        unfold vb at d0
        have C0W := Lib.hid c0w; have D0W := Lib.hid d0w; have HROW := Lib.hid hrow
        have HSN := Lib.hid (mrow_snoc k f v hx bx1)
        obtain ⟨L, h3, h4⟩ := hM.out
        have H3 := Lib.hid h3; have H4 := Lib.hid h4
        clear hx c0w d0w hrow hrow0 hmr h3 h4 hM
        go_wp2_with fail
        have lb : ba < wr.heap.size := Nat.lt_of_lt_of_le lbw hbe.out.size
        have lx : bx < wr.heap.size := Nat.lt_of_lt_of_le lxw hbe.out.size
        have hbd : Below wr.heap.size wr wr.drew := (below_refl wr).drew
        have BA : Hid (Below wr.heap.size wr (wr.drew.alloc (.cells (row vb []) 5 (0, 0)))) := below_alloc _ hbd
        have OA := Lib.hid ((blk_new vb 5 wr.drew []).own (B := wr.heap.size) (Nat.le_refl _) (by simp [maxLen]))
        have BB2 : Hid (Below wr.heap.size wr ((wr.drew.alloc (.cells (row vb []) 5 (0, 0))).alloc (.cells (row vb [x]) 5 (0, 0)))) := below_alloc _ BA.out
        have OB := Lib.hid (OA.out.fw (below_alloc (.cells (row vb [x]) 5 (0, 0)) (below_refl _)))
        have NB := Lib.hid (rd_new1 vb 5 wr.drew (.cells (row vb []) 5 (0, 0)) [x] (n := 1) rfl (by omega))
        have BC : Hid (Below wr.heap.size wr ((wr.drew.alloc (.cells (row vb [x]) 5 (0, 0))).alloc (.cells (row vb []) 5 (0, 0)))) := below_alloc _ (below_alloc _ hbd)
        have OC : Hid (Own vb wr.heap.size 5 ((wr.drew.alloc (.cells (row vb [x]) 5 (0, 0))).alloc (.cells (row vb []) 5 (0, 0))) (some ⟨wr.heap.size + 1, 0, none⟩) 0 0 []) := by
          have := (blk_new vb 5 (wr.drew.alloc (.cells (row vb [x]) 5 (0, 0))) []).own (B := wr.heap.size) (by simp) (by simp [maxLen])
          have e : (wr.drew.alloc (.cells (row vb [x]) 5 (0, 0))).heap.size = wr.heap.size + 1 := by simp
          rw [e] at this; exact this
        have NC := Lib.hid ((rd_new vb 5 wr.drew [x] (n := 1) rfl (by omega)).alloc (.cells (row vb []) 5 (0, 0)))
        clear hbd
        go_region_held3 (fun w' => w'.cell? ⟨ba, ob + j, none⟩ = some (.slice ra k rc) ∧ w'.cell? ⟨bx, ox + j, none⟩ = some (.int .u8 (x : Int)))
          (first
            | exact ⟨c0, d0⟩
            | exact ⟨k5, l5⟩
            | exact ⟨k6, l6⟩
            | exact ⟨k7, l7⟩
            | exact ⟨k8, l8⟩
            | go_keep)
          (first
            | (refine step_append_any _ (by rfl) (.tmp 55) (.tmp 59) 34 (by rfl) vb vb_one wr.heap.size 5 i0 (.int .u8 0) 1 u0 hi hz0 hz1 hz2 rfl (some ⟨wr.heap.size, 0, none⟩) 0 0 [] (by rfl) OA.out ra k rc (mrow k (f j)) (by rfl) (HROW.out.fw BA.out) (by unfold maxLen; omega) (by omega) BA.out.size ?_; rw [Nat.zero_add, List.nil_append]; intro sa5 sc5 w5 hown5 hgr5; have B5 : Hid (Below wr.heap.size wr w5) := BA.out.grown hgr5 BA.out.size (fun x hx => by cases hx; first | exact Nat.le_refl _ | exact Nat.le_succ _); have O5 := Lib.hid hown5; have WAY : Hid (True ∧ Rd vb (w5.alloc (.cells (row vb [x]) 5 (0, 0))) (some ⟨w5.heap.size, 0, none⟩) 1 1 [x]) := ⟨trivial, rd_new vb 5 w5 [x] rfl (by omega)⟩; have k5 : w5.cell? ⟨ba, ob + j, none⟩ = some (.slice ra k rc) := (cellBelow B5.out lb).trans c0; have l5 : w5.cell? ⟨bx, ox + j, none⟩ = some (.int .u8 (x : Int)) := (cellBelow B5.out lx).trans d0; clear hown5 hgr5)
            | (refine step_append_any _ (by rfl) (.tmp 55) (.tmp 59) 34 (by rfl) vb vb_one wr.heap.size 5 i0 (.int .u8 0) 1 u0 hi hz0 hz1 hz2 rfl (some ⟨wr.heap.size, 0, none⟩) 0 0 [] (by rfl) OB.out ra k rc (mrow k (f j)) (by rfl) (HROW.out.fw BB2.out) (by unfold maxLen; omega) (by omega) BB2.out.size ?_; rw [Nat.zero_add, List.nil_append]; intro sa5 sc5 w5 hown5 hgr5; have B5 : Hid (Below wr.heap.size wr w5) := BB2.out.grown hgr5 BB2.out.size (fun x hx => by cases hx; first | exact Nat.le_refl _ | exact Nat.le_succ _); have O5 := Lib.hid hown5; have N5 : Hid (Rd vb w5 (some ⟨wr.heap.size + 1, 0, none⟩) 1 1 [x]) := NB.out.grown (b := wr.heap.size) hgr5 (fun y hy => by cases hy; exact Nat.succ_ne_self _); have k5 : w5.cell? ⟨ba, ob + j, none⟩ = some (.slice ra k rc) := (cellBelow B5.out lb).trans c0; have l5 : w5.cell? ⟨bx, ox + j, none⟩ = some (.int .u8 (x : Int)) := (cellBelow B5.out lx).trans d0; clear hown5 hgr5)
            | (refine step_append_any _ (by rfl) (.tmp 55) (.tmp 59) 34 (by rfl) vb vb_one wr.heap.size 5 i0 (.int .u8 0) 1 u0 hi hz0 hz1 hz2 rfl (some ⟨wr.heap.size + 1, 0, none⟩) 0 0 [] (by rfl) OC.out ra k rc (mrow k (f j)) (by rfl) (HROW.out.fw BC.out) (by unfold maxLen; omega) (by omega) BC.out.size ?_; rw [Nat.zero_add, List.nil_append]; intro sa5 sc5 w5 hown5 hgr5; have B5 : Hid (Below wr.heap.size wr w5) := BC.out.grown hgr5 BC.out.size (fun x hx => by cases hx; first | exact Nat.le_refl _ | exact Nat.le_succ _); have O5 := Lib.hid hown5; have N5 : Hid (Rd vb w5 (some ⟨wr.heap.size, 0, none⟩) 1 1 [x]) := NC.out.grown (b := wr.heap.size + 1) hgr5 (fun y hy => by cases hy; exact Nat.ne_of_lt (Nat.lt_succ_self _)); have k5 : w5.cell? ⟨ba, ob + j, none⟩ = some (.slice ra k rc) := (cellBelow B5.out lb).trans c0; have l5 : w5.cell? ⟨bx, ox + j, none⟩ = some (.int .u8 (x : Int)) := (cellBelow B5.out lx).trans d0; clear hown5 hgr5)
            | (refine step_append_any _ (by rfl) (.tmp 60) (.tmp 65) 34 (by rfl) vb vb_one wr.heap.size 5 i0 (.int .u8 0) 1 u0 hi hz0 hz1 hz2 rfl sa5 k sc5 (mrow k (f j)) (by rfl) (O5.out.fw (below_alloc (.cells (row vb [x]) 5 (0, 0)) (below_refl w5))) (some ⟨w5.heap.size, 0, none⟩) 1 1 [x] (by rfl) WAY.out.2 (by unfold maxLen; omega) (by omega) (bt B5.out (below_alloc (.cells (row vb [x]) 5 (0, 0)) (below_refl w5))).size ?_; rw [HSN.out]; intro sa6 sc6 w6 hown6 hgr6; have B6 : Hid (Below wr.heap.size wr w6) := (bt B5.out (below_alloc (.cells (row vb [x]) 5 (0, 0)) (below_refl w5))).grown hgr6 (bt B5.out (below_alloc (.cells (row vb [x]) 5 (0, 0)) (below_refl w5))).size (fun x hx => own_ge O5.out hx); have ba6 := below_alloc (.cells (row vh [(sa6, k + 1, sc6)]) 34 (0, 0)) (below_refl w6); have O6 := Lib.hid ((hown6.mono (Nat.zero_le _)).fw ba6); have H6 := Lib.hid ((H3.out.fw B6.out).fw ba6); have N6 := Lib.hid (rd_new vh 34 w6 [(sa6, k + 1, sc6)] (n := 1) rfl (by omega)); have B7 := Lib.hid (bt B6.out ba6); have hb7 := Lib.hid ba6; have k6 : w6.cell? ⟨ba, ob + j, none⟩ = some (.slice ra k rc) := (cellBelow B6.out lb).trans c0; have l6 : w6.cell? ⟨bx, ox + j, none⟩ = some (.int .u8 (x : Int)) := (cellBelow B6.out lx).trans d0; have k7 : (w6.alloc (.cells #[.slice sa6 (k + 1) sc6] 34 (0, 0))).cell? ⟨ba, ob + j, none⟩ = some (.slice ra k rc) := (cellBelow B7.out lb).trans c0; have l7 : (w6.alloc (.cells #[.slice sa6 (k + 1) sc6] 34 (0, 0))).cell? ⟨bx, ox + j, none⟩ = some (.int .u8 (x : Int)) := (cellBelow B7.out lx).trans d0; clear hown6 hgr6 ba6)
            | (refine step_append_any _ (by rfl) (.tmp 60) (.tmp 65) 34 (by rfl) vb vb_one wr.heap.size 5 i0 (.int .u8 0) 1 u0 hi hz0 hz1 hz2 rfl sa5 k sc5 (mrow k (f j)) (by rfl) O5.out _ 1 1 [x] (by rfl) N5.out (by unfold maxLen; omega) (by omega) B5.out.size ?_; rw [HSN.out]; intro sa6 sc6 w6 hown6 hgr6; have B6 : Hid (Below wr.heap.size wr w6) := B5.out.grown hgr6 B5.out.size (fun x hx => own_ge O5.out hx); have ba6 := below_alloc (.cells (row vh [(sa6, k + 1, sc6)]) 34 (0, 0)) (below_refl w6); have O6 := Lib.hid ((hown6.mono (Nat.zero_le _)).fw ba6); have H6 := Lib.hid ((H3.out.fw B6.out).fw ba6); have N6 := Lib.hid (rd_new vh 34 w6 [(sa6, k + 1, sc6)] (n := 1) rfl (by omega)); have B7 := Lib.hid (bt B6.out ba6); have hb7 := Lib.hid ba6; have k6 : w6.cell? ⟨ba, ob + j, none⟩ = some (.slice ra k rc) := (cellBelow B6.out lb).trans c0; have l6 : w6.cell? ⟨bx, ox + j, none⟩ = some (.int .u8 (x : Int)) := (cellBelow B6.out lx).trans d0; have k7 : (w6.alloc (.cells #[.slice sa6 (k + 1) sc6] 34 (0, 0))).cell? ⟨ba, ob + j, none⟩ = some (.slice ra k rc) := (cellBelow B7.out lb).trans c0; have l7 : (w6.alloc (.cells #[.slice sa6 (k + 1) sc6] 34 (0, 0))).cell? ⟨bx, ox + j, none⟩ = some (.int .u8 (x : Int)) := (cellBelow B7.out lx).trans d0; clear hown6 hgr6 ba6)
            | (refine step_append_any _ (by rfl) (.tmp 54) (.tmp 67) 22 (by rfl) vh vh_one w2.heap.size 34 i1 (.slice none 0 0) 24 u1 hi1 hy0 hy1 hy2 rfl oa j oc L (by rfl) H6.out (some ⟨w6.heap.size, 0, none⟩) 1 1 [(sa6, k + 1, sc6)] (by rfl) N6.out (by unfold maxLen; omega) (by omega) (Nat.le_trans hb5.out.size B7.out.size) ?_; intro sa8 sc8 w8 hown8 hgr8; have B8 : Hid (Below w2.heap.size w2 w8) := (bt hb5.out B7.out).grown hgr8 (bt hb5.out B7.out).size (fun x hx => own_ge H6.out hx); have M8 := Lib.hid (matR_push (f := aug k f (colM v)) H6.out (fun i g hg => ((H4.out i g hg).fw B6.out).fw hb7.out) O6.out hown8 hgr8); have k8 : w8.cell? ⟨ba, ob + j, none⟩ = some (.slice ra k rc) := (cellBelow (bt HB2.out B8.out) lbw).trans C0W.out; have l8 : w8.cell? ⟨bx, ox + j, none⟩ = some (.int .u8 (x : Int)) := (cellBelow (bt HB2.out B8.out) lxw).trans D0W.out; clear hown8 hgr8))
        all_goals
          go_wp2_with fail
          go_roundw
          case rel =>
            refine ⟨j + 1, sa8, sc8, by omega, by go_num, rfl, M8.out.congr fun i c hi _ => ?_, B8.out⟩
            by_cases e : i < j
            · rw [if_pos e]
            · rw [if_neg e, show i = j by omega]
          case measure => simp [intOf]; omega
      · have hjm : j = m := by omega
        subst hjm
        have rW := hM.out.rdm
        have bw := hb5.out
        have r0 := H1.out.fw hbe.out
        clear i0 hi hz0 hz1 hz2 i1 hi1 hy0 hy1 hy2 u0 u1 hM hb5
        obtain ⟨r1, hr1⟩ : ∃ r1, r1 = (elimE j (aug k f (colM v)) (k + 1)).piv.length := ⟨_, rfl⟩
        obtain ⟨r2, hr2⟩ : ∃ r2, r2 = (elimE j f k).piv.length := ⟨_, rfl⟩
        have hrm := rank_more j k f v
        rw [← hr1, ← hr2, ← HS.out] at hrm
        have HR1 := Lib.hid hr1; have HR2 := Lib.hid hr2
        have e3 : ((r1 : Int) != (r2 : Int)) = true := by
          have : r1 ≠ r2 := fun e => HC.out (hrm.1 e)
          simp; omega
        have hfin := HB2.out
        have tok : True := trivial
        clear hrm hr1 hr2 hbe HB2
        go_wp2_with (first
          | (go_at_call 29; have _t := tok; refine (rank_wide _ _ _ k (aug k f (colM v)) _ (by repeat (first | assumption | apply RdM.alloc | (apply RdM.fw2; assumption))) (by omega) (by omega)).mono ?_; rw [← HR1.out]; rintro e w9 ⟨rfl, b9⟩; clear _t tok)
          | (go_at_call 29; refine (rank_ok _ _ _ k f _ (by repeat (first | assumption | apply RdM.alloc | (apply RdM.fw2; assumption))) v1).mono ?_; rw [← HR2.out]; rintro e w10 ⟨rfl, b10⟩)
          | (go_at_call 14; refine (awake_any _).mono ?_; rintro e w11 ⟨rfl, b11⟩))
        go_ret
        exact ⟨rfl, (by repeat (first | assumption | apply below_alloc | (apply bt'; assumption)))⟩
end Go.Proofs.Ytchhfpaicdhjbaa
