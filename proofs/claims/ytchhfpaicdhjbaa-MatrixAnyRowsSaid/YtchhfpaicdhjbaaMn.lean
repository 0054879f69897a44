/- matrix.Transpose, Apply, Rows. -/
import Derived.Test.YtchhfpaicdhjbaaMl
namespace Go.Kin
open Go.RowKit
/-- make([]T, 0, n), for elements of one cell. -/
theorem wpList_make_cap {α : Type} {P : Program} {w : World} {ops : Array Oper} {rest : List Oper} {o : Oper} {a : Act} {Q : Exit → Act → World → Prop}
    (hg : o.guard = none) (x y : Operand) (t : TypeId) (hop : o.op = Op.makeSlice t x y) (f : α → Value) (z : α) (e : TypeId) (i : TypeInfo)
    (h1 : P.underlying t = some (.slice e)) (h2 : P.info? e = some i) (h3 : i.zero = some (f z)) (h4 : i.size = 1) (hz : (f z).cells = #[f z])
    (kl kc : IntKind) (L C : Int) (n : Nat) (hl : a.eval x = .int kl L) (hc : a.eval y = .int kc C) (hL : L = 0) (hC : C = (n : Int)) (b2 : i.bytes * n ≤ 281474976710656) (b3 : n ≤ 9223372036854775807)
    (hK : ∀ w', Own f w.heap.size e w' (some ⟨w.heap.size, 0, none⟩) 0 n [] → Below w.heap.size w w' → w'.heap.size = w.heap.size + 1 → wpList P ops Q rest (a.put o.dst (.slice (some ⟨w.heap.size, 0, none⟩) 0 n)) w') :
    wpList P ops Q (o :: rest) a w := by
  refine wpList_plain hg fun K hK' => ?_
  have hb' : (i.bytes : Int) * (n : Int) ≤ 281474976710656 := by
    have h : ((i.bytes * n : Nat) : Int) ≤ 281474976710656 := by omega
    rwa [Int.natCast_mul] at h
  have hrun := run_make (P := P) w t e i (f z) h1 h2 h3 kl kc 0 (n : Int) (by omega) (by omega) hb' (by omega)
  rw [h4, Int.toNat_natCast, made_row f z hz n] at hrun
  subst hL
  subst hC
  unfold Oper.wp
  simp [execOp, hop, hl, hc, hrun, Result.andThen]
  have hB : Blk f e (w.alloc (.cells (row f (List.replicate n z)) e (0, 0))) w.heap.size (List.replicate n z) := heap_alloc_new w _
  refine hK' _ _ (hK _ ⟨rfl, .inr ⟨w.heap.size, row f (List.replicate n z), rfl, Nat.le_refl _, hB, Nat.zero_le _, by unfold maxLen; omega, by rw [row_size, List.length_replicate], by simp⟩⟩ ((Below.refl _ _).alloc (Nat.le_refl _) _) (by simp))
end Go.Kin
namespace Go.Proofs.Ytchhfpaicdhjbaa
open Go.RowKit Go.Kin Mat
open Fq (sum)
set_option maxRecDepth 100000
set_option linter.unusedVariables false

theorem transp_bad (a : Option Addr) (n c : Nat) (M : List (List Nat)) (w : World) (h : RdM w a n c M) (hv : ¬ ValidL M) :
    Calls Try.prog 38 #[.slice a n c] w fun e w' => e = .returned (.tuple #[.slice none 0 0, .int .i64 1]) ∧ w = w' := by
  have hd := decide_eq_false hv
  go_enter Try.func38, Try.ntmps38
  go_wp2_with (go_at_call 15; refine (valid_any _ _ _ _ _ h).mono ?_; rw [hd]; rintro e w' ⟨rfl, rfl⟩)
  go_ret2
  exact ⟨rfl, rfl⟩

set_option maxHeartbeats 1000000 in
theorem transp_any (a : Option Addr) (n c k : Nat) (f : Mat) (w : World) (h : RdM w a n c (mlist n k f)) (hv : VM n k) :
    Calls Try.prog 38 #[.slice a n c] w fun e w' => ∃ o, e = .returned (.tuple #[.slice (some ⟨o, 0, none⟩) k k, .int .i64 0]) ∧ MatB w' w.heap.size (some ⟨o, 0, none⟩) k k n (tr f) ∧ Below w.heap.size w w' := by
  have hd := decide_eq_true (hv.valid f)
  have hC := hv.cols f
  have h1 := hv.hn
  have h2 := hv.hk
  have H := Lib.hid h
  clear h hv
  go_enter Try.func38, Try.ntmps38
  go_wp2_with (first
    | (go_at_call 15; refine (valid_any _ _ _ _ _ H.out).mono ?_; rw [hd]; rintro e w' ⟨rfl, rfl⟩)
    | (go_at_call 45; refine (columns_any _ _ _ _ _ H.out).mono ?_; rw [hC]; rintro e w' ⟨rfl, rfl⟩)
    | (go_at_call 50; refine (zeros_any k n _ (by omega) (by omega)).mono ?_; rintro e w1 ⟨o, rfl, hM1, hb1⟩; have HM1 := Lib.hid hM1; have HB1 := Lib.hid hb1; clear hM1 hb1))
  go_loopw [5, 6, 7, 8, 19] (fun _ _ _ _ i wr => ∃ j : Nat, j ≤ n ∧ i = .int .i64 (j : Int) ∧ Hid (MatB wr w.heap.size (some ⟨o, 0, none⟩) k k n (tr (grid f j 0))) ∧ Hid (Below w.heap.size w wr)) (fun _ _ _ _ i _ => n - (intOf i).toNat)
  case atStart => exact ⟨0, by omega, rfl, HM1.out.congr fun a b _ _ => by unfold tr; rw [grid_zero], HB1.out⟩
  case round =>
    obtain ⟨j, hj, rfl, hM, hbe⟩ := hrel
    by_cases hlt : j < n
    · have i2 : (j : Int) < (n : Int) := by omega
      obtain ⟨m, ra, rn, rc, ba, ob, hm, rfl, c0, hrow⟩ := H.out.row hlt
      have c00 := (cellBelow hbe.out (lt_of_cell c0)).trans c0
      obtain rfl := mlist_row hm
      obtain rfl : k = rn := by have := hrow.len; rwa [mrow_length] at this
      have HROW := Lib.hid hrow
      clear hm hrow c0
      go_wp2_with fail
      go_loopw [7, 8, 26] (fun _ _ i wr => ∃ c : Nat, c ≤ k ∧ i = .int .i64 (c : Int) ∧ Hid (MatB wr w.heap.size (some ⟨o, 0, none⟩) k k n (tr (grid f j c))) ∧ Hid (Below w.heap.size w wr)) (fun _ _ i _ => k - (intOf i).toNat)
      case atStart => exact ⟨0, by omega, rfl, hM.out, hbe.out⟩
      case round =>
        obtain ⟨c, hc, rfl, hM2, hbe2⟩ := hrel
        by_cases hlc : c < k
        · have i3 : (c : Int) < (k : Int) := by omega
          obtain ⟨bx, ox, rfl, d1⟩ := (HROW.out.fw hbe2.out).cell c _ (mrow_get _ hlc)
          obtain ⟨x, hx⟩ : ∃ x, x = (f j c).n := ⟨_, rfl⟩
          have x1 : x < 256 := by rw [hx]; exact (f j c).h
          have HX : Hid (Fq.of x = f j c) := by show _ = _; rw [hx, Fq.of_val]
          rw [← hx] at d1
          unfold vb at d1
          obtain ⟨o', g, ho', hBo, hBg, c1, hK, hset⟩ := hM2.out.at hlc
          cases ho'
          obtain ⟨z, c2⟩ : ∃ z, wr.cell? ⟨g, j, none⟩ = some z := ⟨_, hK.cell (mrow_get _ hlt)⟩
          have f2 := hK.frozen j
          have HS := Lib.hid (hset j x x1)
          clear hK hset hx
          go_wp2_with fail
          go_roundw
          case rel =>
            refine ⟨c + 1, by omega, by go_num, HS.out.congr fun a b _ _ => ?_, hbe2.out.setCell (p := ⟨g, j, none⟩) hBg _⟩
            rw [HX.out, setEl_tr]
            unfold tr
            rw [grid_step]
          case measure => simp [intOf]; omega
        · have hck : c = k := by omega
          subst hck
          go_wp2_with fail
          go_roundw
          case rel => exact ⟨j + 1, by omega, by go_num, hM2.out.congr fun a b ha hb => grid_row _ _ _ _ _ ha, hbe2.out⟩
          case measure => simp [intOf]; omega
    · have hjr : j = n := by omega
      subst hjr
      go_wp2_with fail
      go_ret2
      exact ⟨o, rfl, hM.out.congr fun a b _ hb => grid_done _ _ _ _ hb, hbe.out⟩

def EvenL (B : List (List Nat)) : Prop := ∀ m ∈ B, m.length = colsL B
def ApOk (A B : List (List Nat)) : Prop := ValidL A ∧ B.length = colsL A ∧ EvenL B

set_option maxHeartbeats 1000000 in
theorem apply_bad (a b : Option Addr) (n m c d : Nat) (A B : List (List Nat)) (w : World) (h1 : RdM w a n c A) (h2 : RdM w b m d B) (hv : ¬ ApOk A B) :
    Calls Try.prog 26 #[.slice a n c, .slice b m d] w fun e w' => e = .returned (.tuple #[.slice none 0 0, .int .i64 1]) ∧ w = w' := by
  have hl := h2.len
  have hlim := h2.lim
  have H1 := Lib.hid h1; have H2 := Lib.hid h2
  clear h1 h2
  by_cases hA : ValidL A
  · have dA := decide_eq_true hA
    by_cases hc : B.length = colsL A
    · have hev : ¬ EvenL B := fun h => hv ⟨hA, hc, h⟩
      have HEV := Lib.hid hev
      have e1 : (((m : Nat) : Int) != ((colsL A : Nat) : Int)) = false := by simp; omega
      obtain ⟨k, HK⟩ : ∃ k, Hid (colsL B = k) := ⟨_, rfl⟩
      have HL := Lib.hid hl
      clear hev hv hc hl
      go_enter Try.func26, Try.ntmps26
      go_wp2_with (first
        | (go_at_call 15; refine (valid_any _ _ _ _ _ H1.out).mono ?_; rw [dA]; rintro e w' ⟨rfl, rfl⟩)
        | (go_at_call 45; refine (columns_any _ _ _ _ _ H1.out).mono ?_; rintro e w' ⟨rfl, rfl⟩))
      go_loop [7, 20] (fun _ i => ∃ j : Nat, j ≤ m ∧ i = .int .i64 (j : Int) ∧ Hid (∀ (t : Nat) (x : List Nat), t < j → B[t]? = some x → x.length = k)) (fun _ i => m - (intOf i).toNat)
      case atStart => exact ⟨0, by omega, rfl, fun t x ht => by omega⟩
      case round =>
        obtain ⟨j, hj, rfl, hv⟩ := hrel
        by_cases hlt : j < m
        · obtain ⟨m0, ra0, rn0, rc0, b0, o, hm0, rfl, c0, hr0⟩ := H2.out.row (i := 0) (by omega)
          obtain ⟨m1, ra, rn, rc, b2, o2, hm, e2, c1, hr⟩ := H2.out.row (i := j) hlt
          cases e2
          have hk0 : rn0 = k := by rw [← HK.out, colsL_get hm0, hr0.len]
          subst hk0
          rw [Nat.add_zero] at c0
          have i1 : (j : Int) < (m : Int) := by omega
          have i2 : (0 : Int) < (m : Int) := by omega
          have hrn := hr.len
          by_cases he : rn = rn0
          · have e1 : (((rn : Nat) : Int) != ((rn0 : Nat) : Int)) = false := by simp; omega
            have hv2 : Hid (∀ (t : Nat) (m : List Nat), t < j + 1 → B[t]? = some m → m.length = rn0) := by
              intro t m' ht hm'
              by_cases e : t = j
              · subst e; rw [hm] at hm'; cases hm'; omega
              · exact hv.out t m' (by omega) hm'
            subst he
            clear hm0 hr0 hm hr hrn
            go_wp2
            go_round
            case rel => exact ⟨j + 1, by omega, by go_num, hv2⟩
            case measure => simp [intOf]; omega
          · have e1 : (((rn : Nat) : Int) != ((rn0 : Nat) : Int)) = true := by simp; omega
            clear hm0 hr0 hm hr he hrn
            go_wp2
            go_ret2
            exact ⟨rfl, rfl⟩
        · exfalso
          refine HEV.out fun x hx => ?_
          obtain ⟨t, ht⟩ := List.mem_iff_getElem?.1 hx
          rw [HK.out]
          exact hv.out t x (by have := (List.getElem?_eq_some_iff.1 ht).1; have := HL.out; omega) ht
    · have e1 : (((m : Nat) : Int) != ((colsL A : Nat) : Int)) = true := by simp; omega
      go_enter Try.func26, Try.ntmps26
      go_wp2_with (first
        | (go_at_call 15; refine (valid_any _ _ _ _ _ H1.out).mono ?_; rw [dA]; rintro e w' ⟨rfl, rfl⟩)
        | (go_at_call 45; refine (columns_any _ _ _ _ _ H1.out).mono ?_; rintro e w' ⟨rfl, rfl⟩))
      go_ret2
      exact ⟨rfl, rfl⟩
  · have dA := decide_eq_false hA
    go_enter Try.func26, Try.ntmps26
    go_wp2_with (go_at_call 15; refine (valid_any _ _ _ _ _ H1.out).mono ?_; rw [dA]; rintro e w' ⟨rfl, rfl⟩)
    go_ret2
    exact ⟨rfl, rfl⟩

set_option maxHeartbeats 1000000 in
theorem apply_ok (a b : Option Addr) (n c q d L : Nat) (f g : Mat) (w : World) (h1 : RdM w a n c (mlist n q f)) (h2 : RdM w b q d (mlist q L g)) (v1 : VM n q) (hL : L ≤ 1000) (hz : q = 0 → L = 0) :
    Calls Try.prog 26 #[.slice a n c, .slice b q d] w fun e w' => ∃ o, e = .returned (.tuple #[.slice (some ⟨o, 0, none⟩) n n, .int .i64 0]) ∧ MatR w' w.heap.size (some ⟨o, 0, none⟩) n n L (mul q f g) ∧ Below w.heap.size w w' := by
  have dA := decide_eq_true (v1.valid f)
  have cA := v1.cols f
  have cB : colsL (mlist q L g) = L := by
    rcases Nat.eq_zero_or_pos q with e | e
    · rw [e, colsL_zero, hz e]
    · exact colsL_mlist g e
  have e1 : ((q : Int) != (q : Int)) = false := by simp
  have x1 := v1.hn; have x2 := v1.hk
  have H1 := Lib.hid h1; have H2 := Lib.hid h2
  clear h1 h2 hz
  go_enter Try.func26, Try.ntmps26
  go_wp2_with (first
    | (go_at_call 15; refine (valid_any _ _ _ _ _ H1.out).mono ?_; rw [dA]; rintro e w' ⟨rfl, rfl⟩)
    | (go_at_call 45; refine (columns_any _ _ _ _ _ H1.out).mono ?_; rw [cA]; rintro e w' ⟨rfl, rfl⟩))
  go_loop [7, 20] (fun _ i => ∃ j : Nat, j ≤ q ∧ i = .int .i64 (j : Int)) (fun _ i => q - (intOf i).toNat)
  case atStart => exact ⟨0, by omega, rfl⟩
  case round =>
    obtain ⟨j, hj, rfl⟩ := hrel
    by_cases hlt : j < q
    · obtain ⟨m0, ra0, rn0, rc0, b0, o, hm0, rfl, c0, hr0⟩ := H2.out.row (i := 0) (by omega)
      obtain ⟨m1, ra, rn, rc, b2, o2, hm, e2, c1, hr⟩ := H2.out.row (i := j) hlt
      cases e2
      obtain rfl := mlist_row hm0
      obtain rfl := mlist_row hm
      obtain rfl : L = rn0 := by have := hr0.len; rwa [mrow_length] at this
      obtain rfl : L = rn := by have := hr.len; rwa [mrow_length] at this
      rw [Nat.add_zero] at c0
      have i1 : (j : Int) < (q : Int) := by omega
      have i2 : (0 : Int) < (q : Int) := by omega
      have e3 : (((L : Nat) : Int) != ((L : Nat) : Int)) = false := by simp
      clear hm0 hr0 hm hr
      go_wp2
      go_round
      case rel => exact ⟨j + 1, by omega, by go_num⟩
      case measure => simp [intOf]; omega
    · have hjq : j = q := by omega
      subst hjq
      go_wp2_with (first
        | (go_at_call 45; refine (columns_any _ _ _ _ _ H2.out).mono ?_; rw [cB]; rintro e w' ⟨rfl, rfl⟩)
        | (go_at_call 48; refine (combine_any _ _ _ _ _ _ _ f g _ H1.out H2.out (by omega) (by omega) (by omega)).mono ?_; rintro e w' ⟨o, rfl, hM, hb⟩))
      go_ret2
      exact ⟨o, rfl, hM, hb⟩
end Go.Proofs.Ytchhfpaicdhjbaa
