/- matrix.Transpose, Apply, Rows. -/
import Derived.Test.YtioiaiifkfopnaaMl
namespace Go.Kin
open Go.RowKit
/-- make([]T, 0, n), for elements of one cell. -/
theorem wpList_make_cap {α : Type} {P : Program} {w : World} {ops : Array Oper} {rest : List Oper} {o : Oper} {a : Act} {Q : Exit → Act → World → Prop}
    (hg : o.guard = none) (x y : Operand) (t : TypeId) (hop : o.op = Op.makeSlice t x y) (f : α → Value) (z : α) (e : TypeId) (i : TypeInfo)
    (h1 : P.underlying t = some (.slice e)) (h2 : P.info? e = some i) (h3 : i.zero = some (f z)) (h4 : i.size = 1) (hz : (f z).cells = #[f z])
    (kl kc : IntKind) (L C : Int) (n : Nat) (hl : a.eval x = .int kl L) (hc : a.eval y = .int kc C) (hL : L = 0) (hC : C = (n : Int)) (b2 : i.bytes * n ≤ 281474976710656) (b3 : n ≤ 9223372036854775807)
    (hK : ∀ w', Own f w.heap.size e w' (some ⟨w.heap.size, 0, none⟩) 0 n [] → Below w.heap.size w w' → w'.heap.size = w.heap.size + 1 → wpList P ops Q rest (a.put o.dst (.slice (some ⟨w.heap.size, 0, none⟩) 0 n)) w') :
    wpList P ops Q (o :: rest) a w := by
  refine wpList_plain hg fun K hK' => ?_
  have hb' : (i.bytes : Int) * (n : Int) ≤ 281474976710656 := by
    have h : ((i.bytes * n : Nat) : Int) ≤ 281474976710656 := by omega
    rwa [Int.natCast_mul] at h
  have hrun := run_make (P := P) w t e i (f z) h1 h2 h3 kl kc 0 (n : Int) (by omega) (by omega) hb' (by omega)
  rw [h4, Int.toNat_natCast, made_row f z hz n] at hrun
  subst hL
  subst hC
  unfold Oper.wp
  simp [execOp, hop, hl, hc, hrun, Result.andThen]
  have hB : Blk f e (w.alloc (.cells (row f (List.replicate n z)) e (0, 0))) w.heap.size (List.replicate n z) := heap_alloc_new w _
  refine hK' _ _ (hK _ ⟨rfl, .inr ⟨w.heap.size, row f (List.replicate n z), rfl, Nat.le_refl _, hB, Nat.zero_le _, by unfold maxLen; omega, by rw [row_size, List.length_replicate], by simp⟩⟩ ((Below.refl _ _).alloc (Nat.le_refl _) _) (by simp))
end Go.Kin
namespace Go.Proofs.Ytioiaiifkfopnaa
open Go.RowKit Go.Kin Mat
open Fq (sum)
set_option maxRecDepth 100000
set_option linter.unusedVariables false

def EvenL (B : List (List Nat)) : Prop := ∀ m ∈ B, m.length = colsL B
def ApOk (A B : List (List Nat)) : Prop := ValidL A ∧ B.length = colsL A ∧ EvenL B

set_option maxHeartbeats 1000000 in
theorem apply_bad (a b : Option Addr) (n m c d : Nat) (A B : List (List Nat)) (w : World) (h1 : RdM w a n c A) (h2 : RdM w b m d B) (hv : ¬ ApOk A B) :
    Calls Try.prog 17 #[.slice a n c, .slice b m d] w fun e w' => e = .returned (.tuple #[.slice none 0 0, .int .i64 1]) ∧ w = w' := by
  have hl := h2.len
  have hlim := h2.lim
  have H1 := Lib.hid h1; have H2 := Lib.hid h2
  clear h1 h2
  by_cases hA : ValidL A
  · have dA := decide_eq_true hA
    by_cases hc : B.length = colsL A
    · have hev : ¬ EvenL B := fun h => hv ⟨hA, hc, h⟩
      have HEV := Lib.hid hev
      have e1 : (((m : Nat) : Int) != ((colsL A : Nat) : Int)) = false := by simp; omega
      obtain ⟨k, HK⟩ : ∃ k, Hid (colsL B = k) := ⟨_, rfl⟩
      have HL := Lib.hid hl
      clear hev hv hc hl
      go_enter Try.func17, Try.ntmps17
      go_wp2_with (first
        | (go_at_call 36; refine (valid_any _ _ _ _ _ H1.out).mono ?_; rw [dA]; rintro e w' ⟨rfl, rfl⟩)
        | (go_at_call 37; refine (columns_any _ _ _ _ _ H1.out).mono ?_; rintro e w' ⟨rfl, rfl⟩))
      go_loop [7, 20] (fun _ i => ∃ j : Nat, j ≤ m ∧ i = .int .i64 (j : Int) ∧ Hid (∀ (t : Nat) (x : List Nat), t < j → B[t]? = some x → x.length = k)) (fun _ i => m - (intOf i).toNat)
      case atStart => exact ⟨0, by omega, rfl, fun t x ht => by omega⟩
      case round =>
        obtain ⟨j, hj, rfl, hv⟩ := hrel
        by_cases hlt : j < m
        · obtain ⟨m0, ra0, rn0, rc0, b0, o, hm0, rfl, c0, hr0⟩ := H2.out.row (i := 0) (by omega)
          obtain ⟨m1, ra, rn, rc, b2, o2, hm, e2, c1, hr⟩ := H2.out.row (i := j) hlt
          cases e2
          have hk0 : rn0 = k := by rw [← HK.out, colsL_get hm0, hr0.len]
          subst hk0
          rw [Nat.add_zero] at c0
          have i1 : (j : Int) < (m : Int) := by omega
          have i2 : (0 : Int) < (m : Int) := by omega
          have hrn := hr.len
          by_cases he : rn = rn0
          · have e1 : (((rn : Nat) : Int) != ((rn0 : Nat) : Int)) = false := by simp; omega
            have hv2 : Hid (∀ (t : Nat) (m : List Nat), t < j + 1 → B[t]? = some m → m.length = rn0) := by
              intro t m' ht hm'
              by_cases e : t = j
              · subst e; rw [hm] at hm'; cases hm'; omega
              · exact hv.out t m' (by omega) hm'
            subst he
            clear hm0 hr0 hm hr hrn
            go_wp2
            go_round
            case rel => exact ⟨j + 1, by omega, by go_num, hv2⟩
            case measure => simp [intOf]; omega
          · have e1 : (((rn : Nat) : Int) != ((rn0 : Nat) : Int)) = true := by simp; omega
            clear hm0 hr0 hm hr he hrn
            go_wp2
            go_ret2
            exact ⟨rfl, rfl⟩
        · exfalso
          refine HEV.out fun x hx => ?_
          obtain ⟨t, ht⟩ := List.mem_iff_getElem?.1 hx
          rw [HK.out]
          exact hv.out t x (by have := (List.getElem?_eq_some_iff.1 ht).1; have := HL.out; omega) ht
    · have e1 : (((m : Nat) : Int) != ((colsL A : Nat) : Int)) = true := by simp; omega
      go_enter Try.func17, Try.ntmps17
      go_wp2_with (first
        | (go_at_call 36; refine (valid_any _ _ _ _ _ H1.out).mono ?_; rw [dA]; rintro e w' ⟨rfl, rfl⟩)
        | (go_at_call 37; refine (columns_any _ _ _ _ _ H1.out).mono ?_; rintro e w' ⟨rfl, rfl⟩))
      go_ret2
      exact ⟨rfl, rfl⟩
  · have dA := decide_eq_false hA
    go_enter Try.func17, Try.ntmps17
    go_wp2_with (go_at_call 36; refine (valid_any _ _ _ _ _ H1.out).mono ?_; rw [dA]; rintro e w' ⟨rfl, rfl⟩)
    go_ret2
    exact ⟨rfl, rfl⟩

set_option maxHeartbeats 1000000 in
theorem apply_ok (a b : Option Addr) (n c q d L : Nat) (f g : Mat) (w : World) (h1 : RdM w a n c (mlist n q f)) (h2 : RdM w b q d (mlist q L g)) (v1 : VM n q) (hL : L ≤ 1000) (hz : q = 0 → L = 0) :
    Calls Try.prog 17 #[.slice a n c, .slice b q d] w fun e w' => ∃ o, e = .returned (.tuple #[.slice (some ⟨o, 0, none⟩) n n, .int .i64 0]) ∧ MatR w' w.heap.size (some ⟨o, 0, none⟩) n n L (mul q f g) ∧ Below w.heap.size w w' := by
  have dA := decide_eq_true (v1.valid f)
  have cA := v1.cols f
  have cB : colsL (mlist q L g) = L := by
    rcases Nat.eq_zero_or_pos q with e | e
    · rw [e, colsL_zero, hz e]
    · exact colsL_mlist g e
  have e1 : ((q : Int) != (q : Int)) = false := by simp
  have x1 := v1.hn; have x2 := v1.hk
  have H1 := Lib.hid h1; have H2 := Lib.hid h2
  clear h1 h2 hz
  go_enter Try.func17, Try.ntmps17
  go_wp2_with (first
    | (go_at_call 36; refine (valid_any _ _ _ _ _ H1.out).mono ?_; rw [dA]; rintro e w' ⟨rfl, rfl⟩)
    | (go_at_call 37; refine (columns_any _ _ _ _ _ H1.out).mono ?_; rw [cA]; rintro e w' ⟨rfl, rfl⟩))
  go_loop [7, 20] (fun _ i => ∃ j : Nat, j ≤ q ∧ i = .int .i64 (j : Int)) (fun _ i => q - (intOf i).toNat)
  case atStart => exact ⟨0, by omega, rfl⟩
  case round =>
    obtain ⟨j, hj, rfl⟩ := hrel
    by_cases hlt : j < q
    · obtain ⟨m0, ra0, rn0, rc0, b0, o, hm0, rfl, c0, hr0⟩ := H2.out.row (i := 0) (by omega)
      obtain ⟨m1, ra, rn, rc, b2, o2, hm, e2, c1, hr⟩ := H2.out.row (i := j) hlt
      cases e2
      obtain rfl := mlist_row hm0
      obtain rfl := mlist_row hm
      obtain rfl : L = rn0 := by have := hr0.len; rwa [mrow_length] at this
      obtain rfl : L = rn := by have := hr.len; rwa [mrow_length] at this
      rw [Nat.add_zero] at c0
      have i1 : (j : Int) < (q : Int) := by omega
      have i2 : (0 : Int) < (q : Int) := by omega
      have e3 : (((L : Nat) : Int) != ((L : Nat) : Int)) = false := by simp
      clear hm0 hr0 hm hr
      go_wp2
      go_round
      case rel => exact ⟨j + 1, by omega, by go_num⟩
      case measure => simp [intOf]; omega
    · have hjq : j = q := by omega
      subst hjq
      go_wp2_with (first
        | (go_at_call 37; refine (columns_any _ _ _ _ _ H2.out).mono ?_; rw [cB]; rintro e w' ⟨rfl, rfl⟩)
        | (go_at_call 39; refine (combine_any _ _ _ _ _ _ _ f g _ H1.out H2.out (by omega) (by omega) (by omega)).mono ?_; rintro e w' ⟨o, rfl, hM, hb⟩))
      go_ret2
      exact ⟨o, rfl, hM, hb⟩
end Go.Proofs.Ytioiaiifkfopnaa
