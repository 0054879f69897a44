/- The reference's Clone; tables that grow row by row. -/
import Derived.Test.YtpecepfnmkpmmaaQs
import Derived.Test.YtpecepfnmkpmmaaQf
namespace Go.Proofs.Ytpecepfnmkpmmaa
open Go.RowKit Go.Kin Quo
set_option maxRecDepth 100000
set_option linter.unusedVariables false
/-- A table of the call's own with its headers named, all rows in blocks below U. -/
def OwnTL (w : World) (B U : Nat) (a : Option Addr) (n c : Nat) (L : List (Option Addr × Nat × Nat)) (T : Tab) : Prop :=
  Own vh B 26 w a n c L ∧ T.length = n ∧ Scat L ∧ (∀ (i : Nat) (h : Option Addr × Nat × Nat) (m : List Int), L[i]? = some h → T[i]? = some m → Own vi B 3 w h.1 h.2.1 h.2.2 m) ∧ ∀ (i : Nat) (h : Option Addr × Nat × Nat), L[i]? = some h → ∀ x, h.1 = some x → x.block < U
theorem OwnTL.ownT {w : World} {B U : Nat} {a : Option Addr} {n c : Nat} {L : List (Option Addr × Nat × Nat)} {T : Tab} (h : OwnTL w B U a n c L T) : OwnT w B a n c T := ⟨L, h.1, h.2.1, h.2.2.1, h.2.2.2.1⟩
theorem OwnTL.fw {w w' : World} {B U : Nat} {a : Option Addr} {n c : Nat} {L : List (Option Addr × Nat × Nat)} {T : Tab} (h : OwnTL w B U a n c L T) (hb : Below w.heap.size w w') : OwnTL w' B U a n c L T :=
  ⟨h.1.fw hb, h.2.1, h.2.2.1, fun i x m hi hm => (h.2.2.2.1 i x m hi hm).fw hb, h.2.2.2.2⟩
theorem OwnTL.empty {w : World} {B : Nat} {a : Option Addr} {c : Nat} (h : Own vh B 26 w a 0 c []) (U : Nat) : OwnTL w B U a 0 c [] [] :=
  ⟨h, rfl, Scat.nil, fun i x m hi => by simp at hi, fun i x hi => by simp at hi⟩
theorem OwnTL.mono {w : World} {B U U' : Nat} {a : Option Addr} {n c : Nat} {L : List (Option Addr × Nat × Nat)} {T : Tab} (h : OwnTL w B U a n c L T) (hU : U ≤ U') : OwnTL w B U' a n c L T :=
  ⟨h.1, h.2.1, h.2.2.1, h.2.2.2.1, fun i x hi y hy => Nat.lt_of_lt_of_le (h.2.2.2.2 i x hi y hy) hU⟩
theorem OwnTL.snoc {w w7 : World} {B U : Nat} {za : Option Addr} {n zc : Nat} {L : List (Option Addr × Nat × Nat)} {Z : Tab} {ra : Option Addr} {rn rc : Nat} {m : List Int} {sa : Option Addr} {c2 : Nat}
    (h : OwnTL w B U za n zc L Z) (hrow : Own vi U 3 w ra rn rc m) (hU : B ≤ U) (hown : Own vh B 26 w7 sa (n + 1) c2 (L ++ [(ra, rn, rc)])) (hgr : w.grownBy w7 (Value.slice za n zc).ownBlock) :
    OwnTL w7 B w7.heap.size sa (n + 1) c2 (L ++ [(ra, rn, rc)]) (Z ++ [m]) := by
  obtain ⟨h1, h2, h3, h4, h5⟩ := h
  have hrow7 : Own vi B 3 w7 ra rn rc m := (hrow.mono hU).grownT h1 tIS hgr
  have rows : ∀ (i : Nat) (x : Option Addr × Nat × Nat) (k : List Int), (L ++ [(ra, rn, rc)])[i]? = some x → (Z ++ [m])[i]? = some k → Own vi B 3 w7 x.1 x.2.1 x.2.2 k := by
    intro i x k hi hk
    by_cases hl : i < n
    · rw [List.getElem?_append_left (by rw [h1.len]; exact hl)] at hi
      rw [List.getElem?_append_left (by rw [h2]; exact hl)] at hk
      exact (h4 i x k hi hk).grownT h1 tIS hgr
    · have hin : i = n := by
        have := (List.getElem?_eq_some_iff.1 hi).1
        rw [List.length_append, h1.len] at this
        simp at this; omega
      subst hin
      rw [List.getElem?_append_right (by rw [h1.len]; omega), h1.len, Nat.sub_self] at hi
      rw [List.getElem?_append_right (by rw [h2]; omega), h2, Nat.sub_self] at hk
      cases hi; cases hk
      exact hrow7
  refine ⟨hown, by rw [List.length_append, h2]; rfl, h3.snoc fun i k hk => ?_, rows, fun i x hi y hy => ?_⟩
  · intro x y hx hy
    have := h5 i k hk x hx
    have := hrow.bge hy
    show x.block ≠ y.block
    omega
  · have hl : i < (Z ++ [m]).length := by
      have := (List.getElem?_eq_some_iff.1 hi).1
      rw [List.length_append, h1.len] at this
      rw [List.length_append, h2]
      simpa using this
    exact (rows i x _ hi (List.getElem?_eq_getElem hl)).blt hy

theorem clone_any (a : Option Addr) (n c : Nat) (T : Tab) (w : World) (h : RdT w a n c T) (hT : VT T) :
    Calls Try.prog 31 #[.slice a n c] w fun e w' => ∃ gz zc, e = .returned (.slice (some ⟨gz, 0, none⟩) n zc) ∧ OwnT w' w.heap.size (some ⟨gz, 0, none⟩) n zc T ∧ Below w.heap.size w w' := by
  obtain ⟨i0, hi, hz0, hz1, hz2⟩ := info_parts infoI
  obtain ⟨i1, hi1, hy0, hy1, hy2⟩ := info_parts infoS
  have u0 := Try.underlying26
  have u1 := Try.underlying22
  have hn : n ≤ 12 := by have := hT.1; rw [h.len] at this; exact this
  have H := Lib.hid h
  have hlen := Lib.hid h.len
  have HV := Lib.hid hT
  clear h hT
  have b0 := below_alloc (.cells (row vh []) 26 (0, 0)) (below_refl w)
  have O0 := Lib.hid ((blk_new vh 26 w []).own (Nat.le_refl _) (by simp [maxLen]))
  go_enter Try.func31, Try.ntmps31
  go_wp2
  go_loopw [3, 4] (fun s i wr => ∃ (j : Nat) (za : Option Addr) (zc : Nat) (L : List (Option Addr × Nat × Nat)), j ≤ n ∧ i = .int .i64 (j : Int) ∧ s = .slice za j zc ∧ Hid (∃ g, za = some ⟨g, 0, none⟩) ∧ Hid (OwnTL wr w.heap.size wr.heap.size za j zc L (T.take j)) ∧ Hid (Below w.heap.size w wr)) (fun _ i _ => n - (intOf i).toNat)
  case atStart => exact ⟨0, _, 0, [], by omega, rfl, rfl, ⟨_, rfl⟩, OwnTL.empty O0.out _, b0⟩
  case round =>
    obtain ⟨j, za, zc, L, hj, rfl, rfl, hza, hO, hbe⟩ := hrel
    by_cases hlt : j < n
    · have i2 : (j : Int) < (n : Int) := by omega
      obtain ⟨m, ra, rn, rc, b, o, hm, rfl, c1, hr⟩ := (H.out.fw hbe.out).row hlt
      have hml := (HV.out.row hm).1
      rw [hr.len, hlen.out] at hml
      obtain rfl := hml
      have hb1 := below_alloc (.cells (row vi []) 3 (0, 0)) (below_refl wr)
      have N1 := Lib.hid ((blk_new vi 3 wr []).own (Nat.le_refl _) (by simp [maxLen]))
      have HR := Lib.hid (hr.fw hb1)
      have c2 : (wr.alloc (.cells #[] 3 (0, 0))).cell? ⟨b, o + j, none⟩ = _ := (cellBelow hb1 (lt_of_cell c1)).trans c1
      have O1 := Lib.hid (hO.out.fw hb1)
      have B1 := Lib.hid hb1
      have HM := Lib.hid hm
      clear hr hm hb1
      go_wp2_with (first
        | (at_builtin; refine wpList_append_rd rfl (.tmp 13) (.tmp 17) 26 rfl vi vi_one wr.heap.size 3 i0 (.int .i64 0) 8 u0 hi hz0 hz1 hz2 rfl _ 0 0 [] rfl N1.out ra rn rc m rfl HR.out (by unfold maxLen; omega) (by omega) B1.out.size ?_; simp only [Nat.zero_add, List.nil_append]; intro ra2 rc2 w5 hown5 hgr5; have b5 : Below wr.heap.size wr w5 := B1.out.grown hgr5 B1.out.size (fun x hx => (N1.out.ownsRow.lt x hx).1); have ba6 := below_alloc (.cells (row vh [(ra2, rn, rc2)]) 26 (0, 0)) (below_refl w5); have O6 := Lib.hid ((hO.out.fw b5).fw ba6); have N6 := Lib.hid (rd_new vh 26 w5 [(ra2, rn, rc2)] (n := 1) rfl (by omega)); have R6 := Lib.hid (hown5.fw ba6); have B6 := Lib.hid (bt b5 ba6); clear hown5 hgr5 b5 ba6)
        | (at_builtin; refine wpList_append_rd rfl (.tmp 12) (.tmp 19) 22 rfl vh vh_one w.heap.size 26 i1 (.slice none 0 0) 24 u1 hi1 hy0 hy1 hy2 rfl za j zc L rfl O6.out.1 (some ⟨w5.heap.size, 0, none⟩) 1 1 [(ra2, rn, rc2)] rfl N6.out (by unfold maxLen; omega) (by omega) (Nat.le_trans hbe.out.size B6.out.size) ?_; intro sa c2 w7 hown7 hgr7; have SA7 : Hid (∃ g, sa = some ⟨g, 0, none⟩) := (by obtain ⟨g, hg, _⟩ := hown7.pre (Nat.succ_pos _); exact ⟨g, hg⟩); have O7 := Lib.hid (O6.out.snoc R6.out hbe.out.size hown7 hgr7); have B7 : Hid (Below w.heap.size w w7) := (bt hbe.out B6.out).grown hgr7 (Nat.le_trans hbe.out.size B6.out.size) (fun x hx => (O6.out.1.ownsRow.lt x hx).1); clear hown7 hgr7)
        | fail)
      go_roundw
      case rel =>
        refine ⟨j + 1, sa, c2, L ++ [(ra2, rn, rc2)], by omega, by go_num, rfl, SA7.out, ?_, B7.out⟩
        rw [List.take_add_one, HM.out]
        exact O7.out
      case measure => simp [intOf]; omega
    · have hjn : j = n := by omega
      subst hjn
      rw [List.take_of_length_le (by rw [hlen.out]; exact Nat.le_refl _)] at hO
      go_wp2_with fail
      go_ret
      obtain ⟨g, rfl⟩ := hza.out
      exact ⟨g, zc, rfl, hO.out.ownT, hbe.out⟩
end Go.Proofs.Ytpecepfnmkpmmaa
