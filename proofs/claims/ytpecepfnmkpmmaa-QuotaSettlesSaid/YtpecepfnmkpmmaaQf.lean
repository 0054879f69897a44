/- quota: copyTable. -/
import Derived.Test.YtpecepfnmkpmmaaQe
namespace Go.Proofs.Ytpecepfnmkpmmaa
open Go.RowKit Go.Kin Quo
set_option maxRecDepth 100000
set_option linter.unusedVariables false

theorem copy_any (a : Option Addr) (n c : Nat) (T : Tab) (w : World) (h : RdT w a n c T) (hT : VT T) :
    Calls Try.prog 42 #[.slice a n c] w fun e w' => ∃ g, e = .returned (.slice (some ⟨g, 0, none⟩) n n) ∧ OwnT w' w.heap.size (some ⟨g, 0, none⟩) n n T ∧ Below w.heap.size w w' := by
  obtain ⟨i0, hi, hz0, hz1, hz2⟩ := info_parts infoI
  obtain ⟨i1, hi1, hy0, hy1, hy2⟩ := info_parts infoS
  have u0 := Try.underlying26
  have u1 := Try.underlying22
  have hn : n ≤ 12 := by have := hT.1; rw [h.len] at this; exact this
  have H := Lib.hid h
  have hlen := Lib.hid h.len
  have HV := Lib.hid hT
  clear h hT
  go_enter Try.func42, Try.ntmps42
  go_wp2_with (at_make; refine wpList_make_blk rfl (.tmp 7) (.tmp 7) 22 rfl vh (none, 0, 0) 26 i1 u1 hi1 hy0 hy1 rfl _ _ _ _ n rfl rfl rfl rfl (by rw [hy2]; omega) (by omega) ?_; intro w2 hk2 hb2 hs2; have HK2 := Lib.hid hk2; have HB2 := Lib.hid hb2; clear hk2 hb2 hs2)
  go_loopw [11] (fun i wr => ∃ (j : Nat) (L : List (Option Addr × Nat × Nat)), j ≤ n ∧ i = .int .i64 (j : Int) ∧ L.length = j ∧ Hid (Blk vh 26 wr w.heap.size (L ++ List.replicate (n - j) (none, 0, 0))) ∧ Hid (Scat L) ∧ Hid (∀ (i : Nat) (h : Option Addr × Nat × Nat) (m : List Int), L[i]? = some h → T[i]? = some m → Own vi w.heap.size 3 wr h.1 h.2.1 h.2.2 m) ∧ Hid (Below w.heap.size w wr)) (fun i _ => n - (intOf i).toNat)
  case atStart => exact ⟨0, [], by omega, rfl, rfl, HK2.out, Scat.nil, fun i h m hi => by simp at hi, HB2.out⟩
  case round =>
    obtain ⟨j, L, hj, rfl, hl, hB, hS, hR, hbe⟩ := hrel
    have HL := Lib.hid hl
    clear hl
    by_cases hlt : j < n
    · have i2 : (j : Int) < (n : Int) := by omega
      obtain ⟨m, ra, rn, rc, b1, o1, hm, rfl, c1w, hr⟩ := H.out.row hlt
      have c1 := (cellBelow hbe.out (lt_of_cell c1w)).trans c1w
      have hml := (HV.out.row hm).1
      rw [hr.len, hlen.out] at hml
      obtain rfl := hml
      have hr2 := hr.fw hbe.out
      obtain ⟨rb, ro, rfl⟩ := hr2.lt_of_pos (show 0 < rn by omega)
      have HR := Lib.hid hr2
      have d5 := hB.out.cell (get_next HL.out hlt)
      have f5 := hB.out.frozen j
      unfold vh at d5
      have HM := Lib.hid hm
      clear c1w hm hr hr2
      go_wp2_with (at_builtin; refine wpList_push rfl (.const (.slice none 0 0)) (.tmp 18) 26 rfl vi vi_one w.heap.size 3 i0 (.int .i64 0) 8 u0 hi hz0 hz1 hz2 rfl none 0 0 [] rfl ⟨rfl, .inl ⟨rfl, rfl, rfl⟩⟩ ⟨rb, ro, none⟩ rn rc m rfl HR.out (by omega) (by unfold maxLen; omega) (by omega) hbe.out.size ?_; rw [Nat.zero_add, List.nil_append]; intro g c' w5 hown hgr hlies; have HO5 := Lib.hid hown; have hbw : Below wr.heap.size wr w5 := ⟨hgr.os, hgr.tape, hgr.output, hgr.size, fun k hk => hgr.block k hk (by simp [Value.ownBlock])⟩; have HBW := Lib.hid hbw; have d6 := (cellBelow hbw (lt_of_cell d5)).trans d5; have hB5 := hB.out.fw hbw; have f6 := hB5.frozen j; have HB5 := Lib.hid hB5; have HG : Hid (g = wr.heap.size) := by (rcases hlies with h | h); (· simp [Value.ownBlock] at h); exact h)
      go_roundw
      case rel =>
        have hBg : w.heap.size ≤ g := by rw [HG.out]; exact hbe.out.size
        refine ⟨j + 1, L ++ [(some ⟨g, 0, none⟩, rn, c')], by omega, by go_num, by rw [List.length_append, HL.out]; rfl, ?_, ?_, ?_, (hbe.out.trans (HBW.out.mono hbe.out.size)).setCell (Nat.le_refl _) _⟩
        · have := HB5.out.set j (some ⟨g, 0, none⟩, rn, c')
          rw [set_next HL.out hlt] at this
          exact this
        · refine Scat.snoc hS.out fun i k hk => ?_
          intro x y hx hy
          cases hy
          have hi : i < j := by have := (List.getElem?_eq_some_iff.1 hk).1; rw [HL.out] at this; exact this
          have := (hR.out i k _ hk (get_some (by rw [hlen.out]; omega) [])).blt hx
          show x.block ≠ g
          rw [HG.out]; omega
        · intro i k m' hk hm'
          by_cases hi2 : i < L.length
          · rw [List.getElem?_append_left hi2] at hk
            exact ((hR.out i k m' hk hm').fw HBW.out).otherT (p := ⟨w.heap.size, j, none⟩) HB5.out tIS _
          · have hij : i = j := by
              have := (List.getElem?_eq_some_iff.1 hk).1
              rw [List.length_append, HL.out] at this
              rw [HL.out] at hi2
              simp at this; omega
            subst hij
            rw [List.getElem?_append_right (by rw [HL.out]; omega), HL.out, Nat.sub_self] at hk
            cases hk
            rw [HM.out] at hm'
            cases hm'
            exact HO5.out.otherT (p := ⟨w.heap.size, i, none⟩) HB5.out tIS _
      case measure => simp [intOf]; omega
    · have hjn : j = n := by omega
      subst hjn
      rw [Nat.sub_self, List.replicate_zero, List.append_nil] at hB
      go_wp2_with fail
      go_ret
      have ho := hB.out.own (B := w.heap.size) (Nat.le_refl _) (by rw [HL.out]; unfold maxLen; omega)
      rw [HL.out] at ho
      exact ⟨_, rfl, ⟨L, ho, hlen.out, hS.out, hR.out⟩, hbe.out⟩
end Go.Proofs.Ytpecepfnmkpmmaa
