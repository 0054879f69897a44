/- matrix.zeros; kinkeepref04.Zero, Same, Ints; kinkeeplaw04.column, free. -/
import Derived.Test.YtioiaiifkfopnaaMz
namespace Go.Proofs.Ytioiaiifkfopnaa
open Go.RowKit Go.Kin Mat
set_option maxRecDepth 100000

theorem set_next {α : Type} {A : List α} {z x : α} {j r : Nat} (hA : A.length = j) (hj : j < r) : (A ++ List.replicate (r - j) z).set j x = (A ++ [x]) ++ List.replicate (r - (j + 1)) z := by
  rw [List.set_append, if_neg (by omega), hA, Nat.sub_self, show r - j = (r - (j + 1)) + 1 from by omega, List.replicate_succ, List.set_cons_zero, List.append_assoc]; rfl
theorem get_next {α : Type} {A : List α} {z : α} {j r : Nat} (hA : A.length = j) (hj : j < r) : (A ++ List.replicate (r - j) z)[j]? = some z := by
  rw [List.getElem?_append_right (by omega), hA, Nat.sub_self, List.getElem?_replicate, if_pos (by omega)]

set_option maxHeartbeats 1000000 in
theorem zeros_any (r k : Nat) (w : World) (hr : r ≤ 1000) (hk : k ≤ 1000) :
    Calls Try.prog 54 #[.int .i64 (r : Int), .int .i64 (k : Int)] w fun e w' => ∃ o, e = .returned (.slice (some ⟨o, 0, none⟩) r r) ∧ MatB w' w.heap.size (some ⟨o, 0, none⟩) r r k (fun _ _ => 0) ∧ Below w.heap.size w w' := by
  obtain ⟨i0, hi, hz0, hz1, hz2⟩ := info_parts info5
  obtain ⟨i1, hi1, hy0, hy1, hy2⟩ := info_parts infoB
  have u0 := Try.underlying23
  have u1 := Try.underlying30
  go_enter Try.func54, Try.ntmps54
  go_wp2_with (at_make; refine wpList_make_blk rfl (.tmp 7) (.tmp 7) 30 rfl vh (none, 0, 0) 23 i1 u1 hi1 hy0 hy1 rfl _ _ _ _ r rfl rfl rfl rfl (by rw [hy2]; omega) (by omega) ?_; intro w2 hk2 hb2 hs2; have HK2 := Lib.hid hk2; clear hk2 hs2)
  go_loopw [6, 11] (fun _ i wr => ∃ (j : Nat) (G : List Nat), j ≤ r ∧ i = .int .i64 (j : Int) ∧ Hid (G.length = j) ∧ Hid G.Nodup ∧ Hid (∀ g ∈ G, w.heap.size ≤ g ∧ g < wr.heap.size) ∧ Hid (Blk vh 23 wr w.heap.size (G.map (hdr k) ++ List.replicate (r - j) (none, 0, 0))) ∧ Hid (∀ (i g : Nat), G[i]? = some g → Blk vb 5 wr g (List.replicate k 0)) ∧ Below w.heap.size w wr) (fun _ i _ => r - (intOf i).toNat)
  case atStart =>
    refine ⟨0, [], by omega, rfl, rfl, List.nodup_nil, by simp [Hid], ?_, fun i g h => by simp at h, hb2⟩
    exact HK2.out
  case round =>
    obtain ⟨j, G, hj, rfl, hl, hnd, hG, hO, hR, hbe⟩ := hrel
    have hlm : (G.map (hdr k)).length = j := by rw [List.length_map]; exact hl.out
    by_cases hlt : j < r
    · have i2 : (j : Int) < (r : Int) := by omega
      have hws := hbe.size
      have hn2 : w.heap.size < wr.heap.size := hO.out.lt
      have HLM := Lib.hid hlm
      have hlen : (G.map (hdr k) ++ List.replicate (r - j) ((none, 0, 0) : Option Addr × Nat × Nat)).length = r := by rw [List.length_append, hlm, List.length_replicate]; omega
      have HLEN := Lib.hid hlen
      clear hlm hlen
      go_wp2_with (at_make; refine wpList_make_blk rfl (.tmp 16) (.tmp 16) 23 rfl vb 0 5 i0 u0 hi hz0 hz1 rfl _ _ _ _ k rfl rfl rfl rfl (by rw [hz2]; omega) (by omega) ?_; intro w5 hk5 hb5 hs5; have HK5 := Lib.hid hk5; have HO5 := Lib.hid (hO.out.fw hb5); have d5 := HO5.out.cell (get_next HLM.out hlt); have f5 := HO5.out.frozen j; unfold vh at d5; have HS5 := Lib.hid hs5; clear hk5 hs5)
      go_roundw
      case rel =>
        have hne : w.heap.size ≠ wr.heap.size := by omega
        refine ⟨j + 1, G ++ [wr.heap.size], by omega, by go_num, ?_, ?_, ?_, ?_, ?_, (bt hbe hb5).setCell (Nat.le_refl _) _⟩
        · show (G ++ [_]).length = _
          rw [List.length_append, hl.out]; rfl
        · refine nodup_snoc' hnd.out fun hm => ?_
          have := (hG.out _ hm).2; omega
        · intro g hg
          have e : (w5.setCell ⟨w.heap.size, j, none⟩ (.slice (some ⟨wr.heap.size, 0, none⟩) k k)).heap.size = w5.heap.size := by simp [World.setCell]
          rw [e, HS5.out]
          rcases List.mem_append.1 hg with hg | hg
          · have := hG.out g hg; omega
          · have := List.mem_singleton.1 hg; omega
        · have := HO5.out.set j (hdr k wr.heap.size)
          rw [set_next HLM.out hlt] at this
          show Blk _ _ _ _ _
          rw [List.map_append]
          exact this
        · intro i g hg
          by_cases hi2 : i < G.length
          · rw [List.getElem?_append_left hi2] at hg
            exact ((hR.out i g hg).fw hb5).other _ _ (((hR.out i g hg).fw hb5).ne HO5.out tt')
          · rw [List.getElem?_append_right (by omega)] at hg
            have hg2 : g = wr.heap.size := by
              rcases Nat.eq_zero_or_pos (i - G.length) with e | e
              · rw [e] at hg; simpa using hg.symm
              · rw [List.getElem?_eq_none (by simp; omega)] at hg; cases hg
            rw [hg2]
            exact HK5.out.other _ _ (HK5.out.ne HO5.out tt')
      case measure => simp [intOf]; omega
    · have hjr : j = r := by omega
      subst hjr
      have HLM := Lib.hid hlm
      clear hlm
      go_wp2
      go_ret
      have hO2 := hO.out
      rw [Nat.sub_self, List.replicate_zero, List.append_nil] at hO2
      have hown := hO2.own (B := w.heap.size) (Nat.le_refl _) (by rw [HLM.out]; unfold maxLen; omega)
      rw [HLM.out] at hown
      refine ⟨w.heap.size, rfl, ⟨G, hnd.out, fun g hg => (hG.out g hg).1, hown, fun i g hg => ?_⟩, hbe⟩
      rw [← mrow_zero]
      exact hR.out i g hg

end Go.Proofs.Ytioiaiifkfopnaa
