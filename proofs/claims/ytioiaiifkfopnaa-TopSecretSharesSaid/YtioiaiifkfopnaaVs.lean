/- shamir.validShares, where it holds. -/
import Derived.Test.YtioiaiifkfopnaaTs
import Derived.BigQuiet
namespace Go.Proofs.Ytioiaiifkfopnaa
open Go.RowKit Go.Kin
set_option linter.unusedVariables false
set_option maxRecDepth 100000
set_option maxHeartbeats 4000000
theorem take_succ_getA {α : Type} {l : List α} {k : Nat} {x : α} (h : l[k]? = some x) : l.take (k + 1) = l.take k ++ [x] := by
  rw [List.take_add_one, h]; rfl
theorem infoI64 : (Try.prog.info? 3).map (fun i => (i.zero, i.size, i.bytes)) = some (some (.int .i64 0), 1, 8) := by kernel_rfl
theorem RdA.sh {w : World} {a : Option Addr} {n c : Nat} {l : List (Nat × Option Addr × Nat × Nat)} (h : RdA vsh 2 w a n c l) {i : Nat} {t : Nat × Option Addr × Nat × Nat} (ht : l[i]? = some t) :
    ∃ b o, a = some ⟨b, o, none⟩ ∧ w.cell? ⟨b, o + i * 2, none⟩ = some (.int .i64 (t.1 : Int)) ∧ w.cell? ⟨b, o + i * 2 + 1, none⟩ = some (.slice t.2.1 t.2.2.1 t.2.2.2) := by
  obtain ⟨b, o, ha, hc⟩ := h.2.2.2 i t ht
  exact ⟨b, o, ha, hc 0 _ rfl, hc 1 _ rfl⟩
theorem validShares_any (a : Option Addr) (q c n : Nat) (T : List (Nat × Option Addr × Nat × Nat)) (w : World) (h : RdA vsh 2 w a q c T) (hq : q ≤ 16) (hn : n ≤ 1024) (hT : ∀ t ∈ T, t.2.2.1 = n) (hx : ∀ x ∈ T.map Prod.fst, 1 ≤ x ∧ x ≤ 255) (hnd : (T.map Prod.fst).Nodup) :
    Calls Try.prog 25 #[.slice a q c] w fun e w' => e = .returned (.bool true) ∧ Below w.heap.size w w' := by
  obtain ⟨i0, hi, hz0, hz1, hz2⟩ := info_parts infoI64
  have u0 := Try.underlying22
  have H := Lib.hid h
  have hlen := Lib.hid h.1
  have hcap := h.2.1
  have hmax := h.2.2.1
  unfold maxLen at hmax
  clear h
  go_enter Try.func25, Try.ntmps25
  go_wp2_with fail
  go_loopw [3, 8] (fun xv i wr => ∃ (k : Nat) (xa : Option Addr) (xc : Nat), k ≤ q ∧ i = .int .i64 (k : Int) ∧ xv = .slice xa k xc ∧ Hid (Kin.Own vn w.heap.size 3 wr xa k xc ((T.take k).map Prod.fst)) ∧ Hid (Below w.heap.size w wr)) (fun _ i _ => q - (intOf i).toNat)
  case atStart => exact ⟨0, none, 0, by omega, rfl, rfl, ⟨rfl, .inl ⟨rfl, rfl, rfl⟩⟩, Below.refl _ _⟩
  case round =>
    obtain ⟨k, xa, xc, hk, rfl, rfl, HO, HB⟩ := hrel
    by_cases hlt : k < q
    · have i2 : (k : Int) < (q : Int) := by omega
      obtain ⟨⟨X, da, dn, dc⟩, ht⟩ : ∃ t, T[k]? = some t := ⟨_, List.getElem?_eq_getElem (by rw [hlen.out]; exact hlt)⟩
      obtain ⟨⟨X0, ea, en, ec⟩, ht0⟩ : ∃ t, T[0]? = some t := ⟨_, List.getElem?_eq_getElem (by rw [hlen.out]; omega)⟩
      obtain ⟨b, o, rfl, c0, c1⟩ := RdA.sh (H.out.fw HB.out) ht
      obtain ⟨b', o', e, e0, e1⟩ := RdA.sh (H.out.fw HB.out) ht0
      cases e
      obtain rfl : dn = n := hT _ (List.mem_of_getElem? ht)
      obtain rfl : en = dn := hT _ (List.mem_of_getElem? ht0)
      rw [Nat.zero_mul, Nat.add_zero] at e1
      dsimp only at c0 c1 e1
      have HTK := Lib.hid ht
      clear ht ht0 e0
      have hba := below_alloc (.cells #[.int .i64 (X : Int), .slice da en dc] 52) (below_refl wr)
      have HBA := Lib.hid (bt HB.out hba)
      have hnew := heap_alloc_new wr (.cells #[.int .i64 (X : Int), .slice da en dc] 52)
      have f0 := cell_of_row _ wr.heap.size 0 _ _ _ hnew
      have f1 := cell_of_row _ wr.heap.size 1 _ _ _ hnew
      have g1 := (cellBelow hba (lt_of_cell e1)).trans e1
      have d1 : (((en : Nat) : Int) != ((en : Nat) : Int)) = false := by simp
      have d2 : decide ((1024 : Int) < ((en : Nat) : Int)) = false := by simp; omega
      go_wp2_with fail
      go_quiet (fail)
      have b8 : Below wr.heap.size wr (((wr.alloc (.cells #[.int .i64 (X : Int), .slice da en dc] 52)).drewN nq).alloc (.cells #[.int .i64 (X : Int)] 3)) := below_alloc _ (fdrewN hba nq)
      have B8 := Lib.hid (bt HB.out b8)
      have O8 := Lib.hid (HO.out.fw b8)
      have N8 : Hid (Rd vn (((wr.alloc (.cells #[.int .i64 (X : Int), .slice da en dc] 52)).drewN nq).alloc (.cells #[.int .i64 (X : Int)] 3)) (some ⟨wr.heap.size + 1, 0, none⟩) 1 1 [X]) := rd_newe vn 3 _ [X] (n := 1) rfl (by omega) (by simp)
      clear b8 hnew
      go_wp2_with (at_builtin; refine wpList_append_rd rfl (.tmp 27) (.tmp 30) 22 rfl vn (fun _ => rfl) w.heap.size 3 i0 (.int .i64 0) 8 u0 hi hz0 hz1 hz2 rfl xa k xc _ rfl O8.out (some ⟨wr.heap.size + 1, 0, none⟩) 1 1 [X] rfl N8.out (by unfold maxLen; omega) (by omega) B8.out.size ?_; intro sa' c' w7 hown hgr)
      go_roundw
      case rel =>
        refine ⟨k + 1, sa', c', by omega, by go_num, rfl, ?_, ?_⟩
        · show Kin.Own vn _ _ _ sa' (k + 1) c' ((T.take (k + 1)).map Prod.fst)
          rw [take_succ_getA HTK.out, List.map_append]
          exact hown
        · exact B8.out.grown hgr B8.out.size fun y hy => (O8.out.ownsRow.lt y hy).1
      case measure => simp [intOf]; omega
    · obtain rfl : k = q := by omega
      have RX := Lib.hid HO.out.rd
      have e1 : Hid ((T.take k).map Prod.fst = T.map Prod.fst) := by
        show _ = _
        rw [List.take_of_length_le (by rw [hlen.out]; exact Nat.le_refl _)]
      go_wp2_with (go_at_call 45; refine (validXs_any xa k xc (T.map Prod.fst) _ (by rw [← e1.out]; exact RX.out) (by omega) hx hnd).mono ?_; rintro e w3 ⟨rfl, hb3⟩; have B3 := Lib.hid (bt HB.out hb3); clear hb3)
      go_ret
      exact ⟨rfl, B3.out⟩
end Go.Proofs.Ytioiaiifkfopnaa
