/- kinkeeptop: a15Name, a16Awake; shamir.Count at one input. -/
import Derived.Test.YtioiaiifkfopnaaSh
import Derived.Test.YtioiaiifkfopnaaSs
import Derived.Test.YtioiaiifkfopnaaFg
namespace Go.Proofs.Ytioiaiifkfopnaa
open Go.RowKit Go.Kin
set_option maxRecDepth 100000
set_option linter.unusedVariables false
set_option maxHeartbeats 4000000
theorem count_one (w : World) : Calls Try.prog 21 #[.int .i64 1, .int .i64 3, .bool false] w fun e w' => e = .returned (.tuple #[.int .i64 65536, .int .i64 0]) ∧ w' = w := by
  have hmn : ∀ ats ty (w : World), (Builtin.min_ ats ty #[.int .i64 65536, .int .i64 1099511627776]).run Try.prog w = .ok (.int .i64 65536) w := fun ats ty w => by
    rw [Kin.run_min2i]; rfl
  go_enter Try.func21, Try.ntmps21
  go_wp2_with (go_at_call 26; refine (validT_any 3 (by omega) (by omega) _).mono ?_; rintro e w' ⟨rfl, h4⟩; obtain rfl : w = w' := h4.symm)
  go_loopw [9, 10] (fun c i wr => ∃ k : Nat, k ≤ 2 ∧ i = .int .i64 (k : Int) ∧ c = .int .i64 ((if k = 0 then 1 else if k = 1 then 256 else 65536 : Nat) : Int) ∧ wr = w) (fun _ i _ => 2 - (intOf i).toNat)
  case atStart => exact ⟨0, by omega, rfl, rfl, rfl⟩
  case round =>
    obtain ⟨k, hk, rfl, rfl, rfl⟩ := hrel
    have hk3 : k = 0 ∨ k = 1 ∨ k = 2 := by omega
    rcases hk3 with rfl | rfl | rfl
    · go_wp2
      go_roundw
      case rel => exact ⟨1, by omega, rfl, rfl, trivial⟩
      case measure => simp [intOf]
    · go_wp2
      go_roundw
      case rel => exact ⟨2, by omega, rfl, rfl, trivial⟩
      case measure => simp [intOf]
    · go_wp2
      go_ret2
      exact ⟨rfl, rfl⟩
theorem name_any (w : World) : Calls Try.prog 20 #[.int .u8 7, .int .u8 7] w fun e w' => (∃ s, e = .returned (.string s) ∧ s.size = 32) ∧ Below w.heap.size w w' := by
  obtain ⟨i0, hi, hz0, hz1, hz2⟩ := info_parts info5
  have u1 := Try.underlying23
  go_enter Try.func20, Try.ntmps20
  go_wp2_with (at_make; refine wpList_make_blk rfl (.const (.int .i64 32)) (.const (.int .i64 32)) 23 rfl vb 0 5 i0 u1 hi hz0 hz1 rfl _ _ _ _ 32 rfl rfl rfl rfl (by rw [hz2]; omega) (by omega) ?_; intro w3 hk3 hb3 hs3
               have HK3 := Lib.hid hk3; have HB3 := Lib.hid hb3
               have c0 := hk3.cell (i := 0) (x := 0) rfl; have c1 := hk3.cell (i := 1) (x := 0) rfl; have f0 := hk3.frozen 0; have f1 := hk3.frozen 1
               unfold vb at c0 c1
               have hset := ((hk3.set 0 7).set 1 7).rdn (n := 32) (c := 32) (by simp) (Nat.le_refl _) (by omega)
               obtain ⟨s, s1, s32⟩ : ∃ s, (convert 23 9 (.slice (some ⟨w.heap.size, 0, none⟩) 32 32)).run Try.prog ((w3.setCell ⟨w.heap.size, 0, none⟩ (.int .u8 7)).setCell ⟨w.heap.size, 1, none⟩ (.int .u8 7)) = .ok (.string s) ((w3.setCell ⟨w.heap.size, 0, none⟩ (.int .u8 7)).setCell ⟨w.heap.size, 1, none⟩ (.int .u8 7)) ∧ s.size = 32 :=
                 ⟨_, run_string_rd (P := Try.prog) hset Try.underlying23 Try.underlying5 Try.underlying9, by decide +kernel⟩
               clear hk3 hb3 hs3 hset)
  go_ret
  exact ⟨⟨s, rfl, s32⟩, (HB3.out.setCell (p := ⟨w.heap.size, 0, none⟩) (Nat.le_refl _) _).setCell (p := ⟨w.heap.size, 1, none⟩) (Nat.le_refl _) _⟩
theorem awake16 (w : World) : Calls Try.prog 5 #[] w fun e w' => e = .returned (.bool true) ∧ Below w.heap.size w w' := by
  go_enter Try.func5, Try.ntmps5
  go_wp2_with (first
    | (go_at_call 20; refine (name_any w).mono ?_; rintro e w1 ⟨⟨s, rfl, hs⟩, hb1⟩; have HB1 := Lib.hid hb1; clear hb1)
    | (go_at_call 6
       have hb2 := below_alloc (.cells #[.int .i64 3] 3) (below_refl w1)
       refine (shares_any s hs 1 (by omega) (by omega) (some ⟨w1.heap.size, 0, none⟩) 1 1 [3] none 0 [] _ (rd_new vn 3 w1 [3] (n := 1) rfl (by omega)) (by omega) (by omega) (by simp) (by simp) (Rd.nil vb _) (by simp [Gf.Byt])).mono ?_
       rintro e w3 ⟨sa, sc, T, rfl, hT, hf, _, hb3⟩
       obtain ⟨t0, ht0⟩ : ∃ t, T[0]? = some t := ⟨_, List.getElem?_eq_getElem (by rw [hT.1]; omega)⟩
       have e4 : t0.1 = 4 := by
         have := congrArg (fun l => l[0]?) hf
         simp only [List.getElem?_map, ht0] at this
         simpa using this
       obtain ⟨b, o, rfl, c0, _⟩ := RdA.sh hT ht0
       rw [e4, Nat.zero_mul, Nat.add_zero] at c0
       have HB3 := Lib.hid (bt HB1.out (bt hb2 hb3)); have hc1 := hT.2.1; have hc2 := hT.2.2.1; unfold maxLen at hc2; clear hb2 hb3 hT hf ht0)
    | (go_at_call 21; refine (count_one _).mono ?_; rintro e w4 ⟨rfl, h4⟩; obtain rfl : w3 = w4 := h4.symm)
    | fail)
  go_ret
  exact ⟨rfl, HB3.out⟩
end Go.Proofs.Ytioiaiifkfopnaa
