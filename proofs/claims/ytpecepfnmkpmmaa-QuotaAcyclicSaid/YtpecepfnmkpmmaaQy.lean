/- kinkeeplaw35.ordered. -/
import Derived.Test.YtpecepfnmkpmmaaQx
namespace Quo
def freeP (T : Tab) (g : List Bool) (h u : Nat) : Bool := (List.range u).all fun o => g.getD o false || decide (at2 T h o = 0)
theorem freeP_succ (T : Tab) (g : List Bool) (h u : Nat) : freeP T g h (u + 1) = (freeP T g h u && (g.getD u false || decide (at2 T h u = 0))) := by
  unfold freeP
  rw [List.range_succ, List.all_append]; simp
end Quo
namespace Go.Proofs.Ytpecepfnmkpmmaa
open Go.RowKit Go.Kin Quo
set_option maxRecDepth 100000
set_option linter.unusedVariables false
theorem infoBl : (Try.prog.info? 4).map (fun i => (i.zero, i.size, i.bytes)) = some (some (.bool false), 1, 1) := by kernel_rfl
set_option maxHeartbeats 2000000 in
theorem ordered_any (a : Option Addr) (n c : Nat) (T : Tab) (w : World) (h : RdT w a n c T) (hT : VT T) :
    Calls Try.prog 27 #[.slice a n c] w fun e w' => e = .returned (.bool (ordF T n)) ∧ Below w.heap.size w w' := by
  obtain ⟨i0, hi, hz0, hz1, hz2⟩ := info_parts infoBl
  have u0 := Try.underlying64
  have hn : n ≤ 12 := by have := hT.1; rw [h.len] at this; exact this
  have H := Lib.hid h
  have hlen := Lib.hid h.len
  have HV := Lib.hid hT
  clear h hT
  go_enter Try.func27, Try.ntmps27
  go_wp2_with (at_make; refine wpList_make_blk rfl (.tmp 10) (.tmp 10) 64 rfl vbo false 4 i0 u0 hi hz0 hz1 rfl _ _ _ _ n rfl rfl rfl rfl (by rw [hz2]; omega) (by omega) ?_; intro w2 hk2 hb2 hs2; have HK2 := Lib.hid hk2; have HB2 := Lib.hid hb2; clear hk2 hb2 hs2)
  go_loopw [4, 5, 6, 7] (fun i _ _ _ wr => ∃ j : Nat, j ≤ n ∧ i = .int .i64 (j : Int) ∧ Hid (Blk vbo 4 wr w.heap.size (goneG T n j)) ∧ Hid (Below w.heap.size w wr)) (fun i _ _ _ _ => n - (intOf i).toNat)
  case atStart => exact ⟨0, by omega, rfl, HK2.out, HB2.out⟩
  case round =>
    obtain ⟨j, hj, rfl, hB, hbe⟩ := hrel
    rename World => wo
    by_cases hlt : j < n
    · have i2 : (j : Int) < (n : Int) := by omega
      go_wp2_with fail
      go_loopw [5, 6, 7] (fun i _ _ wr => ∃ u : Nat, u ≤ n ∧ i = .int .i64 (u : Int) ∧ Hid (Blk vbo 4 wr w.heap.size (roundG T n (goneG T n j) u)) ∧ Hid (Below w.heap.size w wr)) (fun i _ _ _ => n - (intOf i).toNat)
      case atStart => exact ⟨0, by omega, rfl, hB.out, hbe.out⟩
      case round =>
        obtain ⟨u, hu, rfl, hB2, hbe2⟩ := hrel
        rename World => wo2
        by_cases hlt2 : u < n
        · have i3 : (u : Int) < (n : Int) := by omega
          obtain ⟨G, hG⟩ : ∃ G, G = roundG T n (goneG T n j) u := ⟨_, rfl⟩
          have hGl : G.length = n := by rw [hG, roundG_length, goneG_length]
          rw [← hG] at hB2
          have HG := Lib.hid hG; have HGL := Lib.hid hGl
          clear hG hGl
          go_wp2_with fail
          go_loopw [6, 7] (fun f i wr => ∃ k : Nat, k ≤ n ∧ i = .int .i64 (k : Int) ∧ f = .bool (freeP T G u k) ∧ wr = wo2) (fun _ i _ => n - (intOf i).toNat)
          case atStart => exact ⟨0, by omega, rfl, rfl, rfl⟩
          case round =>
            obtain ⟨k, hk, rfl, rfl, rfl⟩ := hrel
            by_cases hlt3 : k < n
            · have i4 : (k : Int) < (n : Int) := by omega
              have hsu := freeP_succ T G u k
              obtain ⟨F, hF⟩ : ∃ F, F = freeP T G u k := ⟨_, rfl⟩
              obtain ⟨y, hy⟩ : ∃ y, y = G.getD k false := ⟨_, rfl⟩
              have hyy : G[k]? = some y := by rw [hy]; exact get_some (by rw [HGL.out]; exact hlt3) false
              obtain ⟨r, t1, t2, t3, t4, t5⟩ := HV.out.cell (i := u) (j := k) (by rw [hlen.out]; exact hlt2) (by rw [hlen.out]; exact hlt3)
              obtain ⟨x, hx⟩ : ∃ x, x = at2 T u k := ⟨_, rfl⟩
              rw [← hx] at t3 hsu
              rw [← hF, ← hy] at hsu
              rw [← hF]
              have c1 := hB2.out.cell hyy
              obtain ⟨ra, rc, tb, to, rfl, c2, hrow⟩ := (H.out.fw hbe2.out).at t1
              rw [t2, hlen.out] at c2 hrow
              obtain ⟨rb, ro, rfl, c3⟩ := hrow.cell k x t3
              unfold vi at c3
              unfold vbo at c1
              have HS := Lib.hid hsu
              clear hsu hy hyy t1 t2 t3 t4 t5 hrow hx hF
              cases F with
              | false =>
                go_wp2_with fail
                go_roundw
                case rel => exact ⟨k + 1, by omega, by go_num, by rw [HS.out]; rfl, by trivial⟩
                case measure => simp [intOf]; omega
              | true =>
                cases y with
                | true =>
                  go_wp2_with fail
                  go_roundw
                  case rel => exact ⟨k + 1, by omega, by go_num, by rw [HS.out]; rfl, by trivial⟩
                  case measure => simp [intOf]; omega
                | false =>
                  by_cases hx0 : x = 0
                  · have e1 : (x == 0) = true := by simpa using hx0
                    have HD := Lib.hid (decide_eq_true hx0)
                    clear hx0
                    go_wp2_with fail
                    go_roundw
                    case rel => exact ⟨k + 1, by omega, by go_num, by rw [HS.out, HD.out]; first | rfl | simp [e1], by trivial⟩
                    case measure => simp [intOf]; omega
                  · have e1 : (x == 0) = false := by simpa using hx0
                    have HD := Lib.hid (decide_eq_false hx0)
                    clear hx0
                    go_wp2_with fail
                    go_roundw
                    case rel => exact ⟨k + 1, by omega, by go_num, by rw [HS.out, HD.out]; first | rfl | simp [e1], by trivial⟩
                    case measure => simp [intOf]; omega
            · have hkn : k = n := by omega
              subst hkn
              obtain ⟨F, hF⟩ : ∃ F, F = freeP T G u k := ⟨_, rfl⟩
              obtain ⟨y, hy⟩ : ∃ y, y = G.getD u false := ⟨_, rfl⟩
              have hyy : G[u]? = some y := by rw [hy]; exact get_some (by rw [HGL.out]; exact hlt2) false
              have c1 := hB2.out.cell hyy
              have f1 := hB2.out.frozen u
              unfold vbo at c1
              have hst : roundG T k (goneG T k j) (u + 1) = G.set u (y || F) := by rw [roundG_succ, ← HG.out, hy, hF]; rfl
              have HST := Lib.hid hst
              rw [← hF]
              clear hF hy hyy hst
              cases y with
              | true =>
                go_wp2_with fail
                go_roundw
                case rel =>
                  refine ⟨u + 1, by omega, by go_num, ?_, hbe2.out.setCell (p := ⟨w.heap.size, u, none⟩) (Nat.le_refl _) _⟩
                  rw [HST.out]
                  exact hB2.out.set u true
                case measure => simp [intOf]; omega
              | false =>
                go_wp2_with fail
                go_roundw
                case rel =>
                  refine ⟨u + 1, by omega, by go_num, ?_, hbe2.out.setCell (p := ⟨w.heap.size, u, none⟩) (Nat.le_refl _) _⟩
                  rw [HST.out, Bool.false_or]
                  exact hB2.out.set u F
                case measure => simp [intOf]; omega
        · have hun : u = n := by omega
          subst hun
          go_wp2_with fail
          go_roundw
          case rel => exact ⟨j + 1, by omega, by go_num, hB2.out, hbe2.out⟩
          case measure => simp [intOf]; omega
    · have hjn : j = n := by omega
      subst hjn
      obtain ⟨G, hG⟩ : ∃ G, G = goneG T j j := ⟨_, rfl⟩
      have hGl : G.length = j := by rw [hG, goneG_length]
      have HO : Hid (ordF T j = G.all id) := by rw [hG]; exact rfl
      rw [← hG] at hB
      have HGL := Lib.hid hGl
      clear hG hGl
      go_wp2_with fail
      go_loopw [8] (fun i wr => ∃ k : Nat, k ≤ j ∧ i = .int .i64 (k : Int) ∧ Hid ((G.take k).all id = true) ∧ wr = wo) (fun i _ => j - (intOf i).toNat)
      case atStart => exact ⟨0, by omega, rfl, (show (G.take 0).all id = true from rfl), rfl⟩
      case round =>
        obtain ⟨k, hk, rfl, hv, rfl⟩ := hrel
        by_cases hlt3 : k < j
        · have i4 : (k : Int) < (j : Int) := by omega
          obtain ⟨y, hyy⟩ : ∃ y, G[k]? = some y := ⟨_, List.getElem?_eq_getElem (by rw [HGL.out]; exact hlt3)⟩
          have c1 := hB.out.cell hyy
          unfold vbo at c1
          have HY := Lib.hid hyy
          clear hyy
          cases y with
          | true =>
            have hv2 : Hid ((G.take (k + 1)).all id = true) := by
              show _ = _
              rw [List.take_add_one, HY.out, List.all_append, hv.out]; rfl
            go_wp2_with fail
            go_roundw
            case rel => exact ⟨k + 1, by omega, by go_num, hv2, by trivial⟩
            case measure => simp [intOf]; omega
          | false =>
            have hf : Hid (ordF T j = false) := by
              show _ = _
              rw [HO.out]
              cases hh : G.all id with
              | false => rfl
              | true =>
                have := List.all_eq_true.1 hh false (List.mem_of_getElem? HY.out)
                cases this
            go_wp2_with fail
            go_ret
            exact ⟨ret_bool hf.out.symm, hbe.out⟩
        · have hkj : k = j := by omega
          subst hkj
          have hf : Hid (ordF T k = true) := by
            show _ = _
            rw [HO.out]
            have := hv.out
            rwa [List.take_of_length_le (by rw [HGL.out]; exact Nat.le_refl _)] at this
          go_wp2_with fail
          go_ret
          exact ⟨ret_bool hf.out.symm, hbe.out⟩
end Go.Proofs.Ytpecepfnmkpmmaa
