/- kinkeepref06.Distinct and Interpolate. -/
import Derived.Test.YtkbcingibgnnpaaRefM
import Derived.Test.YtkbcingibgnnpaaPolyU
namespace Poly
theorem of_pair (x : Nat) : of [x, 1] = lin (Fq.of x) := ext fun i => by
  rw [lin, cf_add, cf_of, cf_mon, cf_C]
  match i with
  | 0 => simp [Fq.zero_add]
  | 1 => simp [Fq.add_zero]; rfl
  | i + 2 => simp [Fq.add_zero]; rfl
theorem of_single (x : Nat) : of [x] = C (Fq.of x) := ext fun i => by
  rw [cf_of, cf_C]
  match i with
  | 0 => rfl
  | i + 1 => simp; rfl
end Poly
namespace Go.Proofs.Ytkbcingibgnnpaa
open Go.RowKit Go.Kin
set_option maxRecDepth 100000

theorem rdistinct_any (a : Option Addr) (n c : Nat) (xs : List Nat) (w : World) (h1 : Rd vb w a n c xs) (hx : Gf.Byt xs) :
    Calls Try.prog 15 #[.slice a n c] w fun e w' => e = .returned (.bool (decide xs.Nodup)) ∧ Drw w w' := by
  have hm : n ≤ 9223372036854775807 := by have := h1.cap; have := h1.max; unfold maxLen at *; omega
  have H1 := Lib.hid h1; clear h1
  go_enter Try.func15, Try.ntmps15
  go_wp2_with fail
  go_loopw [3, 4, 7] (fun _ _ i wr => ∃ k : Nat, k ≤ n ∧ i = .int .i64 (k : Int) ∧ Hid ((xs.take k).Nodup) ∧ Hid (Drw w wr)) (fun _ _ i _ => n - (intOf i).toNat)
  case atStart => exact ⟨0, by omega, rfl, List.nodup_nil, Drw.refl w⟩
  case round =>
    obtain ⟨k, hk, rfl, hnd, hd⟩ := hrel
    by_cases hlt : k < n
    · obtain ⟨x, hxx⟩ : ∃ x, xs[k]? = some x := ⟨_, List.getElem?_eq_getElem (by rw [H1.out.len]; omega)⟩
      have bx := hx.at hxx
      have HX := Lib.hid hxx; clear hxx
      have i1 : (k : Int) < (n : Int) := by omega
      rename World => wo
      go_wp2_with fail
      go_loopw [4] (fun i wr => ∃ j : Nat, j ≤ k ∧ i = .int .i64 (j : Int) ∧ Hid (x ∉ xs.take j) ∧ Hid (Drw w wr)) (fun i _ => k - (intOf i).toNat)
      case atStart => exact ⟨0, by omega, rfl, by intro h; rw [List.take_zero] at h; simp at h, hd.out⟩
      case round =>
        obtain ⟨j, hj, rfl, hnm, hd'⟩ := hrel
        by_cases hjt : j < k
        · obtain ⟨y, hyy⟩ : ∃ y, xs[j]? = some y := ⟨_, List.getElem?_eq_getElem (by rw [H1.out.len]; omega)⟩
          obtain ⟨o1, o2, rfl, c1⟩ := (H1.out.drw hd'.out).cell k x HX.out
          obtain ⟨o3, o4, e34, c2⟩ := (H1.out.drw hd'.out).cell j y hyy
          cases e34
          have byy := hx.at hyy
          have HY := Lib.hid hyy; clear hyy
          unfold vb at c1 c2
          have i2 : (j : Int) < (k : Int) := by omega
          have i3 : (j : Int) < (n : Int) := by omega
          by_cases hxy : x = y
          · have hf : Hid (decide xs.Nodup = false) := by
              refine decide_eq_false (not_nodup_take HX.out ?_)
              rw [hxy]
              exact List.mem_of_getElem? (i := j) (by rw [List.getElem?_take, if_pos hjt]; exact HY.out)
            subst hxy
            go_wp2_with fail
            go_quiet (fail)
            go_wp2
            go_ret
            exact ⟨ret_bool hf.out.symm, hd'.out.step nq⟩
          · have e1 : (((x : Nat) : Int) == ((y : Nat) : Int)) = false := by simp; omega
            have hn2 : Hid (x ∉ xs.take (j + 1)) := by
              rw [take_succ_get HY.out]
              intro h
              rcases List.mem_append.1 h with h | h
              · exact hnm.out h
              · simp at h; exact hxy h
            clear hxy
            go_wp2_with fail
            go_quiet (fail)
            go_wp2
            go_roundw
            case rel => exact ⟨j + 1, by omega, by go_num, hn2, hd'.out.step nq⟩
            case measure => simp [intOf]; omega
        · have hjk : j = k := by omega
          subst hjk
          go_wp2
          go_roundw
          case rel =>
            refine ⟨j + 1, by omega, by go_num, ?_, hd'.out⟩
            show (xs.take (j + 1)).Nodup
            rw [take_succ_get HX.out]
            exact nodup_snoc hnd.out hnm.out
          case measure => simp [intOf]; omega
    · have hkn : k = n := by omega
      subst hkn
      have hnd2 := hnd.out
      rw [List.take_of_length_le (by rw [H1.out.len]; omega)] at hnd2
      have hf : decide xs.Nodup = true := decide_eq_true hnd2
      have HF := Lib.hid hf
      clear hnd2 hf hnd hlt
      go_wp2
      go_ret
      exact ⟨ret_bool HF.out.symm, hd.out⟩
end Go.Proofs.Ytkbcingibgnnpaa
