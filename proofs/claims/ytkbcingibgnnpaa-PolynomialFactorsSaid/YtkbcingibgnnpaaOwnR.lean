/- polynomial.FromRoots. -/
import Derived.Test.YtkbcingibgnnpaaRefD
import Derived.Test.YtkbcingibgnnpaaOwnV
namespace Go.Proofs.Ytkbcingibgnnpaa
open Go.RowKit Go.Kin
set_option maxRecDepth 100000

/-- The block b holds one slice header. -/
def Cell1 (w : World) (b : Nat) (v : Value) : Prop := w.heap[b]? = some (.cells #[v] 22 (0, 0))
theorem Cell1.cell {w : World} {b : Nat} {v : Value} (h : Cell1 w b v) : w.cell? ⟨b, 0, none⟩ = some v := by
  rw [cell_of_row w b 0 _ _ _ h]; rfl
theorem Cell1.frozen {w : World} {b : Nat} {v : Value} (h : Cell1 w b v) : w.frozen? ⟨b, 0, none⟩ = false := frozen_of_row w b 0 _ _ h
theorem Cell1.lt {w : World} {b : Nat} {v : Value} (h : Cell1 w b v) : b < w.heap.size := (Array.getElem?_eq_some_iff.1 h).1
theorem Cell1.set {w : World} {b : Nat} {v : Value} (h : Cell1 w b v) (u : Value) : Cell1 (w.setCell ⟨b, 0, none⟩ u) b u := heap_setCell_same w b 0 _ _ _ h
theorem Cell1.fw {w w' : World} {b : Nat} {v : Value} (h : Cell1 w b v) (hb : Below w.heap.size w w') : Cell1 w' b v := (hb.block b h.lt).trans h

/-- One more root. -/
def RetOne (w : World) (b n : Nat) (p : Poly) (e : Ending) (w' : World) : Prop :=
  ∃ a c L, e = .returned (.tuple #[]) ∧ Cell1 w' b (.slice a n c) ∧ Rd vb w' a n c L ∧ (∀ x, a = some x → x.block ≠ b) ∧ Gf.Byt L ∧ Poly.of L = p ∧ w.grownBy w' (some b)

theorem fromroots1_any (b : Nat) (a : Option Addr) (n c : Nat) (l : List Nat) (x : Int) (w : World) (hC : Cell1 w b (.slice a n c)) (h : Rd vb w a n c l) (hl : Gf.Byt l) (hx0 : 0 ≤ x) (hx1 : x < 256) (hn : n ≤ 140737488355000) :
    Calls Try.prog 56 #[.int .u8 x, .pointer (some ⟨b, 0, none⟩)] w (RetOne w b (1 + n) (Poly.lin (Fq.of x.toNat) * Poly.of l)) := by
  have c1 := hC.cell
  have lb := hC.lt
  have H := Lib.hid h; have HC := Lib.hid hC; clear h hC
  go_enter Try.func56, Try.ntmps56
  go_wp2_with (go_at_call 48; refine (timesroot_any _ _ _ l _ _ H.out hl hx0 hx1 hn).mono ?_; rintro e w2 ⟨L, a2, c2, rfl, ho, hL, hv, b2⟩; have HO := Lib.hid ho; have HL := Lib.hid hL; have HV := Lib.hid hv; have C2 := Lib.hid (HC.out.fw b2); have f2 := C2.out.frozen; have d2 := C2.out.cell; clear ho hL hv)
  go_end0
  have hne : ∀ x, a2 = some x → x.block ≠ b := fun x hx => by have := (own_block HO.out x hx).1; omega
  exact ⟨a2, c2, L, rfl, C2.out.set _, HO.out.rd.other _ _ hne, hne, HL.out, HV.out, grown_set (grown_of_fw b2 _) _ _ rfl⟩

theorem fromroots_big (a : Option Addr) (n c : Nat) (w : World) (hn : 1023 < n) :
    Calls Try.prog 37 #[.slice a n c] w fun e w' => e = .returned (.tuple #[.slice none 0 0, .int .i64 2]) ∧ w = w' := by
  have t1 : decide ((1023 : Int) < (n : Int)) = true := by simp; omega
  go_enter Try.func37, Try.ntmps37
  go_wp2
  go_ret2
  exact ⟨rfl, rfl⟩

set_option maxHeartbeats 1000000 in
theorem fromroots_any (a : Option Addr) (n c : Nat) (l : List Nat) (w : World) (h : Rd vb w a n c l) (hl : Gf.Byt l) (hn : n ≤ 1023) :
    Calls Try.prog 37 #[.slice a n c] w fun e w' => ∃ a' c', e = .returned (.tuple #[.slice a' (1 + n) c', .int .i64 0]) ∧ Rd vb w' a' (1 + n) c' (Poly.out (Poly.prod l)) ∧ Below w.heap.size w w' := by
  have t1 : decide ((1023 : Int) < (n : Int)) = false := by simp; omega
  have H := Lib.hid h; clear h
  go_enter Try.func37, Try.ntmps37
  go_wp2_with fail
  have C0 : Cell1 ((w.alloc (.cells (row vb [1]) 5 (0, 0))).alloc (.cells #[.slice (some ⟨w.heap.size, 0, none⟩) 1 1] 22 (0, 0))) (w.heap.size + 1) (.slice (some ⟨w.heap.size, 0, none⟩) 1 1) := heap_alloc2_new w _ _
  have R0 := Rd.alloc (.cells #[.slice (some ⟨w.heap.size, 0, none⟩) 1 1] 22 (0, 0)) (rd_new vb 5 w [1] (n := 1) rfl (by omega))
  have B0 : Below w.heap.size w ((w.alloc (.cells (row vb [1]) 5 (0, 0))).alloc (.cells #[.slice (some ⟨w.heap.size, 0, none⟩) 1 1] 22 (0, 0))) := below_alloc _ (below_alloc _ (below_refl w))
  have HC0 := Lib.hid C0; have HR0 := Lib.hid R0
  clear C0 R0
  go_loopw [7, 15] (fun _ i wr => ∃ (k : Nat) (L : List Nat) (pa : Option Addr) (pc : Nat), k ≤ n ∧ i = .int .i64 (k : Int) ∧ Hid (Cell1 wr (w.heap.size + 1) (.slice pa (1 + k) pc)) ∧ Hid (Rd vb wr pa (1 + k) pc L) ∧ Hid (Gf.Byt L) ∧ Hid (Poly.of L = Poly.prod (l.take k)) ∧ Below w.heap.size w wr) (fun _ i _ => n - (intOf i).toNat)
  case atStart =>
    refine ⟨0, [1], _, 1, by omega, rfl, HC0.out, HR0.out, byt1 (by omega), ?_, B0⟩
    show _ = _
    rw [List.take_zero, Poly.prod_nil]; rfl
  case round =>
    obtain ⟨k, L, pa, pc, hk, rfl, hC, hR, hL, hv, hbe⟩ := hrel
    by_cases hlt : k < n
    · obtain ⟨x, hx⟩ : ∃ x, l[k]? = some x := ⟨_, List.getElem?_eq_getElem (by rw [H.out.len]; exact hlt)⟩
      obtain ⟨b, o, rfl, c1⟩ := (H.out.fw hbe).cell k x hx
      have bx := hl.at hx
      have HX := Lib.hid hx
      clear hx
      unfold vb at c1
      have i1 : (k : Int) < (n : Int) := by omega
      go_wp2_with (go_at_call 56; refine (fromroots1_any (w.heap.size + 1) pa (1 + k) pc L _ _ hC.out hR.out hL.out (by omega) (by omega) (by omega)).mono ?_; rintro e w3 ⟨a3, c3, L3, rfl, hC3, hR3, _, hL3, hv3, hg3⟩; have HC3 := Lib.hid hC3; have HR3 := Lib.hid hR3; have HL3 := Lib.hid hL3; have HV3 := Lib.hid hv3; have B3 := below_grown hbe hg3 (Nat.le_succ _); clear hC3 hR3 hL3 hv3 hg3)
      go_roundw
      case rel =>
        refine ⟨k + 1, L3, a3, c3, by omega, by go_num, ?_, ?_, HL3.out, ?_, B3⟩
        · rw [show 1 + (k + 1) = 1 + (1 + k) from by omega]; exact HC3.out
        · rw [show 1 + (k + 1) = 1 + (1 + k) from by omega]; exact HR3.out
        · show _ = _
          rw [HV3.out, take_succ_get HX.out, Poly.prod_snoc, hv.out, Int.toNat_natCast]
      case measure => simp [intOf]; omega
    · have hkn : k = n := by omega
      subst hkn
      have c1 := hC.out.cell
      have hfin : L = Poly.out (Poly.prod l) := by
        refine Poly.eq_out hL.out ?_ (by rw [Poly.sz_prod, H.out.len, hR.out.len]; omega)
        rw [hv.out, List.take_of_length_le (by rw [H.out.len]; omega)]
      have HF := Lib.hid hfin
      clear hfin
      go_wp2
      go_ret2
      exact ⟨pa, pc, rfl, by rw [← HF.out]; exact hR.out, hbe⟩
end Go.Proofs.Ytkbcingibgnnpaa
