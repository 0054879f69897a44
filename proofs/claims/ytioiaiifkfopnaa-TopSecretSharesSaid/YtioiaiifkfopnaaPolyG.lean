/- polynomial.timesRoot, withoutRoot. -/
import Derived.Test.YtioiaiifkfopnaaPolyW
namespace Poly
theorem of_cons_zero (p : List Nat) : of ([0] ++ p) = mon 1 1 * of p := ext fun i => by
  rw [cf_of, cf_mon_mul]
  cases i with
  | zero => rw [if_neg (by omega)]; rfl
  | succ i => rw [if_pos (by omega), Fq.one_mul, cf_of]; rfl

/-- Synthetic division: p[1 ..] changed from its end on. -/
def Synth (p : List Nat) (r : Fq) (d : Poly) : Prop := ∀ i, d.cf i = (of p).cf (i + 1) + d.cf (i + 1) * r
end Poly
namespace Go.Proofs.Ytioiaiifkfopnaa
open Go.RowKit Go.Kin
set_option maxRecDepth 100000

/-- A slice of the call's own, of n bytes, that holds a polynomial. -/
def RetList (w : World) (n : Nat) (p : Poly) (e : Ending) (w' : World) : Prop :=
  ∃ L a c, e = .returned (.slice a n c) ∧ Own vb w.heap.size 5 w' a n c L ∧ Gf.Byt L ∧ Poly.of L = p ∧ Below w.heap.size w w'

theorem timesroot_any (a : Option Addr) (n c : Nat) (p : List Nat) (x : Int) (w : World) (h : Rd vb w a n c p) (hp : Gf.Byt p) (hx0 : 0 ≤ x) (hx1 : x < 256) (hn : n ≤ 140737488355000) :
    Calls Try.prog 51 #[.slice a n c, .int .u8 x] w (RetList w (1 + n) ((Poly.mon 1 1 + Poly.C (Fq.of x.toNat)) * Poly.of p)) := by
  obtain ⟨i0, hi, hz0, hz1, hz2⟩ := info_parts info5
  have u1 := Try.underlying23
  have H := Lib.hid h; clear h
  go_enter Try.func51, Try.ntmps51
  have N0 := blk_new vb 5 w [0]
  have N1 := Lib.hid (N0.own (B := w.heap.size) (Nat.le_refl _) (by simp [maxLen]))
  have hb1 : Below w.heap.size w (w.alloc (.cells (row vb [0]) 5 (0, 0))) := (Below.refl _ _).alloc (Nat.le_refl _) _
  have A1 := Lib.hid (H.out.fw hb1)
  clear N0
  have hm := H.out.max
  have hc := H.out.cap
  have BZ : Gf.Byt ([0] ++ p) := Poly.append_byt (fun x hx => by simp at hx; omega) hp
  go_wp2_with (first
    | (at_builtin; refine wpList_append_rd rfl (.tmp 6) (.tmp 7) 23 rfl vb vb_one w.heap.size 5 i0 (.int .u8 0) 1 u1 hi hz0 hz1 hz2 rfl _ 1 1 [0] rfl N1.out _ n c p rfl A1.out (by unfold maxLen; omega) (by omega) hb1.size ?_; intro sa c2 w2 hown hgr; obtain ⟨g, rfl, hg, hcm, hpre⟩ := hown.pre (by omega); have HP := Lib.hid hpre; have hb2 := hb1.grown hgr hb1.size (fun k e => by cases e; exact Nat.le_refl _); have A2 := Lib.hid (H.out.fw hb2); clear hown hgr hpre)
    | (go_at_call 50; refine (addto_pre g c2 0 (1 + n) c2 ([0] ++ p) a n c p x _ HP.out BZ A2.out hp hx0 hx1 (by rw [List.length_append, H.out.len]; simp) (by omega) (by omega)).mono ?_; rintro e w3 ⟨rfl, L', hl, hb, hv, hB, hgr⟩))
  go_ret
  refine ⟨L', some ⟨g, 0, none⟩, c2, rfl, hB.own (by rw [hl, List.length_append, H.out.len]; rfl) hcm hg, hb, ?_, below_grown hb2 hgr hg⟩
  rw [hv, Poly.of_cons_zero, ← Poly.C_eq_mon, ← Poly.add_mul]

end Go.Proofs.Ytioiaiifkfopnaa
