/- polynomial.Degree, Trim, Add, addTo, Mul. -/
import Derived.Test.YtioiaiifkfopnaaPolyB
import Derived.Test.YtioiaiifkfopnaaScale
import Derived.Test.YtioiaiifkfopnaaKitP
namespace Go.Proofs.Ytioiaiifkfopnaa
open Go.RowKit Go.Kin
set_option maxRecDepth 100000

theorem degree_any (a : Option Addr) (n c : Nat) (l : List Nat) (w : World) (h : Rd vb w a n c l) (hl : Gf.Byt l) :
    Calls Try.prog 68 #[.slice a n c] w fun e w' => e = .returned (.int .i64 (((Poly.of l).sz : Nat) - 1 : Int)) ∧ w = w' := by
  have hm : n ≤ 9223372036854775807 := by have := h.cap; have := h.max; unfold maxLen at *; omega
  have H := Lib.hid h; clear h
  go_enter Try.func68, Try.ntmps68
  go_wp2
  go_loop [3] (fun i => ∃ k : Nat, k ≤ n ∧ i = .int .i64 ((k : Int) - 1) ∧ Hid (∀ j x, k ≤ j → l[j]? = some x → x = 0)) (fun i => (intOf i + 1).toNat)
  case atStart => exact ⟨n, Nat.le_refl _, rfl, fun j x hj hx => by have := (List.getElem?_eq_some_iff.1 hx).1; rw [H.out.len] at this; omega⟩
  case round =>
    obtain ⟨k, hk, rfl, hz⟩ := hrel
    by_cases hk0 : k = 0
    · subst hk0
      have hs : (Poly.of l).sz = 0 := Poly.sz_of_eq hl (by omega) hz.out (by omega)
      have HS := Lib.hid hs; clear hs
      go_wp2
      go_ret
      exact ⟨ret_int (by rw [HS.out]; rfl), rfl⟩
    · have hkp : 0 < k := by omega
      obtain ⟨x, hx⟩ : ∃ x, l[k - 1]? = some x := ⟨_, List.getElem?_eq_getElem (by rw [H.out.len]; omega)⟩
      obtain ⟨b, o, rfl, c1⟩ := H.out.cell (k - 1) x hx
      have bx := hl.at hx
      unfold vb at c1
      have i1 : ((k : Int) - 1) < (n : Int) := by omega
      have i0 : 0 ≤ ((k : Int) - 1) := by omega
      have e1 : decide ((0 : Int) ≤ (k : Int) - 1) = true := by simp; omega
      by_cases hx0 : x = 0
      · subst hx0
        have hz2 : Hid (∀ j x, k - 1 ≤ j → l[j]? = some x → x = 0) := by
          intro j y hj hy
          by_cases e : j = k - 1
          · rw [e, hx] at hy; cases hy; rfl
          · exact hz.out j y (by omega) hy
        have HX := Lib.hid hx; clear hx hk0
        go_wp2
        go_round
        case rel => exact ⟨k - 1, by omega, by rw [show ((k - 1 : Nat) : Int) = (k : Int) - 1 from by omega], hz2⟩
        case measure => simp [intOf]; omega
      · have e2 : (((x : Nat) : Int) == 0) = false := by simp; omega
        have hs : (Poly.of l).sz = k := by
          refine Poly.sz_of_eq hl (by rw [H.out.len]; exact hk) hz.out fun _ y hy => ?_
          rw [hx] at hy; cases hy; exact hx0
        have HS := Lib.hid hs; clear hs hx hx0 hk0
        go_wp2
        go_ret
        exact ⟨ret_int (by rw [HS.out]), rfl⟩

theorem trim_any (a : Option Addr) (n c : Nat) (l : List Nat) (w : World) (h : Rd vb w a n c l) (hl : Gf.Byt l) (hn : n ≤ 140737488355328) :
    Calls Try.prog 52 #[.slice a n c] w (RetBlk vb 5 w (Poly.out (Poly.of l))) := by
  obtain ⟨i0, hi, hz0, hz1, hz2⟩ := info_parts info5
  have hsz : (Poly.of l).sz ≤ n := by rw [← h.len]; exact Poly.sz_of_le l
  obtain ⟨m, hm⟩ : ∃ m, m = (Poly.of l).sz := ⟨_, rfl⟩
  have hout : l.take m = Poly.out (Poly.of l) := by
    have hlen : (l.take m).length = m := by rw [List.length_take, h.len]; omega
    refine Poly.eq_out (fun x hx => hl x (List.mem_of_mem_take hx)) ?_ (by rw [hlen, hm])
    apply Poly.ext
    intro i
    rw [Poly.cf_of, Poly.cf_of, List.getD_eq_getElem?_getD, List.getD_eq_getElem?_getD, List.getElem?_take]
    by_cases hi : i < m
    · rw [if_pos hi]
    · rw [if_neg hi]
      have := Poly.cf_of_ge (p := Poly.of l) (i := i) (by omega)
      rw [Poly.cf_of, List.getD_eq_getElem?_getD] at this
      rw [this]; rfl
  have hsz2 : m ≤ n := by omega
  have HM := Lib.hid hm; have HO := Lib.hid hout; have H := Lib.hid h; clear h hm hout hsz
  have u1 := Try.underlying23
  have s1 : (Try.prog.info? 5).map (·.size) = some 1 := by rw [hi]; simp [hz1]
  go_enter Try.func52, Try.ntmps52
  go_wp2_with (first
    | (go_at_call 68; refine (degree_any _ _ _ l _ H.out hl).mono ?_; rintro e w' ⟨rfl, rfl⟩; rw [← HM.out])
    | (at_make; refine wpList_make_blk rfl (.tmp 6) (.tmp 6) 23 rfl vb 0 5 i0 u1 hi hz0 hz1 rfl _ _ _ _ m rfl rfl (by simp) (by simp) (by rw [hz2]; omega) (by omega) ?_; intro w2 hk2 hb2 hs2; have HK2 := Lib.hid hk2; have A2 := Lib.hid (H.out.fw hb2); clear hk2 hs2)
    | (refine wpList_copy_blk rfl (.tmp 8) (.tmp 9) 23 23 rfl 5 u1 s1 vb vb_one w.heap.size 0 m m n c a rfl rfl (List.replicate m 0) l 5 HK2.out A2.out (by rw [List.length_replicate, Nat.zero_add]; exact Nat.min_le_right _ _) ?_; intro w3 hw3; have HW3 := Lib.hid hw3; clear hw3))
  go_ret
  have hcnt : n.min m = m := Nat.min_eq_right hsz2
  have hB : Blk vb 5 w3 w.heap.size (l.take m) := by
    have := HW3.out.blk
    rw [hcnt, over_all _ _ (by rw [List.length_take, H.out.len, List.length_replicate]; omega)] at this
    exact this
  refine ⟨w.heap.size, ?_, Nat.le_refl _, ?_, HW3.out.bfw hb2 (Nat.le_refl _)⟩
  · rw [Poly.out_length, ← HM.out]; rfl
  · rw [← HO.out]; exact hB

/-- What addTo leaves behind: the block g holds the polynomial P. -/
def AddedP (w : World) (g cap : Nat) (L : List Nat) (p : Poly) (w' : World) : Prop :=
  ∃ L', L'.length = L.length ∧ Gf.Byt L' ∧ Poly.of L' = p ∧ Pre vb 5 w' g cap L' ∧ w.grownBy w' (some g)

theorem addto_pre (g cap off n c : Nat) (L : List Nat) (b : Option Addr) (m d : Nat) (q : List Nat) (x : Int) (w : World) (hB : Pre vb 5 w g cap L) (hL : Gf.Byt L) (h : Rd vb w b m d q) (hq : Gf.Byt q) (hx0 : 0 ≤ x) (hx1 : x < 256)
    (hfit : off + m ≤ L.length) (hmn : m ≤ n) (hm : m ≤ 140737488355328) :
    Calls Try.prog 50 #[.slice (some ⟨g, off, none⟩) n c, .slice b m d, .int .u8 x] w fun e w' => e = .returned (.tuple #[]) ∧ AddedP w g cap L (Poly.of L + Poly.mon (Fq.of x.toNat) off * Poly.of q) w' := by
  obtain ⟨y, rfl⟩ := Int.eq_ofNat_of_zero_le hx0
  have hy : y < 256 := by omega
  have H := Lib.hid h; have HB := Lib.hid hB; clear h hB
  by_cases hy0 : y = 0
  · subst hy0
    go_enter Try.func50, Try.ntmps50
    go_wp2
    refine bodyPost_ret (v := .tuple #[]) (results_none Try.results50 _ _ _) rfl ?_
    refine ⟨rfl, L, rfl, hL, ?_, HB.out, grown_refl _ _⟩
    rw [show Fq.of ((0 : Nat) : Int).toNat = 0 from rfl, Poly.mon_zero, Poly.zero_mul, Poly.add_zero]
  · have e0 : (((y : Nat) : Int) == 0) = false := by simp; omega
    clear hy0
    have hs := Gf.scale_byt q y hy
    have HS := Lib.hid hs; clear hs
    go_enter Try.func50, Try.ntmps50
    go_wp2_with (go_at_call 67; refine (scale_any _ _ _ q _ _ H.out hq (by omega) (by omega) hm).mono ?_; rintro e w1 ⟨g1, rfl, hg1, hG1, hb1⟩; rw [List.length_map, H.out.len]; have HG1 := Lib.hid hG1; clear hG1; have HB1 := Lib.hid (HB.out.fw hb1))
    go_loopw [6, 7, 14] (fun _ _ i wr => ∃ (k : Nat) (L' : List Nat), k ≤ m ∧ i = .int .i64 (k : Int) ∧ Hid (L'.length = L.length) ∧ Hid (Gf.Byt L') ∧ Hid (Poly.of L' = Poly.of L + Poly.mon 1 off * Poly.of ((q.map (Gf.mul y)).take k)) ∧ Hid (Pre vb 5 wr g cap L') ∧ Hid (Blk vb 5 wr g1 (q.map (Gf.mul y))) ∧ Hid (w.grownBy wr (some g))) (fun _ _ i _ => m - (intOf i).toNat)
    case atStart =>
      refine ⟨0, L, by omega, rfl, rfl, hL, ?_, HB1.out, HG1.out, grown_of_fw hb1 _⟩
      show _ = _
      rw [Poly.of_take_zero, Poly.mul_zero, Poly.add_zero]
    case round =>
      obtain ⟨k, L', hk, rfl, hlen, hbyt, hval, hBk, hG, hgr⟩ := hrel
      by_cases hlt : k < m
      · obtain ⟨z, hz⟩ : ∃ z, (q.map (Gf.mul y))[k]? = some z := ⟨_, List.getElem?_eq_getElem (by rw [List.length_map, H.out.len]; exact hlt)⟩
        obtain ⟨u, hu⟩ : ∃ u, L'[off + k]? = some u := ⟨_, List.getElem?_eq_getElem (by rw [hlen.out]; omega)⟩
        have c1 := hG.out.cell hz
        have d1 := hBk.out.cell hu
        have f1 := hBk.out.frozen (off + k)
        have bz := HS.out.at hz
        have bu := hbyt.out.at hu
        have ex : bits .xor .u8 ((u : Nat) : Int) ((z : Nat) : Int) = ((u ^^^ z : Nat) : Int) := by rw [xor8 _ _ (by omega) (by omega) (by omega) (by omega)]; rfl
        have EX := Lib.hid ex; have HZ := Lib.hid hz; have HU := Lib.hid hu; clear ex hz hu
        unfold vb at c1 d1
        have i1 : (k : Int) < (m : Int) := by omega
        have i2 : (k : Int) < (n : Int) := by omega
        go_wp2
        go_roundw
        case rel =>
          refine ⟨k + 1, L'.set (off + k) (u ^^^ z), by omega, by go_num, ?_, ?_, ?_, ?_, ?_, ?_⟩
          · show (L'.set _ _).length = _
            rw [List.length_set]; exact hlen.out
          · exact Poly.set_byt hbyt.out (Gf.xor_lt bu bz) _
          · show _ = _
            rw [Poly.of_set hbyt.out HU.out bz, Poly.of_take_succ HZ.out, hval.out, Poly.mul_add, Poly.mon_mul_mon, Fq.one_mul, Poly.add_assoc]
          · rw [EX.out]
            exact hBk.out.set (off + k) _
          · exact hG.out.other _ _ (by show g1 ≠ g; have := HB.out.lt; omega)
          · exact grown_set hgr.out _ _ rfl
        case measure => simp [intOf]; omega
      · have hkm : k = m := by omega
        have hfin : Poly.of L' = Poly.of L + Poly.mon (Fq.of y) off * Poly.of q := by
          rw [hval.out, hkm, List.take_of_length_le (by rw [List.length_map, H.out.len]; omega), Poly.of_scale hq hy, Poly.C_eq_mon, ← Poly.mul_assoc, Poly.mon_mul_mon, Fq.one_mul, Nat.add_zero]
        have HF := Lib.hid hfin; clear hfin hkm
        go_wp2
        go_end0
        exact ⟨rfl, L', hlen.out, hbyt.out, by rw [HF.out, Int.toNat_natCast], hBk.out, hgr.out⟩

/-- What addTo leaves behind: the block g holds the polynomial P. -/
def Added (w : World) (g : Nat) (L : List Nat) (p : Poly) (w' : World) : Prop :=
  ∃ L', L'.length = L.length ∧ Gf.Byt L' ∧ Poly.of L' = p ∧ Blk vb 5 w' g L' ∧ w.grownBy w' (some g)

theorem addto_any (g off n c : Nat) (L : List Nat) (b : Option Addr) (m d : Nat) (q : List Nat) (x : Int) (w : World) (hB : Blk vb 5 w g L) (hL : Gf.Byt L) (h : Rd vb w b m d q) (hq : Gf.Byt q) (hx0 : 0 ≤ x) (hx1 : x < 256)
    (hfit : off + m ≤ L.length) (hmn : m ≤ n) (hm : m ≤ 140737488355328) :
    Calls Try.prog 50 #[.slice (some ⟨g, off, none⟩) n c, .slice b m d, .int .u8 x] w fun e w' => e = .returned (.tuple #[]) ∧ Added w g L (Poly.of L + Poly.mon (Fq.of x.toNat) off * Poly.of q) w' :=
  (addto_pre g L.length off n c L b m d q x w hB.pre hL h hq hx0 hx1 hfit hmn hm).mono fun _ _ ⟨he, L', hl, hb, hv, hp, hg⟩ => ⟨he, L', hl, hb, hv, hp.blk hl, hg⟩

theorem Blk.retOwn {w w' : World} {g : Nat} {p : Poly} (hg : w.heap.size ≤ g) (hB : Blk vb 5 w' g (Poly.out p)) (hb : Below w.heap.size w w') {n : Nat} (hn : p.sz = n) (hm : n ≤ 9223372036854775807) :
    RetOwn vb 5 w (Poly.out p) (.returned (.slice (some ⟨g, 0, none⟩) n n)) w' := by
  subst hn
  have hl := Poly.out_length p
  refine ⟨some ⟨g, 0, none⟩, p.sz, by rw [hl], ?_, hb⟩
  have := hB.own hg (by rw [hl]; unfold maxLen; omega)
  rw [hl] at this ⊢
  exact this

end Go.Proofs.Ytioiaiifkfopnaa
