/- kinkeepref04.Determinant. -/
import Derived.Test.YtchhfpaicdhjbaaMt
import Derived.Test.YtchhfpaicdhjbaaMl
import Derived.Test.YtchhfpaicdhjbaaMp
import Derived.Deep.RegionHeld3
import Derived.Deep.AppendLies
namespace Go.Kin
open Go.RowKit
/-- append, at a step of a region that draws its order: the source any slice that can be read and is not nil. -/
theorem step_append_rd {α : Type} {P : Program} (w : World) {ops : Array Oper} {o : Oper} {a : Act} {K : Act → World → Prop} {Q : Exit → Act → World → Prop} {E : Prop} (hgd : o.guard = none) (s x : Operand) (t : TypeId)
    (ho : o.op = .call { callee := .builtin .append, args := #[s, x], argTypes := #[t, t] }) (f : α → Value) (hf : ∀ x, (f x).oneCell' = true)
    (base : Nat) (e : TypeId) (i : TypeInfo) (z : Value) (bytes : Nat) (ht : P.underlying t = some (.slice e)) (hi : P.info? e = some i) (hz : i.zero = some z)
    (hsize : i.size = 1) (hby : i.bytes = bytes) (hzs : z.cells.size = 1)
    (sa : Option Addr) (n c : Nat) (L : List α) (hs : a.eval s = .slice sa n c) (hown : Own f base e w sa n c L)
    (ad : Addr) (m d : Nat) (X : List α) (hx : a.eval x = .slice (some ad) m d) (hX : Rd f w (some ad) m d X)
    (h63 : n + m ≤ maxLen) (hbytes : (n + m) * bytes ≤ 140737488355328) (hbase : base ≤ w.heap.size)
    (h : ∀ sa' c' w', Own f base e w' sa' (n + m) c' (L ++ X) → w.grownBy w' (Value.slice sa n c).ownBlock → K (a.put o.dst (.slice sa' (n + m) c')) w') :
    if Region.wanted o (yielded ops a.tmps) = true then Oper.wp P o a w K Q else E := by
  have hw : Region.wanted o (yielded ops a.tmps) = true := by simp [Region.wanted, hgd]
  rw [if_pos hw]
  refine wp_append_own w s x t ho base e i z 1 bytes ht hi hz hsize hby hzs (by omega) (.slice sa n c) n (L.map f) hs hown.ownsRow ad m d (X.map f) hx (by rw [List.length_map, hX.len, Nat.mul_one]) ?_ ?_ h63 hbytes hbase ?_
  · intro j u hu
    rw [List.getElem?_map] at hu
    cases hj : X[j]? with
    | none => rw [hj] at hu; cases hu
    | some y =>
      rw [hj] at hu
      cases hu
      obtain ⟨b, o, ha, hc⟩ := hX.cell j y hj
      cases ha
      have e : (⟨b, o, none⟩ : Addr).add j = ⟨b, o + j, none⟩ := by unfold Addr.add; split <;> simp_all
      rw [e]; exact hc
  · intro u hu
    obtain ⟨y, _, rfl⟩ := List.mem_map.1 hu
    exact hf y
  · intro v' w' h1 h2 _
    rw [← List.map_append] at h1
    obtain ⟨sa', c', rfl, ho'⟩ := Own.of_ownsRow h1
    exact h sa' c' w' ho' h2
end Go.Kin
namespace Mat
theorem mrow_take (k c : Nat) (f : Nat → Fq) (h : c ≤ k) : (mrow k f).take c = mrow c f := by
  apply List.ext_getElem?
  intro i
  rw [List.getElem?_take]
  by_cases hi : i < c
  · rw [if_pos hi, mrow_get _ hi, mrow_get _ (by omega)]
  · rw [if_neg hi, List.getElem?_eq_none (by rw [mrow_length]; omega)]
theorem mrow_skip (k c : Nat) (f : Nat → Fq) (h : c ≤ k) : mrow c f ++ (mrow (k + 1) f).drop (c + 1) = mrow k fun j => f (skip c j) := by
  apply List.ext_getElem?
  intro i
  by_cases hi : i < c
  · rw [List.getElem?_append_left (by rw [mrow_length]; exact hi), mrow_get _ hi, mrow_get _ (by omega)]
    show _ = some (f (skip c i)).n
    unfold skip; rw [if_pos hi]
  · rw [List.getElem?_append_right (by rw [mrow_length]; omega), mrow_length, List.getElem?_drop]
    by_cases h2 : i < k
    · rw [mrow_get _ (show c + 1 + (i - c) < k + 1 by omega), mrow_get _ h2]
      show _ = some (f (skip c i)).n
      unfold skip; rw [if_neg hi, show c + 1 + (i - c) = i + 1 by omega]
    · rw [List.getElem?_eq_none (by rw [mrow_length]; omega), List.getElem?_eq_none (by rw [mrow_length]; omega)]
end Mat
namespace Go.Proofs.Ytchhfpaicdhjbaa
open Go.RowKit Go.Kin Mat
open Fq (sum)
set_option maxRecDepth 100000
set_option linter.unusedVariables false

/-- What is left of a row behind a place. -/
theorem rd_behind {w : World} {b o n c : Nat} {l : List Nat} (h : Rd vb w (some ⟨b, o, none⟩) n c l) {k : Nat} (hk : k ≤ n) :
    ∃ ad, (if c - k = 0 then (⟨b, o, none⟩ : Addr) else ⟨b, o + k, none⟩) = ad ∧ Rd vb w (some ad) (n - k) (c - k) (l.drop k) := by
  refine ⟨_, rfl, ?_⟩
  by_cases e : c - k = 0
  · rw [if_pos e]
    have h1 := h.cap
    have h2 : l.drop k = [] := List.drop_of_length_le (by rw [h.len]; omega)
    rw [h2, e, show n - k = 0 by omega]
    exact ⟨rfl, by omega, by simp [maxLen], by simp, by simp⟩
  · rw [if_neg e]; exact h.dropk hk

set_option maxHeartbeats 4000000 in
theorem rdet_any : ∀ (n : Nat) (a : Option Addr) (c : Nat) (f : Mat) (w : World), RdM w a n c (mlist n n f) → n ≤ 64 →
    Calls Try.prog 41 #[.slice a n c] w fun e w' => e = .returned (.int .u8 ((det n f).n : Int)) ∧ Below w.heap.size w w'
  | 0, a, c, f, w, h, hn => by
    go_enter Try.func41, Try.ntmps41
    go_wp2
    go_ret
    exact ⟨rfl, below_refl w⟩
  | k + 1, a, c, f, w, h, hn => by
    have IH := fun a c f w h => rdet_any k a c f w h (by omega)
    obtain ⟨i0, hi, hz0, hz1, hz2⟩ := info_parts info5
    obtain ⟨i1, hi1, hy0, hy1, hy2⟩ := info_parts infoB
    have u0 := Try.underlying34
    have u1 := Try.underlying22
    have H := Lib.hid h
    have e0 : (((k : Int) + 1) == 0) = false := by simp; omega
    obtain ⟨T, HT⟩ : ∃ T : Nat → Fq, Hid (T = fun c => f 0 c * det k (minor c f)) := ⟨_, rfl⟩
    have hdet : Hid (det (k + 1) f = sum T (k + 1)) := by show _ = _; rw [HT.out]; rfl
    have HIH := Lib.hid IH
    clear h IH
    go_enter Try.func41, Try.ntmps41
    go_wp2
    go_loopw [3, 4, 5, 6] (fun s i _ _ wr => ∃ (j s' : Nat), j ≤ k + 1 ∧ i = .int .i64 (j : Int) ∧ s = .int .u8 (s' : Int) ∧ s' < 256 ∧ Hid (Fq.of s' = sum T j) ∧ Hid (Below w.heap.size w wr)) (fun _ i _ _ _ => k + 1 - (intOf i).toNat)
    case atStart => exact ⟨0, 0, by omega, rfl, rfl, by omega, rfl, below_refl w⟩
    case round =>
      obtain ⟨j, s, hj, rfl, rfl, hs, hsum, hbe⟩ := hrel
      by_cases hlt : j < k + 1
      · have i2 : (j : Int) < ((k + 1 : Nat) : Int) := by omega
        have i2' : (j : Int) < (k : Int) + 1 := by omega
        have b1 := below_alloc (.cells (row vh []) 34 (0, 0)) (below_refl wr)
        have M0 := Lib.hid ((matR_empty wr k (minor j f)).mono hbe.out.size)
        have HB0 := Lib.hid (bt hbe.out b1)
        clear b1
        go_wp2_with fail
        go_loopw [5, 6] (fun r i wr => ∃ (q : Nat) (oa : Option Addr) (oc : Nat), q ≤ k ∧ i = .int .i64 ((q : Int) + 1) ∧ r = .slice oa q oc ∧ Hid (MatR wr w.heap.size oa q oc k (minor j f)) ∧ Hid (Below w.heap.size w wr)) (fun _ i _ => k + 1 - (intOf i).toNat)
        case atStart => exact ⟨0, _, 0, by omega, rfl, rfl, M0.out, HB0.out⟩
        case round =>
          obtain ⟨q, oa, oc, hq, rfl, rfl, hM, hb2⟩ := hrel
          by_cases hlq : q < k
          · have i3 : (q : Int) + 1 < (k : Int) + 1 := by omega
            have i4 : 0 ≤ (q : Int) + 1 := by omega
            have i5 : ((q : Int) + 1).toNat = q + 1 := by omega
            obtain ⟨m, ra, rn, rc, ba, ob, hm, rfl, c0w, hrow0⟩ := H.out.row (i := q + 1) (by omega)
            have lbw := lt_of_cell c0w
            have c0 := (cellBelow hb2.out lbw).trans c0w
            have hrow := hrow0.fw hb2.out
            obtain rfl := mlist_row hm
            obtain rfl : k + 1 = rn := by have := hrow.len; rwa [mrow_length] at this
            obtain ⟨bx, ox, rfl, _⟩ := hrow.cell 0 _ (mrow_get _ (by omega))
            have hcap := hrow.cap
            have hmx := hrow.max
            unfold maxLen at hmx
            obtain ⟨ad, had, hbeh⟩ := rd_behind hrow (k := j + 1) (by omega)
            have htk := hrow.take (k := j) (by omega)
            rw [mrow_take _ _ _ (by omega)] at htk
            obtain ⟨L, h3, h4⟩ := hM.out
            have H3 := Lib.hid h3; have H4 := Lib.hid h4
            rw [show k + 1 - (j + 1) = k - j by omega] at hbeh
            have HBH := Lib.hid hbeh; have HTK := Lib.hid htk
            have HAD := Lib.hid had
            have lb := lt_of_cell c0
            have C0W := Lib.hid c0w
            clear h3 h4 hbeh htk hrow hm hM had hrow0 c0w
            by_cases hrc : rc = j + 1
            · have z1 : (j : Int) ≤ (rc : Int) := by omega
              have hjk : j = k := by omega
              have z2 : (j : Int) + 1 ≤ (k : Int) + 1 := by omega
              have z3 : IntKind.i64.wrap ((j : Int) + 1) = (j : Int) + 1 := IntWalk.i64_in _ (by omega)
              have z4 : ((j : Int) + 1).toNat = j + 1 := by omega
              have z5 : 0 ≤ (j : Int) + 1 := by omega
              have z6 : rc - (j + 1) = 0 := by omega
              have z7 : (k : Int) + 1 - ((j : Int) + 1) = ((k - j : Nat) : Int) := by omega
              have z8 : k + 1 - (j + 1) = k - j := by omega
              obtain rfl : ad = ⟨bx, ox, none⟩ := by rw [← HAD.out, if_pos z6]
              have z9 : rc ≤ j + 1 := by omega
              have HJK := Lib.hid hjk
              have HBH0 : Hid (Rd vb wr (some ⟨bx, ox, none⟩) (k - j) 0 (List.drop (j + 1) (mrow (k + 1) (f (q + 1))))) := by have := HBH.out; rw [z6] at this; exact this
              have zif : (if rc = j + 1 then some (⟨bx, ox, none⟩ : Addr) else some ⟨bx, ox + (j + 1), none⟩) = some ⟨bx, ox, none⟩ := if_pos hrc
              clear hjk hrc
              go_wp2_with fail
              go_region_held3 (fun w' => w'.cell? ⟨ba, ob + (q + 1), none⟩ = some (.slice (some ⟨bx, ox, none⟩) (k + 1) rc))
                (first
                  | exact c0
                  | exact k5
                  | exact k6
                  | exact k7
                  | exact k8
                  | go_keep)
                (first
                  | (refine step_append_rd _ (by rfl) (.tmp 24) (.tmp 30) 34 (by rfl) vb vb_one wr.heap.size 5 i0 (.int .u8 0) 1 u0 hi hz0 hz1 hz2 rfl (some ⟨wr.heap.size, 0, none⟩) 0 0 [] (by rfl) ((blk_new vb 5 wr.drew []).own (Nat.le_refl _) (by simp [maxLen])) ⟨bx, ox, none⟩ j rc (mrow j (f (q + 1))) (by rfl) (HTK.out.fw (bt (below_refl wr).drew (below_alloc (.cells #[] 5 (0, 0)) (below_refl wr.drew)))) (by unfold maxLen; omega) (by omega) (by simp) ?_; rw [Nat.zero_add, List.nil_append]; intro sa5 sc5 w5 hown5 hgr5; have B5 : Hid (Below wr.heap.size wr w5) := ((bt (below_refl wr).drew (below_alloc (.cells #[] 5 (0, 0)) (below_refl wr.drew)))).grown hgr5 (by simp) (fun x hx => by cases hx; exact Nat.le_refl _); have O5 := Lib.hid hown5; have k5 : w5.cell? ⟨ba, ob + (q + 1), none⟩ = some (.slice (some ⟨bx, ox, none⟩) (k + 1) rc) := (cellBelow B5.out lb).trans c0; clear hown5 hgr5)
                  | (refine step_append_rd _ (by rfl) (.tmp 31) (.tmp 38) 34 (by rfl) vb vb_one wr.heap.size 5 i0 (.int .u8 0) 1 u0 hi hz0 hz1 hz2 rfl sa5 j sc5 (mrow j (f (q + 1))) (by rfl) O5.out ⟨bx, ox, none⟩ (k - j) 0 _ (by rfl) (HBH0.out.fw B5.out) (by unfold maxLen; omega) (by omega) B5.out.size ?_; rw [mrow_skip k j (f (q + 1)) (by omega), show j + (k - j) = k by omega]; intro sa6 sc6 w6 hown6 hgr6; have B6 : Hid (Below wr.heap.size wr w6) := B5.out.grown hgr6 B5.out.size (fun x hx => own_ge O5.out hx); have ba6 := below_alloc (.cells (row vh [(sa6, k, sc6)]) 34 (0, 0)) (below_refl w6); have O6 := Lib.hid ((hown6.mono (Nat.zero_le _)).fw ba6); have H6 := Lib.hid ((H3.out.fw B6.out).fw ba6); have N6 := Lib.hid (rd_new vh 34 w6 [(sa6, k, sc6)] (n := 1) rfl (by omega)); have B7 := Lib.hid (bt B6.out ba6); have hb7 := Lib.hid ba6; have k6 : w6.cell? ⟨ba, ob + (q + 1), none⟩ = some (.slice (some ⟨bx, ox, none⟩) (k + 1) rc) := (cellBelow B6.out lb).trans c0; have k7 : (w6.alloc (.cells #[.slice sa6 k sc6] 34 (0, 0))).cell? ⟨ba, ob + (q + 1), none⟩ = some (.slice (some ⟨bx, ox, none⟩) (k + 1) rc) := (cellBelow B7.out lb).trans c0; clear hown6 hgr6 ba6)
                  | (refine step_append_rd _ (by rfl) (.tmp 23) (.tmp 40) 22 (by rfl) vh vh_one w.heap.size 34 i1 (.slice none 0 0) 24 u1 hi1 hy0 hy1 hy2 rfl oa q oc L (by rfl) H6.out ⟨w6.heap.size, 0, none⟩ 1 1 [(sa6, k, sc6)] (by rfl) N6.out (by unfold maxLen; omega) (by omega) (Nat.le_trans hb2.out.size B7.out.size) ?_; intro sa8 sc8 w8 hown8 hgr8; have B8 : Hid (Below w.heap.size w w8) := (bt hb2.out B7.out).grown hgr8 (bt hb2.out B7.out).size (fun x hx => own_ge H6.out hx); have M8 := Lib.hid (matR_push (f := minor j f) H6.out (fun i g hg => ((H4.out i g hg).fw B6.out).fw hb7.out) O6.out hown8 hgr8); have k8 : w8.cell? ⟨ba, ob + (q + 1), none⟩ = some (.slice (some ⟨bx, ox, none⟩) (k + 1) rc) := (cellBelow B8.out lbw).trans C0W.out; clear hown8 hgr8))
              go_wp2_with fail
              go_roundw
              case rel =>
                refine ⟨q + 1, sa8, sc8, by omega, by simp, rfl, M8.out.congr fun a b ha hb => ?_, B8.out⟩
                by_cases e : a < q
                · rw [if_pos e]
                · rw [if_neg e, show a = q by omega]; rfl
              case measure => simp [intOf]; omega
            · have z1 : (j : Int) ≤ (rc : Int) := by omega
              have z2 : (j : Int) + 1 ≤ (k : Int) + 1 := by omega
              have z3 : IntKind.i64.wrap ((j : Int) + 1) = (j : Int) + 1 := IntWalk.i64_in _ (by omega)
              have z4 : ((j : Int) + 1).toNat = j + 1 := by omega
              have z5 : 0 ≤ (j : Int) + 1 := by omega
              have z6 : ¬ rc - (j + 1) = 0 := by omega
              have z7 : (k : Int) + 1 - ((j : Int) + 1) = ((k - j : Nat) : Int) := by omega
              have z8 : k + 1 - (j + 1) = k - j := by omega
              obtain rfl : ad = ⟨bx, ox + (j + 1), none⟩ := by rw [← HAD.out, if_neg z6]
              go_wp2_with fail
              go_region_held3 (fun w' => w'.cell? ⟨ba, ob + (q + 1), none⟩ = some (.slice (some ⟨bx, ox, none⟩) (k + 1) rc))
                (first
                  | exact c0
                  | exact k5
                  | exact k6
                  | exact k7
                  | exact k8
                  | go_keep)
                (first
                  | (refine step_append_rd _ (by rfl) (.tmp 24) (.tmp 30) 34 (by rfl) vb vb_one wr.heap.size 5 i0 (.int .u8 0) 1 u0 hi hz0 hz1 hz2 rfl (some ⟨wr.heap.size, 0, none⟩) 0 0 [] (by rfl) ((blk_new vb 5 wr.drew []).own (Nat.le_refl _) (by simp [maxLen])) ⟨bx, ox, none⟩ j rc (mrow j (f (q + 1))) (by rfl) (HTK.out.fw (bt (below_refl wr).drew (below_alloc (.cells #[] 5 (0, 0)) (below_refl wr.drew)))) (by unfold maxLen; omega) (by omega) (by simp) ?_; rw [Nat.zero_add, List.nil_append]; intro sa5 sc5 w5 hown5 hgr5; have B5 : Hid (Below wr.heap.size wr w5) := ((bt (below_refl wr).drew (below_alloc (.cells #[] 5 (0, 0)) (below_refl wr.drew)))).grown hgr5 (by simp) (fun x hx => by cases hx; exact Nat.le_refl _); have O5 := Lib.hid hown5; have k5 : w5.cell? ⟨ba, ob + (q + 1), none⟩ = some (.slice (some ⟨bx, ox, none⟩) (k + 1) rc) := (cellBelow B5.out lb).trans c0; clear hown5 hgr5)
                  | (refine step_append_rd _ (by rfl) (.tmp 31) (.tmp 38) 34 (by rfl) vb vb_one wr.heap.size 5 i0 (.int .u8 0) 1 u0 hi hz0 hz1 hz2 rfl sa5 j sc5 (mrow j (f (q + 1))) (by rfl) O5.out ⟨bx, ox + (j + 1), none⟩ (k - j) (rc - (j + 1)) _ (by rfl) (HBH.out.fw B5.out) (by unfold maxLen; omega) (by omega) B5.out.size ?_; rw [mrow_skip k j (f (q + 1)) (by omega), show j + (k - j) = k by omega]; intro sa6 sc6 w6 hown6 hgr6; have B6 : Hid (Below wr.heap.size wr w6) := B5.out.grown hgr6 B5.out.size (fun x hx => own_ge O5.out hx); have ba6 := below_alloc (.cells (row vh [(sa6, k, sc6)]) 34 (0, 0)) (below_refl w6); have O6 := Lib.hid ((hown6.mono (Nat.zero_le _)).fw ba6); have H6 := Lib.hid ((H3.out.fw B6.out).fw ba6); have N6 := Lib.hid (rd_new vh 34 w6 [(sa6, k, sc6)] (n := 1) rfl (by omega)); have B7 := Lib.hid (bt B6.out ba6); have hb7 := Lib.hid ba6; have k6 : w6.cell? ⟨ba, ob + (q + 1), none⟩ = some (.slice (some ⟨bx, ox, none⟩) (k + 1) rc) := (cellBelow B6.out lb).trans c0; have k7 : (w6.alloc (.cells #[.slice sa6 k sc6] 34 (0, 0))).cell? ⟨ba, ob + (q + 1), none⟩ = some (.slice (some ⟨bx, ox, none⟩) (k + 1) rc) := (cellBelow B7.out lb).trans c0; clear hown6 hgr6 ba6)
                  | (refine step_append_rd _ (by rfl) (.tmp 23) (.tmp 40) 22 (by rfl) vh vh_one w.heap.size 34 i1 (.slice none 0 0) 24 u1 hi1 hy0 hy1 hy2 rfl oa q oc L (by rfl) H6.out ⟨w6.heap.size, 0, none⟩ 1 1 [(sa6, k, sc6)] (by rfl) N6.out (by unfold maxLen; omega) (by omega) (Nat.le_trans hb2.out.size B7.out.size) ?_; intro sa8 sc8 w8 hown8 hgr8; have B8 : Hid (Below w.heap.size w w8) := (bt hb2.out B7.out).grown hgr8 (bt hb2.out B7.out).size (fun x hx => own_ge H6.out hx); have M8 := Lib.hid (matR_push (f := minor j f) H6.out (fun i g hg => ((H4.out i g hg).fw B6.out).fw hb7.out) O6.out hown8 hgr8); have k8 : w8.cell? ⟨ba, ob + (q + 1), none⟩ = some (.slice (some ⟨bx, ox, none⟩) (k + 1) rc) := (cellBelow B8.out lbw).trans C0W.out; clear hown8 hgr8))
              go_wp2_with fail
              go_roundw
              case rel =>
                refine ⟨q + 1, sa8, sc8, by omega, by simp, rfl, M8.out.congr fun a b ha hb => ?_, B8.out⟩
                by_cases e : a < q
                · rw [if_pos e]
                · rw [if_neg e, show a = q by omega]; rfl
              case measure => simp [intOf]; omega
          · have hqk : q = k := by omega
            subst hqk
            obtain ⟨m, ra, rn, rc, ba, ob, hm, rfl, c0w, hrow0⟩ := H.out.row (i := 0) (by omega)
            obtain rfl := mlist_row hm
            obtain rfl : q + 1 = rn := by have := hrow0.len; rwa [mrow_length] at this
            obtain ⟨bx, ox, rfl, d0w⟩ := hrow0.cell j _ (mrow_get _ hlt)
            rw [Nat.add_zero] at c0w
            have lbw := lt_of_cell c0w
            have lbx := lt_of_cell d0w
            obtain ⟨y, hy⟩ : ∃ y, y = (f 0 j).n := ⟨_, rfl⟩
            have y1 : y < 256 := by rw [hy]; exact (f 0 j).h
            rw [← hy] at d0w
            unfold vb at d0w
            have c0 := (cellBelow hb2.out lbw).trans c0w
            have d0 := (cellBelow hb2.out lbx).trans d0w
            have C0W := Lib.hid c0w; have D0W := Lib.hid d0w
            have HY : Hid (Fq.of y = f 0 j) := by show _ = _; rw [hy, Fq.of_val]
            have izq : (0 : Int) < (q : Int) + 1 := by omega
            clear hm hrow0 c0w d0w hy
            by_cases hy0 : y = 0
            · have e2 : (((y : Nat) : Int) != 0) = false := by rw [hy0]; rfl
              have hs2 : Hid (Fq.of s = sum T (j + 1)) := by
                show _ = _
                rw [Fq.sum_succ, ← hsum.out, HT.out]
                show _ = _ + f 0 j * _
                rw [← HY.out, hy0, Fq.of_zero, Fq.zero_mul, Fq.add_zero]
              clear hy0
              go_wp2_with fail
              go_roundw
              case rel => exact ⟨j + 1, s, by omega, by go_num, rfl, hs, hs2.out, hb2.out⟩
              case measure => simp [intOf]; omega
            · have e2 : (((y : Nat) : Int) != 0) = true := by simp; omega
              have HM2 := Lib.hid (hM.out.rdm.fw (fdrewN (below_refl wr) 1))
              obtain ⟨d, hd⟩ : ∃ d, d = (det q (minor j f)).n := ⟨_, rfl⟩
              have d1 : d < 256 := by rw [hd]; exact (det q (minor j f)).h
              have HD : ∀ wx, RdM wx oa q oc (mlist q q (minor j f)) → Calls Try.prog 41 #[.slice oa q oc] wx fun e w' => e = .returned (.int .u8 (d : Int)) ∧ Below wx.heap.size wx w' := fun wx hx => by rw [hd]; exact HIH.out oa oc (minor j f) wx hx
              have HHD := Lib.hid HD
              have hml := Gf.mul_lt y d y1
              obtain ⟨u, hu⟩ : ∃ u, u = Gf.mul y d := ⟨_, rfl⟩
              rw [← hu] at hml
              have X : bits .xor .u8 (s : Int) (u : Int) = ((s ^^^ u : Nat) : Int) := u8_xor_nat s u hs hml
              have hs2 : Hid (Fq.of (s ^^^ u) = sum T (j + 1)) := by
                show _ = _
                rw [Fq.sum_succ, ← hsum.out, HT.out, Fq.of_add hs hml, hu, Fq.of_mul y1 d1, HY.out, hd, Fq.of_val]
              have hsx := Gf.xor_lt hs hml
              have E1 := fun wx => rmul4_any y d wx y1 d1
              rw [← hu] at E1
              have HE1 := Lib.hid E1
              have L2 : w.heap.size ≤ wr.heap.size := hb2.out.size
              clear hy0 hM hd hu E1 HD
              go_wp2_with fail
              go_region_held3 (fun w' => w'.cell? ⟨ba, ob, none⟩ = some (.slice (some ⟨bx, ox, none⟩) (q + 1) rc) ∧ w'.cell? ⟨bx, ox + j, none⟩ = some (.int .u8 (y : Int)))
                (first
                  | exact ⟨c0, d0⟩
                  | exact ⟨k8, k9⟩
                  | go_keep)
                (first
                  | (go_simp; go_at_call 41; refine (HHD.out _ HM2.out).mono ?_; rintro e w9 ⟨rfl, hb9⟩; have B9 : Hid (Below w.heap.size w w9) := bt (hb2.out.trans ((fdrewN (below_refl wr) 1).mono L2)) hb9; have k8 : w9.cell? ⟨ba, ob, none⟩ = some (.slice (some ⟨bx, ox, none⟩) (q + 1) rc) := (cellBelow B9.out lbw).trans C0W.out; have k9 : w9.cell? ⟨bx, ox + j, none⟩ = some (.int .u8 (y : Int)) := (cellBelow B9.out lbx).trans D0W.out)
                  | (go_simp; go_at_call 33; refine (HE1.out _).mono ?_; rintro e w10 ⟨rfl, rfl⟩))
              go_wp2_with fail
              go_roundw
              case rel => exact ⟨j + 1, s ^^^ u, by omega, by go_num, rfl, hsx, hs2.out, B9.out⟩
              case measure => simp [intOf]; omega
      · have hjk : j = k + 1 := by omega
        subst hjk
        have hfin : Hid ((s : Int) = (((det (k + 1) f).n : Nat) : Int)) := by
          show _ = _
          rw [hdet.out, ← hsum.out, Fq.of_n hs]
        go_wp2_with fail
        go_ret
        exact ⟨ret_int hfin.out, hbe.out⟩
end Go.Proofs.Ytchhfpaicdhjbaa
