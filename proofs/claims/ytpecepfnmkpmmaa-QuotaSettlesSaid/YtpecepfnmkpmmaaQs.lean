/- The reference's Held and Balance. -/
import Derived.Test.YtpecepfnmkpmmaaQr
import Derived.StillTailTactics
namespace Quo
/-- What is held, reckoned as far as row j, number u. -/
def hp (T : Tab) (j u d : Nat) : Int := if d < j then (T.getD d []).sum else if d = j then ((T.getD d []).take u).sum else 0
def hpL (T : Tab) (n j u : Nat) : List Int := (List.range n).map (hp T j u)
theorem map_range_get {α : Type} {f : Nat → α} {n i : Nat} (h : i < n) : ((List.range n).map f)[i]? = some (f i) := by
  rw [List.getElem?_map, List.getElem?_range h]; rfl
theorem map_range_set {α : Type} {f g : Nat → α} {n i : Nat} {x : α} (hi : i < n) (hx : g i = x) (h : ∀ d, d ≠ i → f d = g d) : ((List.range n).map f).set i x = (List.range n).map g := by
  apply List.ext_getElem?
  intro d
  rw [List.getElem?_set]
  by_cases e : i = d
  · subst e
    rw [if_pos rfl, if_pos (by simp; exact hi), map_range_get hi, hx]
  · rw [if_neg e, List.getElem?_map, List.getElem?_map]
    by_cases hd : d < n
    · rw [List.getElem?_range hd]; simp [h d (Ne.symm e)]
    · rw [List.getElem?_eq_none (by simp; omega)]; rfl
theorem map_range_congr {α : Type} {f g : Nat → α} {n : Nat} (h : ∀ d, d < n → f d = g d) : (List.range n).map f = (List.range n).map g := by
  apply List.map_congr_left
  intro d hd
  exact h d (by simpa using hd)
theorem hpL_zero (T : Tab) (n : Nat) : hpL T n 0 0 = List.replicate n 0 := by
  unfold hpL hp
  apply List.ext_getElem?
  intro d
  by_cases hd : d < n
  · rw [map_range_get hd]; simp [hd]
  · simp [hd]
theorem hpL_all {T : Tab} {n : Nat} (h : T.length = n) : hpL T n n 0 = heldF T := by
  unfold hpL heldF
  apply List.ext_getElem?
  intro d
  by_cases hd : d < n
  · rw [map_range_get hd, List.getElem?_map, get_some (by rw [h]; exact hd) []]
    simp [hp, hd]
  · rw [List.getElem?_eq_none (by simp; omega), List.getElem?_eq_none (by simp; omega)]
theorem hpL_step {T : Tab} {n j u : Nat} {m : List Int} {x : Int} (hj : j < n) (hm : T[j]? = some m) (hx : m[u]? = some x) : (hpL T n j u).set j ((m.take u).sum + x) = hpL T n j (u + 1) := by
  refine map_range_set hj ?_ fun d hd => ?_
  · unfold hp
    rw [if_neg (by omega), if_pos rfl, getD_of hm, sum_snoc hx]
  · unfold hp
    rw [if_neg hd, if_neg hd]
theorem hpL_get {T : Tab} {n j u : Nat} {m : List Int} (hj : j < n) (hm : T[j]? = some m) : (hpL T n j u)[j]? = some (m.take u).sum := by
  unfold hpL
  rw [map_range_get hj]
  unfold hp
  rw [if_neg (by omega), if_pos rfl, getD_of hm]
theorem hpL_row {T : Tab} {n j : Nat} {m : List Int} (hm : T[j]? = some m) {u : Nat} (hu : m.length = u) : hpL T n j u = hpL T n (j + 1) 0 := by
  refine map_range_congr fun d hd => ?_
  unfold hp
  by_cases h1 : d < j
  · rw [if_pos h1, if_pos (by omega)]
  · by_cases h2 : d = j
    · subst h2
      rw [if_neg h1, if_pos rfl, if_pos (by omega), getD_of hm, List.take_of_length_le (by omega)]
    · rw [if_neg h1, if_neg h2, if_neg (by omega)]
      split <;> simp

/-- Balances, reckoned as far as row j, number u. -/
def bp (T : Tab) (j u d : Nat) : Int := ((col T d).take j).sum + (if d < u then at2 T j d else 0) - hp T j u d
def bpL (T : Tab) (n j u : Nat) : List Int := (List.range n).map (bp T j u)
/-- The balance between the two stores of one number. -/
def bq (T : Tab) (j u d : Nat) : Int := ((col T d).take j).sum + (if d < u + 1 then at2 T j d else 0) - hp T j u d
def bqL (T : Tab) (n j u : Nat) : List Int := (List.range n).map (bq T j u)
theorem bpL_zero (T : Tab) (n : Nat) : bpL T n 0 0 = List.replicate n 0 := by
  rw [← hpL_zero T n]
  refine map_range_congr fun d hd => ?_
  unfold bp
  simp [hp]
theorem col_get {T : Tab} {j : Nat} {m : List Int} (hm : T[j]? = some m) (d : Nat) : (col T d)[j]? = some (m.getD d 0) := by
  unfold col
  rw [List.getElem?_map, hm]; rfl
theorem bpL_all {T : Tab} {n : Nat} (h : T.length = n) : bpL T n n 0 = balF T := by
  unfold balF
  rw [h]
  refine map_range_congr fun d hd => ?_
  unfold bp hp
  rw [if_neg (by omega), if_pos hd, List.take_of_length_le (by unfold col; simp; omega)]
  omega
theorem bpL_row {T : Tab} {n j : Nat} {m : List Int} (hm : T[j]? = some m) {u : Nat} (hu : m.length = u) : bpL T n j u = bpL T n (j + 1) 0 := by
  refine map_range_congr fun d hd => ?_
  have h1 : hp T j u d = hp T (j + 1) 0 d := by
    unfold hp
    by_cases h1 : d < j
    · rw [if_pos h1, if_pos (by omega)]
    · by_cases h2 : d = j
      · subst h2
        rw [if_neg h1, if_pos rfl, if_pos (by omega), getD_of hm, List.take_of_length_le (by omega)]
      · rw [if_neg h1, if_neg h2, if_neg (by omega)]
        split <;> simp
  unfold bp
  rw [h1, sum_snoc (col_get hm d)]
  have h2 : at2 T j d = m.getD d 0 := by unfold at2; rw [getD_of hm]
  rw [h2]
  by_cases h3 : d < u
  · rw [if_pos h3, if_neg (by omega)]; omega
  · rw [if_neg h3, if_neg (by omega)]
    have : m.getD d 0 = 0 := by rw [List.getD_eq_getElem?_getD, List.getElem?_eq_none (by omega)]; rfl
    omega
theorem bpL_step1 {T : Tab} {n j u : Nat} (hu : u < n) : (bpL T n j u).set u (bp T j u u + at2 T j u) = bqL T n j u := by
  refine map_range_set hu ?_ fun d hd => ?_
  · unfold bq bp
    rw [if_pos (by omega), if_neg (by omega)]; omega
  · unfold bq bp
    by_cases h : d < u
    · rw [if_pos h, if_pos (by omega)]
    · rw [if_neg h, if_neg (by omega)]
theorem bpL_step2 {T : Tab} {n j u : Nat} {m : List Int} {x : Int} (hj : j < n) (hm : T[j]? = some m) (hx : m[u]? = some x) : (bqL T n j u).set j (bq T j u j - x) = bpL T n j (u + 1) := by
  refine map_range_set hj ?_ fun d hd => ?_
  · unfold bq bp hp
    rw [if_neg (show ¬ j < j by omega), if_pos rfl, if_neg (show ¬ j < j by omega), if_pos rfl, getD_of hm, sum_snoc hx]; omega
  · unfold bq bp hp
    rw [if_neg hd, if_neg hd]
theorem abs_sum {l : List Int} (h : Cnt l) (hl : l.length ≤ 12) : 0 ≤ l.sum ∧ l.sum ≤ 13194139533312 := by
  have := cnt_sum h
  unfold maxC at this
  have h2 : (l.length : Int) * 1099511627776 ≤ 12 * 1099511627776 := by omega
  omega
theorem hp_bound {T : Tab} (h : VT T) (j u d : Nat) : 0 ≤ hp T j u d ∧ hp T j u d ≤ 13194139533312 := by
  have hc : Cnt (T.getD d []) ∧ (T.getD d []).length ≤ 12 := by
    by_cases hd : d < T.length
    · have hr := get_some hd ([] : List Int)
      exact ⟨(h.row hr).2.2, by rw [(h.row hr).1]; exact h.1⟩
    · rw [List.getD_eq_getElem?_getD, List.getElem?_eq_none (by omega)]; exact ⟨fun x hx => by simp at hx, by simp⟩
  unfold hp
  split
  · exact abs_sum hc.1 hc.2
  · split
    · exact abs_sum (cnt_take hc.1 u) (by rw [List.length_take]; omega)
    · omega
theorem col_bound {T : Tab} (h : VT T) {d : Nat} (hd : d < T.length) (j : Nat) : 0 ≤ ((col T d).take j).sum ∧ ((col T d).take j).sum ≤ 13194139533312 :=
  abs_sum (cnt_take (h.col hd) j) (by rw [List.length_take]; unfold col; rw [List.length_map]; have := h.1; omega)
theorem at2_small {T : Tab} (h : VT T) (i j : Nat) : 0 ≤ at2 T i j ∧ at2 T i j ≤ 1099511627776 := by
  refine ⟨at2_nonneg h i j, ?_⟩
  by_cases hi : i < T.length
  · by_cases hj : j < T.length
    · obtain ⟨_, _, _, _, _, h1⟩ := h.cell hi hj; unfold maxC at h1; exact h1
    · have := (h.row (get_some hi [])).1
      unfold at2
      rw [List.getD_eq_getElem?_getD (i := j), List.getElem?_eq_none (by omega)]; simp
  · unfold at2
    rw [List.getD_eq_getElem?_getD (i := i), List.getElem?_eq_none (by omega)]; simp
theorem bp_bound {T : Tab} (h : VT T) {d : Nat} (hd : d < T.length) (j u : Nat) : -20000000000000 ≤ bp T j u d ∧ bp T j u d ≤ 20000000000000 := by
  have h1 := hp_bound h j u d
  have h2 := col_bound h hd j
  have h3 := at2_small h j d
  unfold bp
  split <;> omega
theorem bq_bound {T : Tab} (h : VT T) {d : Nat} (hd : d < T.length) (j u : Nat) : -20000000000000 ≤ bq T j u d ∧ bq T j u d ≤ 20000000000000 := by
  have h1 := hp_bound h j u d
  have h2 := col_bound h hd j
  have h3 := at2_small h j d
  unfold bq
  split <;> omega
end Quo
namespace Go.Proofs.Ytpecepfnmkpmmaa
open Go.RowKit Go.Kin Quo
set_option maxRecDepth 100000
set_option linter.unusedVariables false
theorem w64q {a : Int} (h : -9223372036854775808 ≤ a ∧ a ≤ 9223372036854775807) : wrap64 a = a := by unfold wrap64; omega
theorem iwq {a : Int} (h : -9223372036854775808 ≤ a ∧ a ≤ 9223372036854775807) : IntKind.i64.wrap a = a := by rw [IntKind.wrap_i64]; omega
theorem rheld_any (a : Option Addr) (n c : Nat) (T : Tab) (w : World) (h : RdT w a n c T) (hT : VT T) :
    Calls Try.prog 21 #[.slice a n c] w fun e w' => ∃ g, e = .returned (.slice (some ⟨g, 0, none⟩) n n) ∧ w.heap.size ≤ g ∧ Blk vi 3 w' g (heldF T) ∧ Below w.heap.size w w' := by
  obtain ⟨i0, hi, hz0, hz1, hz2⟩ := info_parts infoI
  have u0 := Try.underlying26
  have hn : n ≤ 12 := by have := hT.1; rw [h.len] at this; exact this
  have H := Lib.hid h
  have hlen := Lib.hid h.len
  have HV := Lib.hid hT
  clear h hT
  go_enter Try.func21, Try.ntmps21
  go_wp2_with (at_make; refine wpList_make_blk rfl (.tmp 7) (.tmp 7) 26 rfl vi 0 3 i0 u0 hi hz0 hz1 rfl _ _ _ _ n rfl rfl rfl rfl (by rw [hz2]; omega) (by omega) ?_; intro w2 hk2 hb2 hs2; have HK2 := Lib.hid hk2; have HB2 := Lib.hid hb2; clear hk2 hb2 hs2)
  go_loopw [4] (fun i wr => ∃ j : Nat, j ≤ n ∧ i = .int .i64 (j : Int) ∧ Hid (Blk vi 3 wr w.heap.size (hpL T n j 0)) ∧ Hid (Below w.heap.size w wr)) (fun i _ => n - (intOf i).toNat)
  case atStart => exact ⟨0, by omega, rfl, by rw [hpL_zero]; exact HK2.out, HB2.out⟩
  case round =>
    obtain ⟨j, hj, rfl, hB, hbe⟩ := hrel
    rename World => wo
    by_cases hlt : j < n
    · have i2 : (j : Int) < (n : Int) := by omega
      obtain ⟨m, hm⟩ : ∃ m, T[j]? = some m := ⟨_, List.getElem?_eq_getElem (by rw [hlen.out]; exact hlt)⟩
      have HM := Lib.hid hm
      have hml := Lib.hid (HV.out.row hm).1
      clear hm
      go_wp2_with fail
      go_loopw [5] (fun i wr => ∃ u : Nat, u ≤ n ∧ i = .int .i64 (u : Int) ∧ Hid (Blk vi 3 wr w.heap.size (hpL T n j u)) ∧ Hid (Below w.heap.size w wr)) (fun i _ => n - (intOf i).toNat)
      case atStart => exact ⟨0, by omega, rfl, hB.out, hbe.out⟩
      case round =>
        obtain ⟨u, hu, rfl, hB2, hbe2⟩ := hrel
        by_cases hlt2 : u < n
        · have i3 : (u : Int) < (n : Int) := by omega
          obtain ⟨m', ra', rn', rc', b1, o1, hm', rfl, c1, hr⟩ := (H.out.fw hbe2.out).row hlt
          rw [HM.out] at hm'
          cases hm'
          obtain ⟨x, hx⟩ : ∃ x, m[u]? = some x := ⟨_, List.getElem?_eq_getElem (by rw [hml.out, hlen.out]; exact hlt2)⟩
          obtain ⟨b2, o2, rfl, c2⟩ := hr.cell u x hx
          obtain rfl : rn' = n := by rw [← hr.len, hml.out, hlen.out]
          unfold vi at c2
          obtain ⟨y, hy⟩ : ∃ y, y = (m.take u).sum := ⟨_, rfl⟩
          have c3 := hB2.out.cell (hpL_get (u := u) hlt HM.out)
          rw [← hy] at c3
          unfold vi at c3
          have f3 := hB2.out.frozen j
          have hST := Lib.hid (hpL_step hlt HM.out hx)
          rw [← hy] at hST
          have hyb : 0 ≤ y ∧ y ≤ 13194139533312 := by
            have := hp_bound HV.out j u j
            unfold hp at this
            rw [if_neg (by omega), if_pos rfl, getD_of HM.out, ← hy] at this
            exact this
          have hxb : 0 ≤ x ∧ x ≤ 1099511627776 := (HV.out.row HM.out).2.2 x (List.mem_of_getElem? hx)
          have k1 := iwq (a := y + x) (by omega)
          have k2 := w64q (a := y + x) (by omega)
          clear hx hr hy hyb hxb
          go_wp2_with fail
          go_still_tail 15, (by kernel_rfl)
          change wpList _ _ _ _ _ wr.drew
          go_wp2_with fail
          clear k1 k2
          go_roundw
          case rel =>
            refine ⟨u + 1, by omega, by go_num, ?_, (Below.drew (hbe2.out.setCell (p := ⟨w.heap.size, j, none⟩) (Nat.le_refl _) _))⟩
            have := (hB2.out.set j (y + x)).drew 1
            rw [hST.out] at this
            exact this
          case measure => simp [intOf]; omega
        · have hun : u = n := by omega
          subst hun
          rw [hpL_row HM.out (by rw [hml.out, hlen.out])] at hB2
          go_wp2_with fail
          go_roundw
          case rel => exact ⟨j + 1, by omega, by go_num, hB2.out, hbe2.out⟩
          case measure => simp [intOf]; omega
    · have hjn : j = n := by omega
      subst hjn
      rw [hpL_all hlen.out] at hB
      go_wp2_with fail
      go_ret
      exact ⟨_, rfl, Nat.le_refl _, hB.out, hbe.out⟩
theorem rbal_any (a : Option Addr) (n c : Nat) (T : Tab) (w : World) (h : RdT w a n c T) (hT : VT T) :
    Calls Try.prog 22 #[.slice a n c] w fun e w' => ∃ g, e = .returned (.slice (some ⟨g, 0, none⟩) n n) ∧ w.heap.size ≤ g ∧ Blk vi 3 w' g (balF T) ∧ Below w.heap.size w w' := by
  obtain ⟨i0, hi, hz0, hz1, hz2⟩ := info_parts infoI
  have u0 := Try.underlying26
  have hn : n ≤ 12 := by have := hT.1; rw [h.len] at this; exact this
  have H := Lib.hid h
  have hlen := Lib.hid h.len
  have HV := Lib.hid hT
  clear h hT
  go_enter Try.func22, Try.ntmps22
  go_wp2_with (at_make; refine wpList_make_blk rfl (.tmp 7) (.tmp 7) 26 rfl vi 0 3 i0 u0 hi hz0 hz1 rfl _ _ _ _ n rfl rfl rfl rfl (by rw [hz2]; omega) (by omega) ?_; intro w2 hk2 hb2 hs2; have HK2 := Lib.hid hk2; have HB2 := Lib.hid hb2; clear hk2 hb2 hs2)
  go_loopw [4] (fun i wr => ∃ j : Nat, j ≤ n ∧ i = .int .i64 (j : Int) ∧ Hid (Blk vi 3 wr w.heap.size (bpL T n j 0)) ∧ Hid (Below w.heap.size w wr)) (fun i _ => n - (intOf i).toNat)
  case atStart => exact ⟨0, by omega, rfl, by rw [bpL_zero]; exact HK2.out, HB2.out⟩
  case round =>
    obtain ⟨j, hj, rfl, hB, hbe⟩ := hrel
    rename World => wo
    by_cases hlt : j < n
    · have i2 : (j : Int) < (n : Int) := by omega
      obtain ⟨m, hm⟩ : ∃ m, T[j]? = some m := ⟨_, List.getElem?_eq_getElem (by rw [hlen.out]; exact hlt)⟩
      have HM := Lib.hid hm
      have hml := Lib.hid (HV.out.row hm).1
      clear hm
      go_wp2_with fail
      go_loopw [5] (fun i wr => ∃ u : Nat, u ≤ n ∧ i = .int .i64 (u : Int) ∧ Hid (Blk vi 3 wr w.heap.size (bpL T n j u)) ∧ Hid (Below w.heap.size w wr)) (fun i _ => n - (intOf i).toNat)
      case atStart => exact ⟨0, by omega, rfl, hB.out, hbe.out⟩
      case round =>
        obtain ⟨u, hu, rfl, hB2, hbe2⟩ := hrel
        by_cases hlt2 : u < n
        · have i3 : (u : Int) < (n : Int) := by omega
          obtain ⟨m', ra', rn', rc', b1, o1, hm', rfl, c1, hr⟩ := (H.out.fw hbe2.out).row hlt
          rw [HM.out] at hm'
          cases hm'
          obtain ⟨x, hx⟩ : ∃ x, m[u]? = some x := ⟨_, List.getElem?_eq_getElem (by rw [hml.out, hlen.out]; exact hlt2)⟩
          obtain ⟨b2, o2, rfl, c2⟩ := hr.cell u x hx
          obtain rfl : rn' = n := by rw [← hr.len, hml.out, hlen.out]
          unfold vi at c2
          obtain ⟨y, hy⟩ : ∃ y, y = bp T j u u := ⟨_, rfl⟩
          have c3 := hB2.out.cell (map_range_get (f := bp T j u) hlt2)
          rw [← hy] at c3
          unfold vi at c3
          have f3 := hB2.out.frozen u
          have hax : at2 T j u = x := by unfold at2; rw [getD_of HM.out, getD_of hx]
          have hST := bpL_step1 (T := T) (j := j) hlt2
          rw [hax, ← hy] at hST
          have hyb := bp_bound HV.out (d := u) (by rw [hlen.out]; exact hlt2) j u
          rw [← hy] at hyb
          have hxb : 0 ≤ x ∧ x ≤ 1099511627776 := (HV.out.row HM.out).2.2 x (List.mem_of_getElem? hx)
          have k1 := iwq (a := y + x) (by omega)
          have k2 := w64q (a := y + x) (by omega)
          obtain ⟨z, hz⟩ : ∃ z, z = bq T j u j := ⟨_, rfl⟩
          have hzb := bq_bound HV.out (d := j) (by rw [hlen.out]; exact hlt) j u
          rw [← hz] at hzb
          have k3 := iwq (a := z - x) (by omega)
          have k4 := w64q (a := z - x) (by omega)
          have hST2 := bpL_step2 hlt HM.out hx
          rw [← hz] at hST2
          have HST := Lib.hid hST; have HST2 := Lib.hid hST2; have HZ := Lib.hid hz; have HXU := Lib.hid hx
          clear hx hr hy hyb hxb hax hST hST2 hz hzb
          go_wp2_with fail
          go_still_tail 15, (by kernel_rfl)
          change wpList _ _ _ _ _ wr.drew
          go_wp2_with fail
          have hB3 := (hB2.out.set u (y + x)).drew 1
          rw [HST.out] at hB3
          have hbe3 : Below w.heap.size w (wr.setCell ⟨w.heap.size, u, none⟩ (.int .i64 (y + x))).drew := Below.drew (hbe2.out.setCell (p := ⟨w.heap.size, u, none⟩) (Nat.le_refl _) _)
          replace hB3 : Blk vi 3 (wr.setCell ⟨w.heap.size, u, none⟩ (.int .i64 (y + x))).drew w.heap.size (bqL T rn' j u) := hB3
          clear c1 c2 c3 f3 k1 k2
          generalize (wr.setCell ⟨w.heap.size, u, none⟩ (.int .i64 (y + x))).drew = wq at hB3 hbe3 ⊢
          obtain ⟨m', ra', rn2, rc2, b1', o1', hm', he, c1, hr⟩ := (H.out.fw hbe3).row hlt
          cases he
          rw [HM.out] at hm'
          cases hm'
          obtain ⟨x', hx'⟩ : ∃ x', m[u]? = some x' := ⟨_, List.getElem?_eq_getElem (by rw [hml.out, hlen.out]; exact hlt2)⟩
          obtain ⟨b3, o3, rfl, c2⟩ := hr.cell u x' hx'
          rw [HXU.out] at hx'
          cases hx'
          obtain rfl : rn2 = rn' := by rw [← hr.len, hml.out, hlen.out]
          unfold vi at c2
          have c3 := hB3.cell (map_range_get (f := bq T j u) hlt)
          rw [← HZ.out] at c3
          unfold vi at c3
          have f3 := hB3.frozen j
          have HB3 := Lib.hid hB3; have HBE3 := Lib.hid hbe3
          clear hr hB3 hbe3
          go_wp2_with fail
          go_still_tail 15, (by kernel_rfl)
          change wpList _ _ _ _ _ wq.drew
          go_wp2_with fail
          clear k3 k4
          go_roundw
          case rel =>
            refine ⟨u + 1, by omega, by go_num, ?_, (Below.drew (HBE3.out.setCell (p := ⟨w.heap.size, j, none⟩) (Nat.le_refl _) _))⟩
            have := (HB3.out.set j (z - x)).drew 1
            rw [HST2.out] at this
            exact this
          case measure => simp [intOf]; omega
        · have hun : u = n := by omega
          subst hun
          rw [bpL_row HM.out (by rw [hml.out, hlen.out])] at hB2
          go_wp2_with fail
          go_roundw
          case rel => exact ⟨j + 1, by omega, by go_num, hB2.out, hbe2.out⟩
          case measure => simp [intOf]; omega
    · have hjn : j = n := by omega
      subst hjn
      rw [bpL_all hlen.out] at hB
      go_wp2_with fail
      go_ret
      exact ⟨_, rfl, Nat.le_refl _, hB.out, hbe.out⟩
end Go.Proofs.Ytpecepfnmkpmmaa
