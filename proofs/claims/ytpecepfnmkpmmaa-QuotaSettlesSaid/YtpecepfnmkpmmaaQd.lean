/- quota: held, balance, Held, Balance, fitting, Allowed. -/
import Derived.Test.YtpecepfnmkpmmaaQc
namespace Go.Kin
theorem set_next {α : Type} {A : List α} {z x : α} {j r : Nat} (hA : A.length = j) (hj : j < r) : (A ++ List.replicate (r - j) z).set j x = (A ++ [x]) ++ List.replicate (r - (j + 1)) z := by
  rw [List.set_append, if_neg (by omega), hA, Nat.sub_self, show r - j = (r - (j + 1)) + 1 from by omega, List.replicate_succ, List.set_cons_zero, List.append_assoc]; rfl
theorem get_next {α : Type} {A : List α} {z : α} {j r : Nat} (hA : A.length = j) (hj : j < r) : (A ++ List.replicate (r - j) z)[j]? = some z := by
  rw [List.getElem?_append_right (by omega), hA, Nat.sub_self, List.getElem?_replicate, if_pos (by omega)]
end Go.Kin
namespace Go.Proofs.Ytpecepfnmkpmmaa
open Go.RowKit Go.Kin Quo
set_option maxRecDepth 100000
set_option linter.unusedVariables false
theorem infoI : (Try.prog.info? 3).map (fun i => (i.zero, i.size, i.bytes)) = some (some (.int .i64 0), 1, 8) := by kernel_rfl
theorem infoS : (Try.prog.info? 26).map (fun i => (i.zero, i.size, i.bytes)) = some (some (.slice none 0 0), 1, 24) := by kernel_rfl

theorem held_any (a : Option Addr) (n c : Nat) (T : Tab) (w : World) (h : RdT w a n c T) (hT : VT T) :
    Calls Try.prog 40 #[.slice a n c] w fun e w' => ∃ g, e = .returned (.slice (some ⟨g, 0, none⟩) n n) ∧ w.heap.size ≤ g ∧ Blk vi 3 w' g (heldF T) ∧ Below w.heap.size w w' := by
  obtain ⟨i0, hi, hz0, hz1, hz2⟩ := info_parts infoI
  have u0 := Try.underlying26
  have hn : n ≤ 12 := by have := hT.1; rw [h.len] at this; exact this
  have H := Lib.hid h
  have hlen := Lib.hid h.len
  have HV := Lib.hid hT
  clear h hT
  go_enter Try.func40, Try.ntmps40
  go_wp2_with (at_make; refine wpList_make_blk rfl (.tmp 7) (.tmp 7) 26 rfl vi 0 3 i0 u0 hi hz0 hz1 rfl _ _ _ _ n rfl rfl rfl rfl (by rw [hz2]; omega) (by omega) ?_; intro w2 hk2 hb2 hs2; have HK2 := Lib.hid hk2; have HB2 := Lib.hid hb2; clear hk2 hb2 hs2)
  go_loopw [11] (fun i wr => ∃ j : Nat, j ≤ n ∧ i = .int .i64 (j : Int) ∧ Hid (Blk vi 3 wr w.heap.size ((heldF T).take j ++ List.replicate (n - j) 0)) ∧ Hid (Below w.heap.size w wr)) (fun i _ => n - (intOf i).toNat)
  case atStart => exact ⟨0, by omega, rfl, HK2.out, HB2.out⟩
  case round =>
    obtain ⟨j, hj, rfl, hB, hbe⟩ := hrel
    by_cases hlt : j < n
    · have i2 : (j : Int) < (n : Int) := by omega
      obtain ⟨m, ra, rn, rc, b1, o1, hm, rfl, c1w, hr⟩ := H.out.row hlt
      have c1 := (cellBelow hbe.out (lt_of_cell c1w)).trans c1w
      have hml := (HV.out.row hm).1
      rw [hr.len, hlen.out] at hml
      obtain rfl := hml
      have hcm := Lib.hid (HV.out.cnt (List.mem_of_getElem? hm))
      have HR := Lib.hid (hr.fw hbe.out)
      have htl : ((heldF T).take j).length = j := by unfold heldF; rw [List.length_take, List.length_map, hlen.out]; omega
      have HTL := Lib.hid htl
      have d5 := hB.out.cell (get_next htl hlt)
      have f5 := hB.out.frozen j
      have hnx : Hid ((heldF T).take (j + 1) = (heldF T).take j ++ [m.sum]) := by
        show List.take _ _ = _
        rw [List.take_add_one]; unfold heldF; rw [List.getElem?_map, hm]; rfl
      unfold vi at d5
      clear c1w hm hr htl
      go_wp2_with (go_at_call 54; refine (total_any _ _ _ m _ HR.out hcm.out hn).mono ?_; rintro e w' ⟨rfl, rfl⟩)
      go_roundw
      case rel =>
        refine ⟨j + 1, by omega, by go_num, ?_, (hbe.out).setCell (Nat.le_refl _) _⟩
        have := hB.out.set j m.sum
        rw [set_next HTL.out hlt, ← hnx.out] at this
        exact this
      case measure => simp [intOf]; omega
    · have hjn : j = n := by omega
      subst hjn
      have e1 : (heldF T).take j ++ List.replicate (j - j) 0 = heldF T := by
        rw [Nat.sub_self, List.take_of_length_le (by unfold heldF; rw [List.length_map, hlen.out]; exact Nat.le_refl _)]; simp
      rw [e1] at hB
      go_wp2_with fail
      go_ret
      exact ⟨_, rfl, Nat.le_refl _, hB.out, hbe.out⟩

/-- The first balances, the rest still what is held. -/
def mixB (T : Tab) (j : Nat) : List Int := (balF T).take j ++ (heldF T).drop j
theorem held_length (T : Tab) : (heldF T).length = T.length := by unfold heldF; simp
theorem bal_length (T : Tab) : (balF T).length = T.length := by unfold balF; simp
theorem mixB_get {T : Tab} {j : Nat} (hj : j < T.length) : (mixB T j)[j]? = some (T.getD j []).sum := by
  unfold mixB
  have h1 : ((balF T).take j).length = j := by rw [List.length_take, bal_length]; omega
  rw [List.getElem?_append_right (by omega), h1, Nat.sub_self, List.getElem?_drop, Nat.add_zero]
  unfold heldF
  rw [List.getElem?_map, get_some hj []]; rfl
theorem mixB_set {T : Tab} {j : Nat} (hj : j < T.length) : (mixB T j).set j ((col T j).sum - (T.getD j []).sum) = mixB T (j + 1) := by
  unfold mixB
  have h1 : ((balF T).take j).length = j := by rw [List.length_take, bal_length]; omega
  rw [List.set_append, if_neg (by omega), h1, Nat.sub_self, List.drop_eq_getElem_cons (by rw [held_length]; exact hj), List.set_cons_zero, List.take_add_one]
  have : (balF T)[j]? = some ((col T j).sum - (T.getD j []).sum) := by
    unfold balF; rw [List.getElem?_map, List.getElem?_range hj]; rfl
  rw [this]
  simp
theorem mixB_zero (T : Tab) : mixB T 0 = heldF T := by simp [mixB]
theorem mixB_all (T : Tab) : mixB T T.length = balF T := by
  unfold mixB
  rw [List.take_of_length_le (by rw [bal_length]; exact Nat.le_refl _), List.drop_eq_nil_of_le (by rw [held_length]; exact Nat.le_refl _), List.append_nil]

theorem bal_fits {T : Tab} (h : VT T) {j : Nat} (hj : j < T.length) : wrap64 ((col T j).sum - (T.getD j []).sum) = (col T j).sum - (T.getD j []).sum := by
  have b0 := cnt_sum (h.col hj)
  have hr := get_some hj ([] : List Int)
  have b1 := cnt_sum (h.row hr).2.2
  have l1 := (h.row hr).1
  have l0 : (col T j).length = T.length := by unfold col; simp
  have h12 := h.1
  rw [l1] at b1; rw [l0] at b0
  unfold maxC at b0 b1
  have : (T.length : Int) * 1099511627776 ≤ 12 * 1099511627776 := by omega
  unfold wrap64
  omega

theorem bal_any (a : Option Addr) (n c : Nat) (T : Tab) (w : World) (h : RdT w a n c T) (hT : VT T) :
    Calls Try.prog 38 #[.slice a n c] w fun e w' => ∃ g, e = .returned (.slice (some ⟨g, 0, none⟩) n n) ∧ w.heap.size ≤ g ∧ Blk vi 3 w' g (balF T) ∧ Below w.heap.size w w' := by
  have hmf : ∀ (fn : Fn) (first cap : Array Value) (w : World), (Instr.makeFunc fn first cap).run Try.prog w = .ok (.func fn first cap) w := fun _ _ _ _ => rfl
  have hn : n ≤ 12 := by have := hT.1; rw [h.len] at this; exact this
  have H := Lib.hid h
  have hlen := Lib.hid h.len
  have HV := Lib.hid hT
  clear h hT
  go_enter Try.func38, Try.ntmps38
  go_wp2_with (go_at_call 40; refine (held_any _ _ _ T _ H.out HV.out).mono ?_; rintro e w2 ⟨g, rfl, hg, hB, hb2⟩; have HB2 := Lib.hid hB; have HW2 := Lib.hid hb2; clear hB hb2)
  go_loopw [4, 9] (fun _ i wr => ∃ j : Nat, j ≤ n ∧ i = .int .i64 (j : Int) ∧ Hid (Blk vi 3 wr g (mixB T j)) ∧ Hid (Below w.heap.size w wr)) (fun _ i _ => n - (intOf i).toNat)
  case atStart => exact ⟨0, by omega, rfl, by rw [mixB_zero]; exact HB2.out, HW2.out⟩
  case round =>
    obtain ⟨j, hj, rfl, hB, hbe⟩ := hrel
    by_cases hlt : j < n
    · have i2 : (j : Int) < (n : Int) := by omega
      have hjt : j < T.length := by rw [hlen.out]; exact hlt
      have hb1 := below_alloc (.cells #[.int .i64 (j : Int)] 3 (0, 0)) (below_refl wr)
      have HB1 := Lib.hid (hB.out.fw hb1)
      obtain ⟨rs, hrs⟩ : ∃ rs, rs = (T.getD j []).sum := ⟨_, rfl⟩
      have hget := mixB_get hjt
      have hset := mixB_set hjt
      have hw := bal_fits HV.out hjt
      rw [← hrs] at hget hset hw
      have d5 := HB1.out.cell hget
      have HSET := Lib.hid hset
      clear hrs hget hset
      have f5 := HB1.out.frozen j
      have HR := Lib.hid (H.out.fw (bt hbe.out hb1))
      have cj : (wr.alloc (.cells #[.int .i64 (j : Int)] 3 (0, 0))).cell? ⟨wr.heap.size, 0, none⟩ = some (.int .i64 (j : Int)) := by simp
      have HBW := Lib.hid (bt hbe.out hb1)
      unfold vi at d5
      go_wp2_with fail
      generalize wr.alloc (.cells #[.int .i64 (j : Int)] 3 (0, 0)) = wx at hb1 HB1 d5 f5 HR cj HBW ⊢
      generalize wr.heap.size = gi at hb1 cj ⊢
      have CJ := Lib.hid cj
      go_still_tail 11, (by kernel_rfl)
      refine wpStill_step (fun K hK => ?_)
      go_simp
      refine ⟨_, (totalc_any a n c T gi j _ (HR.out.fw (Below.drew (below_refl _))) HV.out hlt CJ.out).mono (fun e w' h => ⟨h.1, h.2.symm⟩), hK _ ?_⟩
      clear hK K
      repeat still_step
      refine wpStill_nil ?_
      change wpList _ _ _ _ _ (World.drew _)
      have d6 : wx.drew.cell? ⟨g, j, none⟩ = some (.int .i64 rs) := d5
      have f6 : wx.drew.frozen? ⟨g, j, none⟩ = false := f5
      clear d5 f5 cj
      go_wp2_with fail
      go_roundw
      case rel =>
        refine ⟨j + 1, by omega, by go_num, ?_, (Below.drew HBW.out).setCell (p := ⟨g, j, none⟩) hg _⟩
        have := HB1.out.set j ((col T j).sum - rs)
        rw [HSET.out] at this
        first | exact this | (rw [hw]; exact this)
      case measure => simp [intOf]; omega
    · have hjn : j = n := by omega
      subst hjn
      rw [show mixB T j = balF T by rw [← hlen.out]; exact mixB_all T] at hB
      go_wp2_with fail
      go_ret
      exact ⟨_, rfl, hg, hB.out, hbe.out⟩

theorem Held_any (a : Option Addr) (n c : Nat) (T : Tab) (w : World) (h : RdT w a n c T) (hT : VT T) :
    Calls Try.prog 30 #[.slice a n c] w fun e w' => ∃ g, e = .returned (.tuple #[.slice (some ⟨g, 0, none⟩) n n, .int .i64 0]) ∧ w.heap.size ≤ g ∧ Blk vi 3 w' g (heldF T) ∧ Below w.heap.size w w' := by
  have H := Lib.hid h
  have HV := Lib.hid hT
  have hd := decide_eq_true hT
  clear h hT
  go_enter Try.func30, Try.ntmps30
  go_wp2_with (first
    | (go_at_call 15; refine (valid_any _ _ _ T _ H.out).mono ?_; rw [hd]; rintro e w' ⟨rfl, rfl⟩)
    | (go_at_call 40; refine (held_any _ _ _ T _ H.out HV.out).mono ?_; rintro e w2 ⟨g, rfl, hg, hB, hb2⟩; have HB2 := Lib.hid hB; have HW2 := Lib.hid hb2; clear hB hb2))
  go_ret2
  exact ⟨_, rfl, hg, HB2.out, HW2.out⟩
theorem Held_no (a : Option Addr) (n c : Nat) (T : Tab) (w : World) (h : RdT w a n c T) (hT : ¬ VT T) :
    Calls Try.prog 30 #[.slice a n c] w fun e w' => e = .returned (.tuple #[.slice none 0 0, .int .i64 1]) ∧ w = w' := by
  have H := Lib.hid h
  have hd := decide_eq_false hT
  clear h hT
  go_enter Try.func30, Try.ntmps30
  go_wp2_with (go_at_call 15; refine (valid_any _ _ _ T _ H.out).mono ?_; rw [hd]; rintro e w' ⟨rfl, rfl⟩)
  go_ret2
  exact ⟨rfl, rfl⟩
theorem Balance_any (a : Option Addr) (n c : Nat) (T : Tab) (w : World) (h : RdT w a n c T) (hT : VT T) :
    Calls Try.prog 17 #[.slice a n c] w fun e w' => ∃ g, e = .returned (.tuple #[.slice (some ⟨g, 0, none⟩) n n, .int .i64 0]) ∧ w.heap.size ≤ g ∧ Blk vi 3 w' g (balF T) ∧ Below w.heap.size w w' := by
  have H := Lib.hid h
  have HV := Lib.hid hT
  have hd := decide_eq_true hT
  clear h hT
  go_enter Try.func17, Try.ntmps17
  go_wp2_with (first
    | (go_at_call 15; refine (valid_any _ _ _ T _ H.out).mono ?_; rw [hd]; rintro e w' ⟨rfl, rfl⟩)
    | (go_at_call 38; refine (bal_any _ _ _ T _ H.out HV.out).mono ?_; rintro e w2 ⟨g, rfl, hg, hB, hb2⟩; have HB2 := Lib.hid hB; have HW2 := Lib.hid hb2; clear hB hb2))
  go_ret2
  exact ⟨_, rfl, hg, HB2.out, HW2.out⟩
theorem Balance_no (a : Option Addr) (n c : Nat) (T : Tab) (w : World) (h : RdT w a n c T) (hT : ¬ VT T) :
    Calls Try.prog 17 #[.slice a n c] w fun e w' => e = .returned (.tuple #[.slice none 0 0, .int .i64 1]) ∧ w = w' := by
  have H := Lib.hid h
  have hd := decide_eq_false hT
  clear h hT
  go_enter Try.func17, Try.ntmps17
  go_wp2_with (go_at_call 15; refine (valid_any _ _ _ T _ H.out).mono ?_; rw [hd]; rintro e w' ⟨rfl, rfl⟩)
  go_ret2
  exact ⟨rfl, rfl⟩
/-- The table and the quotas are valid. -/
def Fit (T : Tab) (q : List Int) : Prop := VT T ∧ q.length = T.length ∧ Cnt q
instance (T : Tab) (q : List Int) : Decidable (Fit T q) := by unfold Fit; infer_instance
theorem fitting_any (a : Option Addr) (n c : Nat) (T : Tab) (b : Option Addr) (m d : Nat) (q : List Int) (w : World) (h : RdT w a n c T) (h2 : Rd vi w b m d q) :
    Calls Try.prog 39 #[.slice a n c, .slice b m d] w fun e w' => e = .returned (.bool (decide (Fit T q))) ∧ w = w' := by
  have H := Lib.hid h; have H2 := Lib.hid h2
  have hl := Lib.hid h.len; have hl2 := Lib.hid h2.len
  clear h h2
  by_cases hT : VT T
  · have hd := decide_eq_true hT
    by_cases hmn : m = n
    · subst hmn
      by_cases hq : Cnt q
      · have hf : decide (Fit T q) = true := decide_eq_true ⟨hT, by rw [hl.out, hl2.out], hq⟩
        have hdq := decide_eq_true hq
        rw [hf]
        clear hf hq hT
        go_enter Try.func39, Try.ntmps39
        go_wp2_with (first
          | (go_at_call 15; refine (valid_any _ _ _ T _ H.out).mono ?_; rw [hd]; rintro e w' ⟨rfl, rfl⟩)
          | (go_at_call 37; refine (counts_any _ _ _ q _ H2.out).mono ?_; rw [hdq]; rintro e w' ⟨rfl, rfl⟩))
        go_ret
        exact ⟨rfl, rfl⟩
      · have hf : decide (Fit T q) = false := decide_eq_false fun h => hq h.2.2
        have hdq := decide_eq_false hq
        rw [hf]
        clear hf hq hT
        go_enter Try.func39, Try.ntmps39
        go_wp2_with (first
          | (go_at_call 15; refine (valid_any _ _ _ T _ H.out).mono ?_; rw [hd]; rintro e w' ⟨rfl, rfl⟩)
          | (go_at_call 37; refine (counts_any _ _ _ q _ H2.out).mono ?_; rw [hdq]; rintro e w' ⟨rfl, rfl⟩))
        go_ret
        exact ⟨rfl, rfl⟩
    · have hf : decide (Fit T q) = false := decide_eq_false fun h => hmn (by have := h.2.1; rwa [hl.out, hl2.out] at this)
      have hx : ((m : Int) == (n : Int)) = false := by simp; omega
      rw [hf]
      clear hf hT
      go_enter Try.func39, Try.ntmps39
      go_wp2_with (go_at_call 15; refine (valid_any _ _ _ T _ H.out).mono ?_; rw [hd]; rintro e w' ⟨rfl, rfl⟩)
      go_ret
      exact ⟨rfl, rfl⟩
  · have hd := decide_eq_false hT
    have hf : decide (Fit T q) = false := decide_eq_false fun h => hT h.1
    rw [hf]
    clear hf hT
    go_enter Try.func39, Try.ntmps39
    go_wp2_with (go_at_call 15; refine (valid_any _ _ _ T _ H.out).mono ?_; rw [hd]; rintro e w' ⟨rfl, rfl⟩)
    go_ret
    exact ⟨rfl, rfl⟩
end Go.Proofs.Ytpecepfnmkpmmaa
