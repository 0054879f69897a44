/- The reference's relief.open and relief.flow. -/
import Derived.Test.YtpecepfnmkpmmaaSx
import Derived.Test.YtpecepfnmkpmmaaQs
import Derived.Test.YtpecepfnmkpmmaaQk
import Derived.Deep.CutRange
namespace Go.Proofs.Ytpecepfnmkpmmaa
open Go.RowKit Go.Kin Quo
set_option maxRecDepth 100000
set_option linter.unusedVariables false
theorem bits_bit (s t : Nat) (hs : s < 4096) : bits BinOp.and IntKind.i64 ((s : Int) / 2 ^ t) 1 = ((s / 2 ^ t % 2 : Nat) : Int) := by
  have hx : s / 2 ^ t ≤ s := Nat.div_le_self _ _
  have e0 : (s : Int) / 2 ^ t = ((s / 2 ^ t : Nat) : Int) := by rw [Int.natCast_ediv]; simp
  rw [e0]
  generalize s / 2 ^ t = x at hx ⊢
  unfold bits
  have e1 : (BitVec.ofInt IntKind.i64.bits (x : Int) &&& BitVec.ofInt IntKind.i64.bits 1).toNat = x % 2 := by
    rw [BitVec.toNat_and, BitVec.toNat_ofInt, BitVec.toNat_ofInt]
    have e2 : ((x : Int) % ((2 ^ IntKind.i64.bits : Nat) : Int)).toNat = x := by
      have : ((2 ^ IntKind.i64.bits : Nat) : Int) = 18446744073709551616 := rfl
      rw [this]; omega
    have e3 : ((1 : Int) % ((2 ^ IntKind.i64.bits : Nat) : Int)).toNat = 1 := rfl
    rw [e2, e3, Nat.and_one_is_mod]
  simp only [e1]
  rw [IntKind.wrap_i64]; omega
theorem w64_pow (n : Nat) (hn : n ≤ 12) : wrap64 (2 ^ n) = ((2 ^ n : Nat) : Int) ∧ IntKind.i64.wrap (2 ^ n) = ((2 ^ n : Nat) : Int) ∧ 2 ^ n ≤ 4096 := by
  have hp : 2 ^ n ≤ 2 ^ 12 := Nat.pow_le_pow_right (by decide) hn
  have e : ((2 : Int) ^ n) = ((2 ^ n : Nat) : Int) := by simp
  rw [e, IntKind.wrap_i64]
  generalize 2 ^ n = p at hp ⊢
  unfold wrap64
  exact ⟨by omega, by omega, hp⟩
theorem bit_of (s t : Nat) : s.testBit t = decide (s / 2 ^ t % 2 = 1) := by
  rw [Nat.testBit_eq_decide_div_mod_eq]
/-- Device t is outside the set s, and neither h nor o. -/
def OutS (s h o t : Nat) : Prop := t ≠ h ∧ t ≠ o ∧ s.testBit t = false
instance (s h o t : Nat) : Decidable (OutS s h o t) := by unfold OutS; infer_instance
set_option maxHeartbeats 4000000 in
theorem open_any (ga : Option Addr) (n gc : Nat) (ha : Option Addr) (hn hc : Nat) (ka : Option Addr) (kn kc : Nat) (s h o : Nat) (w : World) (hn12 : n ≤ 12) (hs : s < 4096) (hh : h < n) (ho : o < n) :
    Calls Try.prog 62 #[.agg #[.slice ga n gc, .slice ha hn hc, .slice ka kn kc], .int .i64 (s : Int), .int .i64 (h : Int), .int .i64 (o : Int)] w fun e w' => e = .returned (.bool (opn n s.testBit h o)) ∧ Below w.heap.size w w' := by
  have hba := below_alloc (.cells #[.slice ga n gc, .slice ha hn hc, .slice ka kn kc] 78) (below_refl w)
  have HBA := Lib.hid hba
  have hnew := heap_alloc_new w (.cells #[.slice ga n gc, .slice ha hn hc, .slice ka kn kc] 78)
  have f0 : (w.alloc (.cells #[.slice ga n gc, .slice ha hn hc, .slice ka kn kc] 78)).cell? ⟨w.heap.size, 0, none⟩ = some (.slice ga n gc) := by rw [cell_of_row _ w.heap.size 0 _ _ _ hnew]; rfl
  clear hba hnew
  go_enter Try.func62, Try.ntmps62
  go_upto_region 1 with fail
  generalize w.alloc (.cells #[.slice ga n gc, .slice ha hn hc, .slice ka kn kc] 78) = wq at f0 HBA ⊢
  generalize w.heap.size = gm at f0 ⊢
  go_wp2_with fail
  go_loop [9] (fun z => ∃ t : Nat, t ≤ n ∧ z = .int .i64 (t : Int) ∧ Hid (∀ j, j < t → ¬ OutS s h o j)) (fun z => n - (intOf z).toNat)
  case atStart => exact ⟨0, by omega, rfl, fun j hj => absurd hj (Nat.not_lt_zero j)⟩
  obtain ⟨t, ht, rfl, hall⟩ := hrel
  by_cases hlt : t < n
  rotate_left
  · have hR : Hid (opn n s.testBit h o = false) := by
      show _ = _
      rw [Bool.eq_false_iff]
      intro hc
      obtain ⟨j, h1, h2, h3, h4⟩ := opn_iff.1 hc
      exact hall.out j (by omega) ⟨h2, h3, h4⟩
    go_wp2_with fail
    go_ret
    exact ⟨ret_bool hR.out.symm, HBA.out⟩
  have i1 : (t : Int) < (n : Int) := by omega
  obtain ⟨y, hye⟩ : ∃ y, y = s / 2 ^ t % 2 := ⟨_, rfl⟩
  have hy1 : y ≤ 1 := by omega
  have r1 := bits_bit s t hs
  rw [← hye] at r1
  have hbit := Lib.hid (bit_of s t)
  rw [← hye] at hbit
  clear hye
  by_cases hO : OutS s h o t
  · have hR : Hid (opn n s.testBit h o = true) := opn_iff.2 ⟨t, hlt, hO.1, hO.2.1, hO.2.2⟩
    have g1 : ((t : Int) != (h : Int)) = true := by simpa using fun c => hO.1 (by omega)
    have g2 : ((t : Int) != (o : Int)) = true := by simpa using fun c => hO.2.1 (by omega)
    have hb := hbit.out
    rw [hO.2.2] at hb
    have hx2 : y ≠ 1 := of_decide_eq_false hb.symm
    have g3 : ((y : Int) == 0) = true := by simp; omega
    clear hO hb hx2 hy1
    go_wp2_with fail
    go_ret
    exact ⟨ret_bool hR.out.symm, HBA.out⟩
  · have hA2 : Hid (∀ j, j < t + 1 → ¬ OutS s h o j) := fun j hj => by
      by_cases e : j = t
      · rw [e]; exact hO
      · exact hall.out j (by omega)
    have HO := Lib.hid hO
    by_cases h1 : t = h
    · have g1 : ((t : Int) != (h : Int)) = false := by simp; omega
      have g1' : (((h : Nat) : Int) != (h : Int)) = false := by simp
      clear hO
      subst h1
      go_wp2_with fail
      refine ⟨⟨t + 1, by omega, by go_num, hA2⟩, ?_⟩
      simp [intOf] <;> omega
    by_cases h2 : t = o
    · have g1 : ((t : Int) != (h : Int)) = true := by simp; omega
      have g2 : ((t : Int) != (t : Int)) = false := by simp
      clear hO
      subst h2
      go_wp2_with fail
      refine ⟨⟨t + 1, by omega, by go_num, hA2⟩, ?_⟩
      simp [intOf] <;> omega
    have g1 : ((t : Int) != (h : Int)) = true := by simp; omega
    have g2 : ((t : Int) != (o : Int)) = true := by simp; omega
    have hx2 : y = 1 := by
      have hb := hbit.out
      refine Classical.byContradiction fun hc => HO.out ⟨h1, h2, ?_⟩
      rw [hb]; exact decide_eq_false hc
    have g3 : ((y : Int) == 0) = false := by simp; omega
    clear hO hx2 h1 h2 hy1
    go_wp2_with fail
    go_round
    case rel => exact ⟨t + 1, by omega, by go_num, hA2⟩
    case measure => simp [intOf] <;> omega
end Go.Proofs.Ytpecepfnmkpmmaa
/- The reference's relief.flow. -/
namespace Quo
set_option linter.unusedVariables false
theorem sumR_bd {k : Nat} {f : Nat → Int} {c : Int} (h : ∀ i, i < k → 0 ≤ f i ∧ f i ≤ c) : 0 ≤ sumR k f ∧ sumR k f ≤ (k : Int) * c := by
  refine ⟨sumR_nonneg fun i hi => (h i hi).1, ?_⟩
  have := sumR_le (f := f) (h := fun _ => c) (K := k) fun i hi => (h i hi).2
  rw [sumR_const] at this
  exact this
theorem sumR_bd12 {k : Nat} {f : Nat → Int} {c : Int} (hk : k ≤ 12) (hc : 0 ≤ c) (h : ∀ i, i < k → 0 ≤ f i ∧ f i ≤ c) : 0 ≤ sumR k f ∧ sumR k f ≤ 12 * c := by
  obtain ⟨h1, h2⟩ := sumR_bd h
  exact ⟨h1, Int.le_trans h2 (Int.mul_le_mul_of_nonneg_right (by omega) hc)⟩
/-- The sum over the devices of a set, so far. -/
def cutT (K : List Int) (s k : Nat) : Int := sumR k fun t => if s.testBit t = true then K.getD t 0 else 0
def cutO (n : Nat) (N : Tab) (s h k : Nat) : Int := sumR k fun o => if opn n s.testBit h o = true then at2 N h o else 0
def cutH (n : Nat) (G : List Int) (N : Tab) (s k : Nat) : Int := sumR k fun h => min (G.getD h 0) (cutO n N s h n)
def cutS (n : Nat) (G : List Int) (N : Tab) (K : List Int) (s : Nat) : Int := cutT K s n + cutH n G N s n
theorem cutS_eq (n : Nat) (G : List Int) (N : Tab) (K : List Int) (s : Nat) : cutS n G N K s = cutV n (fun d => G.getD d 0) (at2 N) (fun d => K.getD d 0) s.testBit := rfl
theorem cutT_succ (K : List Int) (s k : Nat) : cutT K s (k + 1) = cutT K s k + if s.testBit k = true then K.getD k 0 else 0 := sumR_succ k _
theorem cutO_succ (n : Nat) (N : Tab) (s h k : Nat) : cutO n N s h (k + 1) = cutO n N s h k + if opn n s.testBit h k = true then at2 N h k else 0 := sumR_succ k _
theorem cutH_succ (n : Nat) (G : List Int) (N : Tab) (s k : Nat) : cutH n G N s (k + 1) = cutH n G N s k + min (G.getD k 0) (cutO n N s k n) := sumR_succ k _
theorem cutT_bd {K : List Int} (s : Nat) {k : Nat} (hk : k ≤ 12) (h : ∀ d, d < k → 0 ≤ K.getD d 0 ∧ K.getD d 0 ≤ 13194139533312) : 0 ≤ cutT K s k ∧ cutT K s k ≤ 12 * 13194139533312 :=
  sumR_bd12 hk (by decide) fun d hd => by
    split
    · exact h d hd
    · exact ⟨by decide, by decide⟩
theorem cutO_bd {N : Tab} (hN : VT N) (n s h : Nat) {k : Nat} (hk : k ≤ 12) : 0 ≤ cutO n N s h k ∧ cutO n N s h k ≤ 12 * 1099511627776 :=
  sumR_bd12 hk (by decide) fun o _ => by
    split
    · exact at2_small hN h o
    · exact ⟨by decide, by decide⟩
theorem cutH_bd {G : List Int} {N : Tab} (hN : VT N) (n s : Nat) (hn : n ≤ 12) {k : Nat} (hk : k ≤ 12) (h : ∀ d, d < k → 0 ≤ G.getD d 0 ∧ G.getD d 0 ≤ 13194139533312) : 0 ≤ cutH n G N s k ∧ cutH n G N s k ≤ 12 * 13194139533312 :=
  sumR_bd12 hk (by decide) fun d hd => by
    have h1 := h d hd
    have h2 := cutO_bd hN n s d hn
    omega
/-- The least so far. -/
def LeastS (n : Nat) (G : List Int) (N : Tab) (K : List Int) (s : Nat) (b : Int) : Prop := (s = 0 ∧ b = -1) ∨ (0 ≤ b ∧ (∀ r, r < s → b ≤ cutS n G N K r) ∧ ∃ r, r < s ∧ b = cutS n G N K r)
theorem LeastS.step {n : Nat} {G : List Int} {N : Tab} {K : List Int} {s : Nat} {b : Int} (h : LeastS n G N K s b) (h0 : 0 ≤ cutS n G N K s) (hc : ¬ (b < 0 ∨ cutS n G N K s < b)) : LeastS n G N K (s + 1) b := by
  rcases h with ⟨_, h⟩ | ⟨h1, h2, r, h3, h4⟩
  · omega
  · refine .inr ⟨h1, fun r hr => ?_, r, by omega, h4⟩
    by_cases e : r = s
    · subst e; omega
    · exact h2 r (by omega)
theorem LeastS.take {n : Nat} {G : List Int} {N : Tab} {K : List Int} {s : Nat} {b : Int} (h : LeastS n G N K s b) (h0 : 0 ≤ cutS n G N K s) (hc : b < 0 ∨ cutS n G N K s < b) : LeastS n G N K (s + 1) (cutS n G N K s) := by
  refine .inr ⟨h0, fun r hr => ?_, s, by omega, rfl⟩
  by_cases e : r = s
  · subst e; exact Int.le_refl _
  · rcases h with ⟨h1, _⟩ | ⟨h1, h2, _⟩
    · omega
    · have := h2 r (by omega); omega
theorem LeastS.ends {n : Nat} {G : List Int} {N : Tab} {K : List Int} {b : Int} (h : LeastS n G N K (2 ^ n) b) : FlowV n (fun d => G.getD d 0) (at2 N) (fun d => K.getD d 0) b := by
  have hp : 0 < 2 ^ n := Nat.pow_pos (by decide)
  rcases h with ⟨h, _⟩ | ⟨h1, h2, r, h3, h4⟩
  · omega
  · exact ⟨h2, r, h3, h4⟩
end Quo
namespace Go.Proofs.Ytpecepfnmkpmmaa
open Go.RowKit Go.Kin Quo
set_option maxRecDepth 100000
set_option linter.unusedVariables false
theorem rel3 {w w' : World} {gm : Nat} {a b c : Value} {T : TypeId} (h : w.heap[gm]? = some (.cells #[a, b, c] T (0, 0))) (hb : Below w.heap.size w w') : w'.cell? ⟨gm, 0, none⟩ = some a ∧ w'.cell? ⟨gm, 1, none⟩ = some b ∧ w'.cell? ⟨gm, 2, none⟩ = some c := by
  have h1 := (hb.block _ (Array.getElem?_eq_some_iff.1 h).1).trans h
  exact ⟨by rw [cell_of_row _ gm 0 _ _ _ h1]; rfl, by rw [cell_of_row _ gm 1 _ _ _ h1]; rfl, by rw [cell_of_row _ gm 2 _ _ _ h1]; rfl⟩
/-- What flow returns. -/
def FlowRet (w : World) (n : Nat) (G : List Int) (N : Tab) (K : List Int) (e : Ending) (w' : World) : Prop := ∃ v : Int, e = .returned (.int .i64 v) ∧ FlowV n (fun d => G.getD d 0) (at2 N) (fun d => K.getD d 0) v ∧ Below w.heap.size w w'
set_option maxHeartbeats 8000000 in
theorem flow_any (ga : Option Addr) (n gc : Nat) (ha : Option Addr) (hc : Nat) (ka : Option Addr) (kc : Nat) (G : List Int) (N : Tab) (K : List Int) (w : World) (h1 : Rd vi w ga n gc G) (h2 : RdT w ha n hc N) (h3 : Rd vi w ka n kc K) (hN : VT N)
    (hG : ∀ d, d < n → 0 ≤ G.getD d 0 ∧ G.getD d 0 ≤ 13194139533312) (hK : ∀ d, d < n → 0 ≤ K.getD d 0 ∧ K.getD d 0 ≤ 13194139533312) :
    Calls Try.prog 47 #[.agg #[.slice ga n gc, .slice ha n hc, .slice ka n kc]] w (FlowRet w n G N K) := by
  have hn : n ≤ 12 := by have := hN.1; rw [h2.len] at this; exact this
  have hNl := Lib.hid h2.len
  have hba := below_alloc (.cells #[.slice ga n gc, .slice ha n hc, .slice ka n kc] 78) (below_refl w)
  have HBA := Lib.hid hba
  have HNEW := Lib.hid (heap_alloc_new w (.cells #[.slice ga n gc, .slice ha n hc, .slice ka n kc] 78))
  obtain ⟨f0, f1, f2⟩ := rel3 HNEW.out (below_refl _)
  have H1 := Lib.hid (h1.fw hba); have H2 := Lib.hid (h2.fw hba); have H3 := Lib.hid (h3.fw hba); have HN := Lib.hid hN; have HG := Lib.hid hG; have HK := Lib.hid hK
  obtain ⟨p, hp⟩ : ∃ p, p = 2 ^ n := ⟨_, rfl⟩
  obtain ⟨s1, s2, s3⟩ := w64_pow n hn
  rw [← hp] at s1 s2 s3
  have HP := Lib.hid hp
  clear h1 h2 h3 hN hG hK hba hp
  go_enter Try.func47, Try.ntmps47
  go_upto_region 1 with fail
  generalize w.alloc (.cells #[.slice ga n gc, .slice ha n hc, .slice ka n kc] 78) = wq at *
  generalize w.heap.size = gm at f0 f1 f2 HNEW ⊢
  go_wp2_with fail
  go_loopw [4, 5, 6, 7, 8, 9, 10] (fun bv sv _ _ _ _ _ wr => ∃ (s : Nat) (b : Int), s ≤ p ∧ sv = .int .i64 (s : Int) ∧ bv = .int .i64 b ∧ -1 ≤ b ∧ b ≤ 400000000000000 ∧ Hid (LeastS n G N K s b) ∧ Hid (Below wq.heap.size wq wr)) (fun _ sv _ _ _ _ _ _ => p - (intOf sv).toNat)
  case atStart => exact ⟨0, -1, by omega, rfl, rfl, by omega, by omega, .inl ⟨rfl, rfl⟩, below_refl wq⟩
  obtain ⟨s, b, hs, rfl, rfl, hb0, hb1, hL, hbe⟩ := hrel
  by_cases hlt : s < p
  rotate_left
  · have hsp : s = p := by omega
    have HR : Hid (FlowV n (fun d => G.getD d 0) (at2 N) (fun d => K.getD d 0) b) := by
      have := hL.out
      rw [hsp, HP.out] at this
      exact this.ends
    have i1 : decide ((s : Int) < (p : Int)) = false := decide_eq_false (by omega)
    have i2 : decide (s < p) = false := decide_eq_false (by omega)
    clear hsp
    go_wp2_with fail
    go_ret
    exact ⟨b, rfl, HR.out, bt HBA.out hbe.out⟩
  have i1 : (s : Int) < (p : Int) := by omega
  rename World => wo
  have F3 := rel3 HNEW.out hbe.out
  obtain ⟨f0', f1', f2'⟩ := F3
  clear f0 f1 f2
  have HB1 := Lib.hid (show -1 ≤ b ∧ b ≤ 400000000000000 from ⟨hb0, hb1⟩)
  clear hb0 hb1
  go_wp2_with fail
  go_loop [6, 7] (fun sm tv => ∃ t : Nat, t ≤ n ∧ tv = .int .i64 (t : Int) ∧ sm = .int .i64 (cutT K s t)) (fun _ tv => n - (intOf tv).toNat)
  case atStart => exact ⟨0, by omega, rfl, rfl⟩
  obtain ⟨t, ht, rfl, rfl⟩ := hrel
  by_cases hlt2 : t < n
  · have j1 : (t : Int) < (n : Int) := by omega
    obtain ⟨y, hye⟩ : ∃ y, y = s / 2 ^ t % 2 := ⟨_, rfl⟩
    have hy1 : y ≤ 1 := by omega
    have r1 := bits_bit s t (by omega)
    rw [← hye] at r1
    have hbit := Lib.hid (bit_of s t)
    rw [← hye] at hbit
    clear hye
    have hk := H3.out.fw hbe.out
    obtain ⟨kb, ko, rfl, c1⟩ := hk.cell t _ (get_some (show t < K.length by rw [hk.len]; exact hlt2) 0)
    have HS := Lib.hid (cutT_succ K s t)
    have v1 := cutT_bd s (k := t) (by omega) fun d hd => HK.out d (by omega)
    have v2 := HK.out t hlt2
    obtain ⟨x, hx⟩ : ∃ x, x = K.getD t 0 := ⟨_, rfl⟩
    obtain ⟨u, hu⟩ : ∃ u, u = cutT K s t := ⟨_, rfl⟩
    rw [← hx] at c1 v2 HS; rw [← hu] at v1 HS ⊢
    unfold vi at c1
    have k1 := iwq (a := u + x) (by omega)
    have k2 := w64q (a := u + x) (by omega)
    clear hx hu hk v1 v2
    by_cases hbt : s.testBit t = true
    · have hb := hbit.out
      rw [hbt] at hb
      have hy2 : y = 1 := of_decide_eq_true hb.symm
      have g3 : ((y : Int) == 1) = true := by simp; omega
      have HS2 : Hid (cutT K s (t + 1) = u + x) := by show _ = _; rw [HS.out, if_pos hbt]
      clear hb hy2 hy1 hbt
      go_wp2_with fail
      clear k1 k2
      go_round
      case rel => exact ⟨t + 1, by omega, by go_num, by rw [HS2.out]⟩
      case measure => simp [intOf] <;> omega
    · have hb := hbit.out
      rw [Bool.not_eq_true] at hbt
      rw [hbt] at hb
      have hy2 : y ≠ 1 := of_decide_eq_false hb.symm
      have g3 : ((y : Int) == 1) = false := by simp; omega
      have HS2 : Hid (cutT K s (t + 1) = u) := by show _ = _; rw [HS.out, hbt]; simp
      clear hb hy2 hy1 hbt
      go_wp2_with fail
      clear k1 k2
      go_round
      case rel => exact ⟨t + 1, by omega, by go_num, by rw [HS2.out]⟩
      case measure => simp [intOf] <;> omega
  obtain rfl : n = t := by omega
  go_wp2_with fail
  go_loopw [6, 8, 9, 10] (fun sm hv _ _ wr => ∃ h : Nat, h ≤ n ∧ hv = .int .i64 (h : Int) ∧ sm = .int .i64 (cutT K s n + cutH n G N s h) ∧ Hid (Below wq.heap.size wq wr)) (fun _ hv _ _ _ => n - (intOf hv).toNat)
  case atStart => exact ⟨0, by omega, rfl, by show _ = Value.int .i64 (cutT K s n + 0); rw [Int.add_zero], hbe⟩
  clear f0' f1' f2'
  obtain ⟨h, hh, rfl, rfl, hbe3⟩ := hrel
  by_cases hlt3 : h < n
  · have j1 : (h : Int) < (n : Int) := by omega
    rename World => wo2
    go_wp2_with fail
    go_loopw [9, 10] (fun cv ov wr => ∃ o : Nat, o ≤ n ∧ ov = .int .i64 (o : Int) ∧ cv = .int .i64 (cutO n N s h o) ∧ Hid (Below wq.heap.size wq wr)) (fun _ ov _ => n - (intOf ov).toNat)
    case atStart => exact ⟨0, by omega, rfl, rfl, hbe3⟩
    obtain ⟨o, ho, rfl, rfl, hbe4⟩ := hrel
    obtain ⟨f0', f1', f2'⟩ := rel3 HNEW.out hbe4.out
    by_cases hlt4 : o < n
    · have j2 : (o : Int) < (n : Int) := by omega
      have HS := Lib.hid (cutO_succ n N s h o)
      go_wp2_with fail
      go_at_call 62
      refine (open_any ga n gc ha n hc ka n kc s h o _ hn (by omega) hlt3 hlt4).mono ?_
      clear f0' f1' f2'
      rintro e w5 ⟨rfl, hb5⟩
      have HB5 := Lib.hid (bt hbe4.out hb5)
      clear hb5
      cases hop : opn n s.testBit h o with
      | false =>
        have HS2 : Hid (cutO n N s h (o + 1) = cutO n N s h o) := by show _ = _; rw [HS.out, hop]; simp
        clear hop
        go_wp2_with fail
        go_roundw
        case rel => exact ⟨o + 1, by omega, by go_num, by rw [HS2.out], HB5⟩
        case measure => simp [intOf] <;> omega
      | true =>
        have HS2 : Hid (cutO n N s h (o + 1) = cutO n N s h o + at2 N h o) := by show _ = _; rw [HS.out, if_pos hop]
        obtain ⟨f0', f1', f2'⟩ := rel3 HNEW.out HB5.out
        obtain ⟨m, ra, rn, rc, b1, o1, hm, he, c1, hr⟩ := (H2.out.fw HB5.out).row hlt3
        cases he
        have hml : m.length = n := by rw [← hNl.out]; exact HN.out.len (List.mem_of_getElem? hm)
        obtain ⟨b3, o3, rfl, c2⟩ := hr.cell o _ (get_some (show o < m.length by rw [hml]; exact hlt4) 0)
        obtain rfl : rn = n := by rw [← hr.len]; exact hml
        have hx2 : m.getD o 0 = at2 N h o := by unfold at2; rw [getD_of hm]
        rw [hx2] at c2
        have v1 := cutO_bd HN.out rn s h (k := o) (by omega)
        have v2 := at2_small HN.out h o
        obtain ⟨x, hx⟩ : ∃ x, x = at2 N h o := ⟨_, rfl⟩
        obtain ⟨u, hu⟩ : ∃ u, u = cutO rn N s h o := ⟨_, rfl⟩
        rw [← hx] at c2 v2 HS2; rw [← hu] at v1 HS2 ⊢
        unfold vi at c2
        have k1 := iwq (a := u + x) (by omega)
        have k2 := w64q (a := u + x) (by omega)
        clear hop hm hr hml hx2 v1 v2 hx hu
        go_wp2_with fail
        clear k1 k2
        go_roundw
        case rel => exact ⟨o + 1, by omega, by go_num, by rw [HS2.out], HB5⟩
        case measure => simp [intOf] <;> omega
    · obtain rfl : n = o := by omega
      have HS := Lib.hid (cutH_succ n G N s h)
      have hg := H1.out.fw hbe4.out
      obtain ⟨gb, go', rfl, c1⟩ := hg.cell h _ (get_some (show h < G.length by rw [hg.len]; exact hlt3) 0)
      have v1 := cutT_bd s (k := n) hn fun d hd => HK.out d hd
      have v2 := cutH_bd HN.out n s hn (k := h) (by omega) fun d hd => HG.out d (by omega)
      have v3 := HG.out h hlt3
      have v4 := cutO_bd HN.out n s h (k := n) hn
      obtain ⟨x, hx⟩ : ∃ x, x = G.getD h 0 := ⟨_, rfl⟩
      obtain ⟨u, hu⟩ : ∃ u, u = cutT K s n + cutH n G N s h := ⟨_, rfl⟩
      obtain ⟨v, hv⟩ : ∃ v, v = cutO n N s h n := ⟨_, rfl⟩
      have HS2 : Hid (cutT K s n + cutH n G N s (h + 1) = u + min x v) := by show _ = _; rw [HS.out, ← hx, ← hv]; omega
      rw [← hx] at c1 v3; rw [← hv] at v4 ⊢; rw [← hu]
      unfold vi at c1
      obtain ⟨z, hz⟩ : ∃ z, min x v = z := ⟨_, rfl⟩
      have HZ := Lib.hid hz
      have k1 := iwq (a := u + z) (by omega)
      have k2 := w64q (a := u + z) (by omega)
      clear v1 v2 v3 v4 hx hu hv hz hg
      go_wp2_with (first
        | (refine wpList_min2 rfl (.tmp 67) (.tmp 68) 3 rfl x v rfl rfl ?_; rw [HZ.out])
        | fail)
      clear k1 k2
      go_roundw
      case rel => exact ⟨h + 1, by omega, by go_num, by rw [HS2.out, HZ.out], hbe4⟩
      case measure => simp [intOf] <;> omega
  obtain rfl : n = h := by omega
  have v1 := cutT_bd s (k := n) hn fun d hd => HK.out d hd
  have v2 := cutH_bd HN.out n s hn (k := n) hn fun d hd => HG.out d hd
  obtain ⟨c, hc⟩ : ∃ c, c = cutT K s n + cutH n G N s n := ⟨_, rfl⟩
  have HC : Hid (cutS n G N K s = c) := by show cutT K s n + cutH n G N s n = c; rw [hc]
  have vb := HB1.out
  rw [← hc]
  have vc : 0 ≤ c ∧ c ≤ 400000000000000 := by rw [hc]; omega
  clear v1 v2 hc
  by_cases hb0 : b < 0
  · have HL2 := Lib.hid (hL.out.take (by rw [HC.out]; exact vc.1) (.inl hb0))
    have e1 := decide_eq_true hb0
    clear hb0
    go_wp2_with fail
    go_roundw
    case rel => exact ⟨s + 1, c, by omega, by go_num, rfl, by omega, by omega, by have := HL2.out; rw [HC.out] at this; exact this, hbe3⟩
    case measure => simp [intOf] <;> omega
  have e1 := decide_eq_false hb0
  by_cases hcb : c < b
  · have HL2 := Lib.hid (hL.out.take (by rw [HC.out]; exact vc.1) (.inr (by rw [HC.out]; exact hcb)))
    have e2 := decide_eq_true hcb
    clear hb0 hcb
    go_wp2_with fail
    go_roundw
    case rel => exact ⟨s + 1, c, by omega, by go_num, rfl, by omega, by omega, by have := HL2.out; rw [HC.out] at this; exact this, hbe3⟩
    case measure => simp [intOf] <;> omega
  · have HL2 := Lib.hid (hL.out.step (by rw [HC.out]; exact vc.1) (by rw [HC.out]; omega))
    have e2 := decide_eq_false hcb
    clear hb0 hcb
    go_wp2_with fail
    go_roundw
    case rel => exact ⟨s + 1, b, by omega, by go_num, rfl, by omega, by omega, HL2.out, hbe3⟩
    case measure => simp [intOf] <;> omega
end Go.Proofs.Ytpecepfnmkpmmaa
