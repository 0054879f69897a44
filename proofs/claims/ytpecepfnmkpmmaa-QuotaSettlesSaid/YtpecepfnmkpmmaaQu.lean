/- kinkeeplaw35.low; sums of tables, plain. -/
import Derived.Test.YtpecepfnmkpmmaaQt
namespace Quo
/-- At most k rows of at most 14 numbers of at most b. -/
def Low (T : Tab) (k b : Int) : Prop := (T.length : Int) ≤ k ∧ ∀ m ∈ T, m.length ≤ 14 ∧ ∀ x ∈ m, x ≤ b
instance (T : Tab) (k b : Int) : Decidable (Low T k b) := by unfold Low; infer_instance
theorem low_false {T : Tab} {k b : Int} {j : Nat} {m : List Int} (hm : T[j]? = some m) (h : ¬ (m.length ≤ 14 ∧ ∀ x ∈ m, x ≤ b)) : decide (Low T k b) = false :=
  decide_eq_false fun hc => h (hc.2 m (List.mem_of_getElem? hm))
def sumZ (X Y : Tab) (n : Nat) : Tab := (List.range n).map fun i => (List.range n).map fun o => at2 X i o + at2 Y i o
theorem sumZ_length (X Y : Tab) (n : Nat) : (sumZ X Y n).length = n := by unfold sumZ; simp
theorem sumZ_row {X Y : Tab} {n i : Nat} (hi : i < n) : (sumZ X Y n)[i]? = some ((List.range n).map fun o => at2 X i o + at2 Y i o) := by
  unfold sumZ
  rw [List.getElem?_map, List.getElem?_range hi]; rfl
theorem sumZ_vt {X Y : Tab} {n : Nat} (hX : VT X) (hY : VT Y) (hx : X.length = n) (hy : Y.length = n) (lx : Low X 12 549755813888) (ly : Low Y 12 549755813888) : VT (sumZ X Y n) := by
  refine ⟨by rw [sumZ_length, ← hx]; exact hX.1, fun i hi => ?_⟩
  rw [sumZ_length] at hi ⊢
  rw [getD_of (sumZ_row hi)]
  obtain ⟨rx, ax, bx, cx, dx, ex⟩ := hX.cell (i := i) (j := i) (by omega) (by omega)
  refine ⟨by simp, ?_, fun z hz => ?_⟩
  · rw [List.getElem?_map, List.getElem?_range hi]
    have h1 : at2 X i i = 0 := by
      have := (hX.row (get_some (show i < X.length by omega) [])).2.1
      unfold at2
      rw [List.getD_eq_getElem?_getD, this]; rfl
    have h2 : at2 Y i i = 0 := by
      have := (hY.row (get_some (show i < Y.length by omega) [])).2.1
      unfold at2
      rw [List.getD_eq_getElem?_getD, this]; rfl
    show some (at2 X i i + at2 Y i i) = _
    rw [h1, h2]; rfl
  · obtain ⟨o, ho, rfl⟩ := List.mem_map.1 hz
    have ho2 : o < n := by simpa using ho
    obtain ⟨r1, h1, _, h3, h4, _⟩ := hX.cell (i := i) (j := o) (by omega) (by omega)
    obtain ⟨r2, k1, _, k3, k4, _⟩ := hY.cell (i := i) (j := o) (by omega) (by omega)
    have u1 := (lx.2 r1 (List.mem_of_getElem? h1)).2 _ (List.mem_of_getElem? h3)
    have u2 := (ly.2 r2 (List.mem_of_getElem? k1)).2 _ (List.mem_of_getElem? k3)
    unfold maxC
    omega
theorem sum_map_add {α : Type} (f g : α → Int) : ∀ l : List α, (l.map fun i => f i + g i).sum = (l.map f).sum + (l.map g).sum
  | [] => by simp
  | x :: l => by rw [List.map_cons, List.map_cons, List.map_cons, List.sum_cons, List.sum_cons, List.sum_cons, sum_map_add f g l]; omega
theorem sum_map_sub {α : Type} (f g : α → Int) : ∀ l : List α, (l.map fun i => f i - g i).sum = (l.map f).sum - (l.map g).sum
  | [] => by simp
  | x :: l => by rw [List.map_cons, List.map_cons, List.map_cons, List.sum_cons, List.sum_cons, List.sum_cons, sum_map_sub f g l]; omega
theorem list_range (l : List Int) {n : Nat} (h : l.length = n) : (List.range n).map (fun i => l.getD i 0) = l := by
  apply List.ext_getElem?
  intro i
  by_cases hi : i < n
  · rw [map_range_get hi, get_some (by omega) 0]
  · rw [List.getElem?_eq_none (by simp; omega), List.getElem?_eq_none (by omega)]
theorem tab_range (T : Tab) {n : Nat} (h : T.length = n) : (List.range n).map (fun i => T.getD i []) = T := by
  apply List.ext_getElem?
  intro i
  by_cases hi : i < n
  · rw [map_range_get hi, get_some (by omega) []]
  · rw [List.getElem?_eq_none (by simp; omega), List.getElem?_eq_none (by omega)]
theorem col_at (T : Tab) {n : Nat} (h : T.length = n) (d : Nat) : col T d = (List.range n).map fun i => at2 T i d := by
  unfold col
  rw [← congrArg (List.map fun r : List Int => r.getD d 0) (tab_range T h), List.map_map]
  rfl
theorem row_at {T : Tab} (hT : VT T) {n : Nat} (h : T.length = n) {i : Nat} (hi : i < n) : T.getD i [] = (List.range n).map fun d => at2 T i d := by
  have := (hT.row (get_some (show i < T.length by omega) [])).1
  exact (list_range _ (by omega)).symm
theorem bal_at {T : Tab} (hT : VT T) {n : Nat} (h : T.length = n) {d : Nat} (hd : d < n) : (balF T)[d]? = some (((List.range n).map fun i => at2 T i d).sum - ((List.range n).map fun i => at2 T d i).sum) := by
  unfold balF
  rw [h, map_range_get hd, col_at T h, row_at hT h hd]
theorem sumZ_at {X Y : Tab} {n i o : Nat} (hi : i < n) (ho : o < n) : at2 (sumZ X Y n) i o = at2 X i o + at2 Y i o := by
  unfold at2
  rw [getD_of (sumZ_row hi), getD_of (map_range_get ho)]
  rfl
theorem bal_add {X Y : Tab} {n : Nat} (hX : VT X) (hY : VT Y) (hx : X.length = n) (hy : Y.length = n) (hZ : VT (sumZ X Y n)) {d : Nat} (hd : d < n) :
    (balF (sumZ X Y n)).getD d 0 = (balF X).getD d 0 + (balF Y).getD d 0 := by
  rw [getD_of (bal_at hX hx hd), getD_of (bal_at hY hy hd), getD_of (bal_at hZ (sumZ_length X Y n) hd)]
  rw [map_range_congr (f := fun i => at2 (sumZ X Y n) i d) (g := fun i => at2 X i d + at2 Y i d) fun i hi => sumZ_at hi hd]
  rw [map_range_congr (f := fun i => at2 (sumZ X Y n) d i) (g := fun i => at2 X d i + at2 Y d i) fun i hi => sumZ_at hd hi]
  rw [sum_map_add, sum_map_add]
  have key : ∀ a b c d : Int, a + b - (c + d) = a - c + (b - d) := by intros; omega
  exact key _ _ _ _
theorem sum_swap (f : Nat → Nat → Int) (l : List Nat) : ∀ k : List Nat, (k.map fun d => (l.map fun i => f i d).sum).sum = (l.map fun i => (k.map fun d => f i d).sum).sum
  | [] => by
    have : ∀ l : List Nat, (l.map fun _ => (0 : Int)).sum = 0 := by
      intro l
      induction l with
      | nil => rfl
      | cons x l ih => rw [List.map_cons, List.sum_cons, ih]; rfl
    simp [this]
  | d :: k => by
    rw [List.map_cons, List.sum_cons, sum_swap f l k, ← sum_map_add]
    congr 1
theorem bal_sum {T : Tab} (hT : VT T) : (balF T).sum = 0 := by
  have e : balF T = (List.range T.length).map fun d => ((List.range T.length).map fun i => at2 T i d).sum - ((List.range T.length).map fun i => at2 T d i).sum := by
    apply List.ext_getElem?
    intro d
    by_cases hd : d < T.length
    · rw [bal_at hT rfl hd, map_range_get hd]
    · rw [List.getElem?_eq_none (by unfold balF; simp; omega), List.getElem?_eq_none (by simp; omega)]
  rw [e, sum_map_sub, sum_swap (fun i d => at2 T i d)]
  omega
end Quo
namespace Go.Proofs.Ytpecepfnmkpmmaa
open Go.RowKit Go.Kin Quo
set_option maxRecDepth 100000
set_option linter.unusedVariables false
theorem low_any (a : Option Addr) (n c : Nat) (T : Tab) (k b : Int) (w : World) (h : RdT w a n c T) :
    Calls Try.prog 16 #[.slice a n c, .int .i64 k, .int .i64 b] w fun e w' => e = .returned (.bool (decide (Low T k b))) ∧ w = w' := by
  have hlim := h.lim
  have H := Lib.hid h
  have hlen := Lib.hid h.len
  clear h
  go_enter Try.func16, Try.ntmps16
  go_wp2
  go_loopw [7] (fun i wr => ∃ j : Nat, j ≤ n ∧ i = .int .i64 (j : Int) ∧ Hid (∀ m ∈ T.take j, m.length ≤ 14 ∧ ∀ x ∈ m, x ≤ b) ∧ wr = w) (fun i _ => n - (intOf i).toNat)
  case atStart => exact ⟨0, by omega, rfl, fun m hm => by simp at hm, rfl⟩
  case round =>
    obtain ⟨j, hj, rfl, hv, rfl⟩ := hrel
    rename World => wo
    by_cases hlt : j < n
    · have i2 : (j : Int) < (n : Int) := by omega
      obtain ⟨m, ra, rn, rc, b1, o1, hm, rfl, c1, hr⟩ := H.out.row hlt
      have HR := Lib.hid hr
      have HM := Lib.hid hm
      have hml := Lib.hid hr.len
      have hrlim : rn ≤ 9223372036854775807 := by have := hr.cap; have := hr.max; unfold maxLen at *; omega
      clear hr hm
      by_cases h14 : 14 < rn
      · have hf := Lib.hid (low_false (k := k) (b := b) HM.out fun h => by have := h.1; rw [hml.out] at this; omega)
        go_wp2_with fail
        go_ret
        exact ⟨ret_bool hf.out.symm, rfl⟩
      · have h14' : rn ≤ 14 := by omega
        go_wp2_with fail
        clear c1
        go_loopw [8] (fun i wr => ∃ u : Nat, u ≤ rn ∧ i = .int .i64 (u : Int) ∧ Hid (∀ x ∈ m.take u, x ≤ b) ∧ wr = wo) (fun i _ => rn - (intOf i).toNat)
        case atStart => exact ⟨0, by omega, rfl, fun x hx => by simp at hx, rfl⟩
        case round =>
          obtain ⟨u, hu, rfl, hv2, rfl⟩ := hrel
          obtain ⟨m', ra', rn', rc', b1', o1', hm', e', c1, hr'⟩ := H.out.row hlt
          cases e'
          rw [HM.out] at hm'
          cases hm'
          obtain rfl : rn' = rn := by rw [← hr'.len, hml.out]
          by_cases hlt2 : u < rn'
          · have i3 : (u : Int) < (rn' : Int) := by omega
            obtain ⟨x, hx⟩ : ∃ x, m[u]? = some x := ⟨_, List.getElem?_eq_getElem (by rw [hml.out]; exact hlt2)⟩
            obtain ⟨b2, o2, rfl, c2⟩ := hr'.cell u x hx
            unfold vi at c2
            have HX := Lib.hid hx
            clear hx hr'
            by_cases hxb : b < x
            · have hf := Lib.hid (low_false (k := k) (b := b) HM.out fun h => by have := h.2 _ (List.mem_of_getElem? HX.out); omega)
              go_wp2_with fail
              go_ret
              exact ⟨ret_bool hf.out.symm, rfl⟩
            · have hv3 : Hid (∀ y ∈ m.take (u + 1), y ≤ b) := by
                intro y hy
                rw [List.take_add_one, HX.out] at hy
                rcases List.mem_append.1 hy with hy | hy
                · exact hv2.out y hy
                · have : y = x := by simpa using hy
                  omega
              go_wp2_with fail
              go_roundw
              case rel => exact ⟨u + 1, by omega, by go_num, hv3, by trivial⟩
              case measure => simp [intOf]; omega
          · have hun : u = rn' := by omega
            subst hun
            have hv3 : Hid (∀ y ∈ T.take (j + 1), y.length ≤ 14 ∧ ∀ x ∈ y, x ≤ b) := by
              intro y hy
              rw [List.take_add_one, HM.out] at hy
              rcases List.mem_append.1 hy with hy | hy
              · exact hv.out y hy
              · have e : y = m := by simpa using hy
                subst e
                refine ⟨by rw [hml.out]; exact h14', ?_⟩
                have := hv2.out
                rwa [List.take_of_length_le (by rw [hml.out]; exact Nat.le_refl _)] at this
            clear hr'
            go_wp2_with fail
            go_roundw
            case rel => exact ⟨j + 1, by omega, by go_num, hv3, by trivial⟩
            case measure => simp [intOf]; omega
    · have hjn : j = n := by omega
      subst hjn
      have hg : Hid (∀ m ∈ T, m.length ≤ 14 ∧ ∀ x ∈ m, x ≤ b) := by have := hv.out; rwa [List.take_of_length_le (by rw [hlen.out]; exact Nat.le_refl _)] at this
      by_cases hk : (j : Int) ≤ k
      · have hf : Hid (decide (Low T k b) = true) := decide_eq_true ⟨by rw [hlen.out]; exact hk, hg.out⟩
        go_wp2_with fail
        go_ret
        exact ⟨ret_bool (by first | exact hf.out.symm | (rw [hf.out]; first | rfl | simpa using hk)), rfl⟩
      · have hf : Hid (decide (Low T k b) = false) := decide_eq_false fun h => hk (by rw [← hlen.out]; exact h.1)
        go_wp2_with fail
        go_ret
        exact ⟨ret_bool (by first | exact hf.out.symm | (rw [hf.out]; first | rfl | (simp; omega))), rfl⟩
end Go.Proofs.Ytpecepfnmkpmmaa
