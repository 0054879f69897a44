/- A move and the move back, plain. -/
import Derived.Test.YtpecepfnmkpmmaaRa
import Derived.Test.YtpecepfnmkpmmaaRb
import Derived.Test.YtpecepfnmkpmmaaQx
namespace Quo
set_option linter.unusedVariables false
theorem tab_ext {A B : Tab} {n : Nat} (hA : VT A) (hB : VT B) (la : A.length = n) (lb : B.length = n) (h : ∀ i j, i < n → j < n → at2 A i j = at2 B i j) : A = B := by
  apply List.ext_getElem?
  intro i
  by_cases hi : i < n
  · rw [get_some (by omega) [], get_some (l := B) (by omega) [], row_at hA la hi, row_at hB lb hi]
    exact congrArg some (map_range_congr fun j hj => h i j hi hj)
  · rw [List.getElem?_eq_none (by omega), List.getElem?_eq_none (by omega)]
theorem sum_if {n : Nat} (x : Int) {t : Nat} (ht : t < n) (c : Prop) [Decidable c] : ((List.range n).map fun i => if i = t ∧ c then x else 0).sum = if c then x else 0 := by
  by_cases hc : c
  · rw [if_pos hc]
    exact sum_one ht fun b _ => ⟨fun h => h.1, fun h => ⟨h, hc⟩⟩
  · rw [if_neg hc]
    exact sum_zero fun b _ => if_neg fun h => hc h.2
theorem sum_if2 {n : Nat} (x : Int) {t : Nat} (ht : t < n) (c : Prop) [Decidable c] : ((List.range n).map fun i => if c ∧ i = t then x else 0).sum = if c then x else 0 := by
  by_cases hc : c
  · rw [if_pos hc]
    exact sum_one ht fun b _ => ⟨fun h => h.2, fun h => ⟨hc, h⟩⟩
  · rw [if_neg hc]
    exact sum_zero fun b _ => if_neg fun h => hc h.1
theorem bal_mov {T : Tab} (hT : VT T) {n : Nat} (hn : T.length = n) {m : Mz} {f t o : Nat} (e1 : m.fr = (f : Int)) (e2 : m.dst = (t : Int)) (e3 : m.ow = (o : Int)) (hf : f < n) (ht : t < n) (ho : o < n) (hft : f ≠ t) (hV : VT (movT T m)) (hl : (movT T m).length = n) {d : Nat} (hd : d < n) :
    (balF (movT T m)).getD d 0 = (balF T).getD d 0 + (if d = f then m.amt else 0) - (if d = t then m.amt else 0) := by
  have hat : ∀ a b, at2 (movT T m) a b = at2 T a b + (if a = t ∧ b = o then m.amt else 0) - (if a = f ∧ b = o then m.amt else 0) := by
    intro a b
    rw [movT_at hT hn e1 e2 e3 hf ht ho hft]
    by_cases h1 : a = t ∧ b = o
    · obtain ⟨rfl, rfl⟩ := h1
      rw [if_pos ⟨rfl, rfl⟩, if_pos ⟨rfl, rfl⟩, if_neg (fun h => hft h.1.symm)]; omega
    · rw [if_neg h1, if_neg h1]
      by_cases h2 : a = f ∧ b = o
      · obtain ⟨rfl, rfl⟩ := h2
        rw [if_pos ⟨rfl, rfl⟩, if_pos ⟨rfl, rfl⟩]; omega
      · rw [if_neg h2, if_neg h2]; omega
  rw [getD_of (bal_at hV hl hd), getD_of (bal_at hT hn hd)]
  rw [map_range_congr (f := fun i => at2 (movT T m) i d) (g := fun i => at2 T i d + (if i = t ∧ d = o then m.amt else 0) - (if i = f ∧ d = o then m.amt else 0)) fun i _ => hat i d]
  rw [map_range_congr (f := fun i => at2 (movT T m) d i) (g := fun i => at2 T d i + (if d = t ∧ i = o then m.amt else 0) - (if d = f ∧ i = o then m.amt else 0)) fun i _ => hat d i]
  rw [sum_map_sub, sum_map_add, sum_map_sub, sum_map_add, sum_if _ ht, sum_if _ hf, sum_if2 _ ho, sum_if2 _ ho]
  have key : ∀ a b c p q : Int, a + c - c - (b + p - q) = a - b + q - p := by intros; omega
  exact key _ _ _ _ _
/-- The move back. -/
def backM (m : Mz) : Mz := ⟨m.dst, m.fr, m.ow, m.amt⟩
theorem appF_one {T : Tab} {m : Mz} (hT : VT T) (hm : MovOk T.length m) (h1 : ¬ at2 T m.fr.toNat m.ow.toNat < m.amt) (h2 : ¬ maxC - m.amt < at2 T m.dst.toNat m.ow.toNat) : appF T [m] = (0, movT T m) := by
  rw [appF_yes hT (by simpa using hm), appR_cons, if_neg h1, if_neg h2]; rfl
theorem appF_one_inv {T : Tab} {m : Mz} (h : (appF T [m]).1 = 0) : VT T ∧ MovOk T.length m ∧ ¬ at2 T m.fr.toNat m.ow.toNat < m.amt ∧ ¬ maxC - m.amt < at2 T m.dst.toNat m.ow.toNat ∧ appF T [m] = (0, movT T m) := by
  by_cases hT : VT T
  · by_cases hm : MovOk T.length m
    · by_cases h1 : at2 T m.fr.toNat m.ow.toNat < m.amt
      · rw [appF_yes hT (by simpa using hm), appR_cons, if_pos h1] at h; cases h
      · by_cases h2 : maxC - m.amt < at2 T m.dst.toNat m.ow.toNat
        · rw [appF_yes hT (by simpa using hm), appR_cons, if_neg h1, if_pos h2] at h; cases h
        · exact ⟨hT, hm, h1, h2, appF_one hT hm h1 h2⟩
    · rw [appF_no hT (List.mem_singleton_self m) hm] at h; cases h
  · unfold appF at h; rw [if_neg hT] at h; cases h
theorem appR_nil : ∀ (ms : List Mz) (T : Tab), (appR T ms).1 ≠ 0 → (appR T ms).2 = []
  | [], T, h => absurd rfl h
  | m :: ms, T, h => by
    rw [appR_cons] at h ⊢
    split
    · rfl
    · rename_i h1
      rw [if_neg h1] at h
      split
      · rfl
      · rename_i h2
        rw [if_neg h2] at h
        exact appR_nil ms _ h
theorem appF_nil {ms : List Mz} {T : Tab} (h : (appF T ms).1 ≠ 0) : (appF T ms).2 = [] := by
  unfold appF at h ⊢
  split
  · rename_i h1
    rw [if_pos h1] at h
    split
    · rename_i h2
      rw [if_pos h2] at h
      exact appR_nil ms T h
    · rfl
  · rfl
theorem back_one {T : Tab} {m : Mz} (hT : VT T) (hm : MovOk T.length m) (h1 : ¬ at2 T m.fr.toNat m.ow.toNat < m.amt) (h2 : ¬ maxC - m.amt < at2 T m.dst.toNat m.ow.toNat) : appF (movT T m) [backM m] = (0, T) := by
  obtain ⟨hV, hl⟩ := movT_vt hT hm h1 h2
  obtain ⟨f, t, o, e1, e2, e3, hf, ht, ho, hft, hfo, hto⟩ := hm.nat
  have hm2 : MovOk (movT T m).length (backM m) := by
    rw [hl]
    obtain ⟨k1, k2, k3, k4, k5, k6, k7, k8, k9, k10, k11⟩ := hm
    exact ⟨k3, k4, k1, k2, k5, k6, Ne.symm k7, k9, k8, k10, k11⟩
  have hat := fun a b => movT_at hT rfl e1 e2 e3 hf ht ho hft a b
  have b1 := hT.bound ht ho
  have b2 := hT.bound hf ho
  have c1 : at2 (movT T m) t o = at2 T t o + m.amt := by rw [hat, if_pos ⟨rfl, rfl⟩]
  have c2 : at2 (movT T m) f o = at2 T f o - m.amt := by rw [hat, if_neg (fun h => hft h.1), if_pos ⟨rfl, rfl⟩]
  have j1 : ¬ at2 (movT T m) (backM m).fr.toNat (backM m).ow.toNat < (backM m).amt := by
    show ¬ at2 (movT T m) m.dst.toNat m.ow.toNat < m.amt
    rw [e2, e3, Int.toNat_natCast, Int.toNat_natCast, c1]; omega
  have j2 : ¬ maxC - (backM m).amt < at2 (movT T m) (backM m).dst.toNat (backM m).ow.toNat := by
    show ¬ maxC - m.amt < at2 (movT T m) m.fr.toNat m.ow.toNat
    rw [e1, e3, Int.toNat_natCast, Int.toNat_natCast, c2]; omega
  obtain ⟨hV2, hl2⟩ := movT_vt hV hm2 j1 j2
  rw [appF_one hV hm2 j1 j2]
  refine congrArg (Prod.mk 0) (tab_ext hV2 hT (hl2.trans hl) rfl fun a b ha hb => ?_)
  have hat2 := movT_at (m := backM m) hV hl (f := t) (t := f) (o := o) e2 e1 e3 ht hf ho (Ne.symm hft) a b
  rw [hat2, c1, c2, hat]
  show (if a = f ∧ b = o then at2 T f o - m.amt + m.amt else if a = t ∧ b = o then at2 T t o + m.amt - m.amt else _) = _
  by_cases h3 : a = f ∧ b = o
  · obtain ⟨rfl, rfl⟩ := h3
    rw [if_pos ⟨rfl, rfl⟩]; omega
  · rw [if_neg h3]
    by_cases h4 : a = t ∧ b = o
    · obtain ⟨rfl, rfl⟩ := h4
      rw [if_pos ⟨rfl, rfl⟩]; omega
    · rw [if_neg h4, if_neg h4, if_neg h3]
end Quo
