/- append at a step of a region that draws its order (taken out of XMkd, XWMSol: for the seats that have neither). -/
import Derived.Test.YtioiaiifkfopnaaKitR
import Derived.Deep.RegionHeld3
import Derived.Deep.AppendLies
import Derived.Laws.AppendOwnNone
namespace Go.Kin
open Go.RowKit
/-- append, at a step of a region that draws its order: the source any slice that can be read and is not nil. -/
theorem step_append_rd {α : Type} {P : Program} (w : World) {ops : Array Oper} {o : Oper} {a : Act} {K : Act → World → Prop} {Q : Exit → Act → World → Prop} {E : Prop} (hgd : o.guard = none) (s x : Operand) (t : TypeId)
    (ho : o.op = .call { callee := .builtin .append, args := #[s, x], argTypes := #[t, t] }) (f : α → Value) (hf : ∀ x, (f x).oneCell' = true)
    (base : Nat) (e : TypeId) (i : TypeInfo) (z : Value) (bytes : Nat) (ht : P.underlying t = some (.slice e)) (hi : P.info? e = some i) (hz : i.zero = some z)
    (hsize : i.size = 1) (hby : i.bytes = bytes) (hzs : z.cells.size = 1)
    (sa : Option Addr) (n c : Nat) (L : List α) (hs : a.eval s = .slice sa n c) (hown : Own f base e w sa n c L)
    (ad : Addr) (m d : Nat) (X : List α) (hx : a.eval x = .slice (some ad) m d) (hX : Rd f w (some ad) m d X)
    (h63 : n + m ≤ maxLen) (hbytes : (n + m) * bytes ≤ 140737488355328) (hbase : base ≤ w.heap.size)
    (h : ∀ sa' c' w', Own f base e w' sa' (n + m) c' (L ++ X) → w.grownBy w' (Value.slice sa n c).ownBlock → K (a.put o.dst (.slice sa' (n + m) c')) w') :
    if Region.wanted o (yielded ops a.tmps) = true then Oper.wp P o a w K Q else E := by
  have hw : Region.wanted o (yielded ops a.tmps) = true := by simp [Region.wanted, hgd]
  rw [if_pos hw]
  refine wp_append_own w s x t ho base e i z 1 bytes ht hi hz hsize hby hzs (by omega) (.slice sa n c) n (L.map f) hs hown.ownsRow ad m d (X.map f) hx (by rw [List.length_map, hX.len, Nat.mul_one]) ?_ ?_ h63 hbytes hbase ?_
  · intro j u hu
    rw [List.getElem?_map] at hu
    cases hj : X[j]? with
    | none => rw [hj] at hu; cases hu
    | some y =>
      rw [hj] at hu
      cases hu
      obtain ⟨b, o, ha, hc⟩ := hX.cell j y hj
      cases ha
      have e : (⟨b, o, none⟩ : Addr).add j = ⟨b, o + j, none⟩ := by unfold Addr.add; split <;> simp_all
      rw [e]; exact hc
  · intro u hu
    obtain ⟨y, _, rfl⟩ := List.mem_map.1 hu
    exact hf y
  · intro v' w' h1 h2 _
    rw [← List.map_append] at h1
    obtain ⟨sa', c', rfl, ho'⟩ := Own.of_ownsRow h1
    exact h sa' c' w' ho' h2
theorem step_append_any {α : Type} {P : Program} (w : World) {ops : Array Oper} {o : Oper} {a : Act} {K : Act → World → Prop} {Q : Exit → Act → World → Prop} {E : Prop} (hgd : o.guard = none) (s x : Operand) (t : TypeId)
    (ho : o.op = .call { callee := .builtin .append, args := #[s, x], argTypes := #[t, t] }) (f : α → Value) (hf : ∀ x, (f x).oneCell' = true)
    (base : Nat) (e : TypeId) (i : TypeInfo) (z : Value) (bytes : Nat) (ht : P.underlying t = some (.slice e)) (hi : P.info? e = some i) (hz : i.zero = some z)
    (hsize : i.size = 1) (hby : i.bytes = bytes) (hzs : z.cells.size = 1)
    (sa : Option Addr) (n c : Nat) (L : List α) (hs : a.eval s = .slice sa n c) (hown : Own f base e w sa n c L)
    (xa : Option Addr) (m d : Nat) (X : List α) (hx : a.eval x = .slice xa m d) (hX : Rd f w xa m d X)
    (h63 : n + m ≤ maxLen) (hbytes : (n + m) * bytes ≤ 140737488355328) (hbase : base ≤ w.heap.size)
    (h : ∀ sa' c' w', Own f base e w' sa' (n + m) c' (L ++ X) → w.grownBy w' (Value.slice sa n c).ownBlock → K (a.put o.dst (.slice sa' (n + m) c')) w') :
    if Region.wanted o (yielded ops a.tmps) = true then Oper.wp P o a w K Q else E := by
  cases xa with
  | some ad => exact step_append_rd w hgd s x t ho f hf base e i z bytes ht hi hz hsize hby hzs sa n c L hs hown ad m d X hx hX h63 hbytes hbase h
  | none =>
    obtain ⟨rfl, rfl⟩ : m = 0 ∧ d = 0 := by
      have h1 := hX.none0 rfl
      have h2 := hX.cap
      exact ⟨by omega, h1⟩
    obtain rfl : X = [] := List.eq_nil_of_length_eq_zero hX.len
    have hw : Region.wanted o (yielded ops a.tmps) = true := by simp [Region.wanted, hgd]
    rw [if_pos hw]
    have hrun := run_append_owned_none (P := P) (w := w) base t o.type e i 1 ht hi (.slice sa n c) n (L.map f) hown.ownsRow
    unfold Oper.wp
    simp [execOp, ho, resolve, invoke, builtin, hs, hx, hrun, Result.andThen]
    have := h sa c w (by rw [List.append_nil]; exact hown) ⟨rfl, rfl, rfl, Nat.le_refl _, fun _ _ _ => rfl⟩
    exact this
end Go.Kin
