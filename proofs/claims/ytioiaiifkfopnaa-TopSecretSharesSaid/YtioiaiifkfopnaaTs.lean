/- An append in the other walk; the bytes of a string. -/
import Derived.Test.YtioiaiifkfopnaaCn
import Derived.Test.YtioiaiifkfopnaaTp
import Derived.Lib.ConvBytes
namespace Go.Kin
open Go.RowKit
/-- append(s, x...) in the other walk, x not nil. -/
theorem wpListIn_append_rd {α : Type} {F : Fence} {dp : Nat} {P : Program} {w : World} {ops : Array Oper} {rest : List Oper} {o : Oper} {a : Act} {Q : Exit → Act → World → Prop} (hgd : o.guard = none) (s x : Operand) (t : TypeId)
    (ho : o.op = .call { callee := .builtin .append, args := #[s, x], argTypes := #[t, t] }) (f : α → Value) (hf : ∀ x, (f x).oneCell' = true)
    (base : Nat) (e : TypeId) (i : TypeInfo) (z : Value) (bytes : Nat) (ht : P.underlying t = some (.slice e)) (hi : P.info? e = some i) (hz : i.zero = some z)
    (hsize : i.size = 1) (hby : i.bytes = bytes) (hzs : z.cells.size = 1)
    (sa : Option Addr) (n c : Nat) (L : List α) (hs : a.eval s = .slice sa n c) (hown : Kin.Own f base e w sa n c L)
    (ad : Addr) (m d : Nat) (X : List α) (hx : a.eval x = .slice (some ad) m d) (hX : Rd f w (some ad) m d X)
    (h63 : n + m ≤ maxLen) (hbytes : (n + m) * bytes ≤ 140737488355328) (hbase : base ≤ w.heap.size)
    (h : ∀ sa' c' w', Kin.Own f base e w' sa' (n + m) c' (L ++ X) → w.grownBy w' (Value.slice sa n c).ownBlock → wpListIn F dp P ops Q rest (a.put o.dst (.slice sa' (n + m) c')) w') : wpListIn F dp P ops Q (o :: rest) a w := by
  refine wpListIn_append_own w hgd s x t ho base e i z 1 bytes ht hi hz hsize hby hzs (by omega) (.slice sa n c) n (L.map f) hs hown.ownsRow ad m d (X.map f) hx (by rw [List.length_map, hX.len, Nat.mul_one]) ?_ ?_ h63 hbytes hbase ?_
  · intro j u hu
    rw [List.getElem?_map] at hu
    cases hj : X[j]? with
    | none => rw [hj] at hu; cases hu
    | some y =>
      rw [hj] at hu
      cases hu
      obtain ⟨b, o, ha, hc⟩ := hX.cell j y hj
      cases ha
      have e : (⟨b, o, none⟩ : Addr).add j = ⟨b, o + j, none⟩ := by unfold Addr.add; split <;> simp_all
      rw [e]; exact hc
  · intro u hu
    obtain ⟨y, _, rfl⟩ := List.mem_map.1 hu
    exact hf y
  · intro v' w' h1 h2 _
    rw [← List.map_append] at h1
    obtain ⟨sa', c', rfl, ho'⟩ := Own.of_ownsRow h1
    exact h sa' c' w' ho' h2
end Go.Kin
namespace Go.Proofs.Ytioiaiifkfopnaa
open Go.RowKit Go.Kin Go.Shelf
set_option linter.unusedVariables false
attribute [local go_sem] Oper.semAt_some
set_option maxRecDepth 100000
set_option maxHeartbeats 4000000
/-- The bytes of a string. -/
def bl (s : ByteArray) : List Nat := s.data.toList.map UInt8.toNat
theorem bl_len (s : ByteArray) : (bl s).length = s.size := by rw [bl, List.length_map, Array.length_toList]; rfl
theorem bl_byt (s : ByteArray) : Gf.Byt (bl s) := fun x hx => by
  obtain ⟨y, _, rfl⟩ := List.mem_map.1 hx
  exact y.toNat_lt
/-- []byte(s). -/
theorem conv_str (s : ByteArray) (w : World) : (convert 9 23 (.string s)).run Try.prog w = .ok (.slice (some ⟨w.heap.size, 0, none⟩) s.size (grownCap w s.size 0 5)) (Lib.bytesWorld w 5 s) :=
  Lib.run_convert_string_bytes w _ _ _ s (u := .string) Try.underlying9 Try.underlying23 Try.underlying5
theorem conv_below (s : ByteArray) (w : World) : Below w.heap.size w (Lib.bytesWorld w 5 s) := by
  refine ⟨rfl, rfl, rfl, by rw [Lib.bytesWorld_size]; omega, fun k hk => Lib.bytesWorld_at_old w _ s k hk⟩
theorem conv_rd (s : ByteArray) (hs : s.size ≤ 1000000) (w : World) : Rd vb (Lib.bytesWorld w 5 s) (some ⟨w.heap.size, 0, none⟩) s.size (grownCap w s.size 0 5) (bl s) := by
  refine ⟨bl_len s, ?_, grownCap_le_maxLen w _ _ _ (by unfold maxLen; omega), fun e => (by cases e), fun i x hx => ⟨w.heap.size, 0, rfl, ?_⟩⟩
  · have := grownCap_ge w s.size 0 5
    omega
  · have hi : i < s.size := by rw [← bl_len s]; exact (List.getElem?_eq_some_iff.1 hx).1
    rw [Nat.zero_add, Lib.bytesWorld_cell w _ s i hi]
    unfold bl at hx
    rw [List.getElem?_map] at hx
    cases hy : s.data.toList[i]? with
    | none => rw [hy] at hx; cases hx
    | some y =>
      rw [hy] at hx
      cases hx
      rw [List.getD_eq_getElem?_getD, hy]
      rfl
end Go.Proofs.Ytioiaiifkfopnaa
