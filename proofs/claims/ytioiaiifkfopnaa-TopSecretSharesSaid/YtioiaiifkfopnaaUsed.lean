/- map[int]bool, the call's own: which keys have been laid in. -/
import Derived.Test.YtioiaiifkfopnaaKitR
import Derived.Test.YtioiaiifkfopnaaChecked
import Derived.Maps.OwnSet
namespace Go.Proofs.Ytioiaiifkfopnaa
open Go.RowKit Go.Kin Go.Maps
set_option linter.unusedVariables false
set_option maxRecDepth 100000

theorem law3 : Keyed Try.prog 3 := int_keyed Try.underlying3
theorem zero4 (w : World) : (zeroValue 4).run Try.prog w = .ok (.bool false) w := by kernel_rfl

/-- The map in block b holds 'true' at the keys of the list, and nothing else. -/
def Usd (w : World) (b : Nat) (S : List Int) : Prop :=
  ∃ D : DataW Unit, w.ownsMap Try.prog 3 (plainElem Try.prog 4) b S.length D ∧ ∀ x : Int, D.atKey (.int .i64 x) (.lit (.bool false)) = .lit (.bool (decide (x ∈ S)))
theorem Usd.new (w : World) : Usd (w.alloc (.map #[] 0)) w.heap.size [] := by
  refine ⟨_, World.ownsMap_made w _ _ _, fun x => ?_⟩
  simp [DataW.atKey]
theorem Usd.fw {w w' : World} {b : Nat} {S : List Int} (h : Usd w b S) (hb : Below w.heap.size w w') : Usd w' b S := by
  obtain ⟨D, h1, h2⟩ := h
  exact ⟨D, h1.kept (row := none) (grown_of_fw hb none) (by simp), h2⟩
theorem Usd.lt {w : World} {b : Nat} {S : List Int} (h : Usd w b S) : b < w.heap.size := by
  obtain ⟨D, h1, h2⟩ := h
  exact h1.lt
theorem plainElem_bool_inv {H : Type} {v : Value} {d : DataW H} {ps : List MemPlace} (h : plainElem Try.prog 4 v = some (d, ps)) : ∃ x, v = .bool x ∧ d = .lit (.bool x) := by
  unfold plainElem at h
  rw [Try.underlying4] at h
  cases v <;> simp at h
  exact ⟨_, rfl, h.1.symm⟩
theorem Usd.look {w : World} {b : Nat} {S : List Int} (h : Usd w b S) (x : Int) (h0 : -9223372036854775808 ≤ x) (h1 : x ≤ 9223372036854775807) :
    (Instr.lookup 25 (.map (some b)) (.int .i64 x) false).run Try.prog w = .ok (.bool (decide (x ∈ S))) w := by
  obtain ⟨D, hD, hS⟩ := h
  obtain ⟨v, ps, hrun, hv⟩ := hD.lookup law3 Try.underlying25 (zero4 w) (plainElem_bool Try.underlying4 false) (keyOf_int_mk Try.underlying3 (WalkArith.wf_i64 ⟨h0, h1⟩))
  obtain ⟨y, rfl, hd⟩ := plainElem_bool_inv hv
  rw [hS x] at hd
  cases hd
  exact hrun
theorem Usd.put {w : World} {b : Nat} {S : List Int} (h : Usd w b S) (x : Int) (h0 : -9223372036854775808 ≤ x) (h1 : x ≤ 9223372036854775807) (hl : S.length < 1000) :
    ∃ w', (Instr.mapUpdate 25 (.map (some b)) (.int .i64 x) (.bool true)).run Try.prog w = .ok () w' ∧ Usd w' b (S ++ [x]) ∧ w.grownBy w' (some b) := by
  obtain ⟨D, hD, hS⟩ := h
  obtain ⟨w', hrun, hown, hg⟩ := hD.update law3 Try.underlying25 (by unfold maxLen; omega) (keyOf_int_mk Try.underlying3 (WalkArith.wf_i64 ⟨h0, h1⟩)) (plainElem_bool Try.underlying4 true)
  refine ⟨w', hrun, ⟨_, by rw [List.length_append]; exact hown, fun y => ?_⟩, hg⟩
  by_cases e : y = x
  · subst e
    have hk : WideAt.IsKeyLit (.int .i64 y) := True.intro
    rw [atKey_put_same hD.isMap hk]
    simp
  · rw [atKey_put_other (by intro e2; cases e2; exact e rfl), hS y]
    congr 2
    simp [e]
end Go.Proofs.Ytioiaiifkfopnaa
