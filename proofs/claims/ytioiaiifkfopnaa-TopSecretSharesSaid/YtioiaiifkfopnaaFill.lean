/- gf256.fill returns the tables of the powers of 2 and of the logarithms. -/
import Derived.Test.YtioiaiifkfopnaaMul
import Derived.Laws.Rows
import Derived.Laws.Tables
import Derived.RegionTactic
import Derived.Below
namespace Go.Proofs.Ytioiaiifkfopnaa
open Go.RowKit Go.Kin

theorem cells_fill : True := trivial

/-- The tables as arrays of values. -/
def pwA (k : Nat) : Array Value := ((Gf.pwL k).map fun (n : Nat) => Value.int .u8 (n : Int)).toArray
def lgA (k : Nat) : Array Value := ((Gf.lgL k).map fun (n : Nat) => Value.int .i64 (n : Int)).toArray

theorem pwA_size (k : Nat) : (pwA k).size = 255 := by simp [pwA, Gf.pwL_length]
theorem lgA_size (k : Nat) : (lgA k).size = 256 := by simp [lgA, Gf.lgL_length]

theorem pwA_succ (k : Nat) : pwA (k + 1) = (pwA k).setIfInBounds k (.int .u8 ((Gf.pw k : Nat) : Int)) := by
  simp [pwA, Gf.pwL, List.map_set]
theorem lgA_succ (k : Nat) : lgA (k + 1) = (lgA k).setIfInBounds (Gf.pw k) (.int .i64 (k : Int)) := by
  simp [lgA, Gf.lgL, List.map_set]

theorem pwA_one (k : Nat) : (pwA k).all (·.oneCell') = true := by
  simp [pwA, Value.oneCell']
theorem lgA_one (k : Nat) : (lgA k).all (·.oneCell') = true := by
  simp [lgA, Value.oneCell']

theorem pwA_some (k i : Nat) (h : i < 255) : ∃ n : Nat, (pwA k)[i]? = some (.int .u8 (n : Int)) := by
  exact ⟨_, by simp [pwA, Gf.pwL_length, h]; rfl⟩
theorem lgA_some (k i : Nat) (h : i < 256) : ∃ n : Nat, (lgA k)[i]? = some (.int .i64 (n : Int)) := by
  exact ⟨_, by simp [lgA, Gf.lgL_length, h]; rfl⟩

theorem pwA_get (i : Nat) (h : i < 255) : (pwA 255)[i]? = some (.int .u8 ((Gf.pw i : Nat) : Int)) := by
  simp [pwA, Gf.pwL_get i h]
theorem lgA_get (a : Nat) (h : a < 256) : (lgA 255)[a]? = some (.int .i64 ((Gf.lg a : Nat) : Int)) := by
  have hl : a < (Gf.lgL 255).length := by rw [Gf.lgL_length]; exact h
  simp [lgA, Gf.lg, List.getElem?_eq_getElem hl]

theorem results_two_rows {P : Program} {fn : Func} {p q : Tmp} {ty uy : TypeId} (h : fn.results = #[.cell p ty, .cell q uy]) (tmps : Array Value) (w : World)
    (g : Nat) (t : TypeId) (cs : Array Value) (fr : Nat × Nat) (d : TypeDesc) (hp : tmps.getD p undef = .pointer (some ⟨g, 0, none⟩)) (hg : w.heap[g]? = some (.cells cs t fr))
    (hu : P.underlying ty = some d) (hd : (match d with | .struct _ | .array _ _ => true | _ => false) = true) (hi : (P.info? ty).map (·.size) = some cs.size)
    (g' : Nat) (t' : TypeId) (cs' : Array Value) (fr' : Nat × Nat) (d' : TypeDesc) (hp' : tmps.getD q undef = .pointer (some ⟨g', 0, none⟩)) (hg' : w.heap[g']? = some (.cells cs' t' fr'))
    (hu' : P.underlying uy = some d') (hd' : (match d' with | .struct _ | .array _ _ => true | _ => false) = true) (hi' : (P.info? uy).map (·.size) = some cs'.size) :
    (results fn tmps).run P w = .ok (.tuple #[.agg cs, .agg cs']) w := by
  have hq : tmps[p]?.getD undef = .pointer (some ⟨g, 0, none⟩) := by simpa using hp
  have hq' : tmps[q]?.getD undef = .pointer (some ⟨g', 0, none⟩) := by simpa using hp'
  simp [results, h, hq, hq', asAddr, run_loadVar_row w g t ty cs fr d hg hu hd hi, run_loadVar_row w g' t' uy cs' fr' d' hg' hu' hd' hi']

attribute [irreducible] pwA lgA

end Go.Proofs.Ytioiaiifkfopnaa
