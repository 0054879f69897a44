/- matrix.Solve, Kernel. -/
import Derived.Test.YtioiaiifkfopnaaMp
namespace Go.Proofs.Ytioiaiifkfopnaa
open Go.RowKit Go.Kin Mat
open Fq (sum)
set_option maxRecDepth 100000
set_option linter.unusedVariables false

/-- What Solve tells. -/
def SolveRet (w : World) (n k : Nat) (s : EState) (e : Ending) (w' : World) : Prop :=
  ((∀ i, s.piv.length ≤ i → i < n → s.R i k = 0) ∧ ∃ g, e = .returned (.tuple #[.slice (some ⟨g, 0, none⟩) k k, .int .i64 0]) ∧ Blk vb 5 w' g (mrow k (solV s k s.piv.length)) ∧ Below w.heap.size w w') ∨
  ((∃ i, s.piv.length ≤ i ∧ i < n ∧ s.R i k ≠ 0) ∧ e = .returned (.tuple #[.slice none 0 0, .int .i64 4]) ∧ Below w.heap.size w w')

end Go.Proofs.Ytioiaiifkfopnaa
