/-
  No cell of these rows narrows 'for every input' (looked for: loops, veiled, ifaces, maps, wideKeys, modest, calm, conditions, laid).
  DERIVED. THE GIVEN ROWS OF THIS SEAT. 10 by the template 'for every input the law returns true; each argument reads behind the call as it read before'; 0 by the template 'total and deterministic' (their statements: YtchhfpaicdhjbaaTotals.lean).
  GIVEN WITH THE SEED: the statements are not yours to turn. If you find one false, say at which input.
  Laid BY PROGRAM, IN A SANDBOX (cutbox-rows.mjs): the forced cells as the released guide's own fill.sh prints them over the translation 649a343121e4ef10… (all of the seat's roots in one cut). By AI agents, Wed Nov 11 2026. No macro, syntax, notation, axiom, sorry.
-/
import Derived.Test.YtchhfpaicdhjbaaChecked
import GoSem.Claim
import GoSem.ClaimJoined
import GoSem.ClaimMapViews
import Derived.JoinedTies
import Derived.KernelRfl
namespace Go.Proofs.Ytchhfpaicdhjbaa
/- THE CELL 'sum', in the pinned program and in every row, IS THE sha256 OF THE DUMP (.gsa) THAT YtchhfpaicdhjbaaProg.lean LOADS. Nothing in Lean hashes anything: it is a label: what it is worth is what the hold of that sum in a sandbox is worth. -/
noncomputable def Try.pinned : Pinned := { name := "ytchhfpaicdhjbaa", sum := "649a343121e4ef108141e897866e10bcfb3b7b955cbaf16e7f45ae61b7a959ab", checked := Try.checked }
namespace Rows
def none {H : Type} : Left H := { results := [], args := [] }

/-- 'kinkeeplaw04.MatrixValid': WHATEVER THE INPUT: true; the input reads as it did. -/
def matrixValidSpec : ChangeSpec := { name := "matrixValid", fn := fun _ => fun
  | [d] => { results := [.lit (.bool true)], args := [d] }
  | _ => none }
def matrixValidRow : OpenClaim := { program := "ytchhfpaicdhjbaa", sum := "649a343121e4ef108141e897866e10bcfb3b7b955cbaf16e7f45ae61b7a959ab", func := "kinkeep/kinkeeplaw04.MatrixValid", spec := "matrixValid", unfollowed := true, recurses := true, apart := false }
def MatrixValidSaid : Prop := matrixValidRow.holds Try.pinned (OpenSpec.ofChange matrixValidSpec)

/-- ITS FALSE NEIGHBOUR: 'it returns false'. Refute it at one input. -/
def matrixValidWrong : ChangeSpec := { name := "matrixValid", fn := fun _ => fun
  | [d] => { results := [.lit (.bool false)], args := [d] }
  | _ => none }
def MatrixValidWrongFalsely : Prop := matrixValidRow.holds Try.pinned (OpenSpec.ofChange matrixValidWrong)

/-- 'kinkeeplaw04.MatrixKernels': WHATEVER THE INPUT: true; the input reads as it did. -/
def matrixKernelsSpec : ChangeSpec := { name := "matrixKernels", fn := fun _ => fun
  | [d] => { results := [.lit (.bool true)], args := [d] }
  | _ => none }
def matrixKernelsRow : OpenClaim := { program := "ytchhfpaicdhjbaa", sum := "649a343121e4ef108141e897866e10bcfb3b7b955cbaf16e7f45ae61b7a959ab", func := "kinkeep/kinkeeplaw04.MatrixKernels", spec := "matrixKernels", unfollowed := true, recurses := true, apart := false }
def MatrixKernelsSaid : Prop := matrixKernelsRow.holds Try.pinned (OpenSpec.ofChange matrixKernelsSpec)

/-- ITS FALSE NEIGHBOUR: 'it returns false'. Refute it at one input. -/
def matrixKernelsWrong : ChangeSpec := { name := "matrixKernels", fn := fun _ => fun
  | [d] => { results := [.lit (.bool false)], args := [d] }
  | _ => none }
def MatrixKernelsWrongFalsely : Prop := matrixKernelsRow.holds Try.pinned (OpenSpec.ofChange matrixKernelsWrong)

/-- 'kinkeeplaw04.MatrixProducts': WHATEVER THE INPUT: true; the input reads as it did. -/
def matrixProductsSpec : ChangeSpec := { name := "matrixProducts", fn := fun _ => fun
  | [d1, d2] => { results := [.lit (.bool true)], args := [d1, d2] }
  | _ => none }
def matrixProductsRow : OpenClaim := { program := "ytchhfpaicdhjbaa", sum := "649a343121e4ef108141e897866e10bcfb3b7b955cbaf16e7f45ae61b7a959ab", func := "kinkeep/kinkeeplaw04.MatrixProducts", spec := "matrixProducts", unfollowed := true, recurses := true, apart := false }
def MatrixProductsSaid : Prop := matrixProductsRow.holds Try.pinned (OpenSpec.ofChange matrixProductsSpec)

/-- ITS FALSE NEIGHBOUR: 'it returns false'. Refute it at one input. -/
def matrixProductsWrong : ChangeSpec := { name := "matrixProducts", fn := fun _ => fun
  | [d1, d2] => { results := [.lit (.bool false)], args := [d1, d2] }
  | _ => none }
def MatrixProductsWrongFalsely : Prop := matrixProductsRow.holds Try.pinned (OpenSpec.ofChange matrixProductsWrong)

/-- 'kinkeeplaw04.MatrixReduces': WHATEVER THE INPUT: true; the input reads as it did. -/
def matrixReducesSpec : ChangeSpec := { name := "matrixReduces", fn := fun _ => fun
  | [d] => { results := [.lit (.bool true)], args := [d] }
  | _ => none }
def matrixReducesRow : OpenClaim := { program := "ytchhfpaicdhjbaa", sum := "649a343121e4ef108141e897866e10bcfb3b7b955cbaf16e7f45ae61b7a959ab", func := "kinkeep/kinkeeplaw04.MatrixReduces", spec := "matrixReduces", unfollowed := true, recurses := true, apart := false }
def MatrixReducesSaid : Prop := matrixReducesRow.holds Try.pinned (OpenSpec.ofChange matrixReducesSpec)

/-- ITS FALSE NEIGHBOUR: 'it returns false'. Refute it at one input. -/
def matrixReducesWrong : ChangeSpec := { name := "matrixReduces", fn := fun _ => fun
  | [d] => { results := [.lit (.bool false)], args := [d] }
  | _ => none }
def MatrixReducesWrongFalsely : Prop := matrixReducesRow.holds Try.pinned (OpenSpec.ofChange matrixReducesWrong)

/-- 'kinkeeplaw04.MatrixSolves': WHATEVER THE INPUT: true; the input reads as it did. -/
def matrixSolvesSpec : ChangeSpec := { name := "matrixSolves", fn := fun _ => fun
  | [d1, d2] => { results := [.lit (.bool true)], args := [d1, d2] }
  | _ => none }
def matrixSolvesRow : OpenClaim := { program := "ytchhfpaicdhjbaa", sum := "649a343121e4ef108141e897866e10bcfb3b7b955cbaf16e7f45ae61b7a959ab", func := "kinkeep/kinkeeplaw04.MatrixSolves", spec := "matrixSolves", unfollowed := true, recurses := true, apart := false }
def MatrixSolvesSaid : Prop := matrixSolvesRow.holds Try.pinned (OpenSpec.ofChange matrixSolvesSpec)

/-- ITS FALSE NEIGHBOUR: 'it returns false'. Refute it at one input. -/
def matrixSolvesWrong : ChangeSpec := { name := "matrixSolves", fn := fun _ => fun
  | [d1, d2] => { results := [.lit (.bool false)], args := [d1, d2] }
  | _ => none }
def MatrixSolvesWrongFalsely : Prop := matrixSolvesRow.holds Try.pinned (OpenSpec.ofChange matrixSolvesWrong)

/-- 'kinkeeplaw04.MatrixAssociates': WHATEVER THE INPUT: true; the input reads as it did. -/
def matrixAssociatesSpec : ChangeSpec := { name := "matrixAssociates", fn := fun _ => fun
  | [d1, d2, d3] => { results := [.lit (.bool true)], args := [d1, d2, d3] }
  | _ => none }
def matrixAssociatesRow : OpenClaim := { program := "ytchhfpaicdhjbaa", sum := "649a343121e4ef108141e897866e10bcfb3b7b955cbaf16e7f45ae61b7a959ab", func := "kinkeep/kinkeeplaw04.MatrixAssociates", spec := "matrixAssociates", unfollowed := true, recurses := true, apart := false }
def MatrixAssociatesSaid : Prop := matrixAssociatesRow.holds Try.pinned (OpenSpec.ofChange matrixAssociatesSpec)

/-- ITS FALSE NEIGHBOUR: 'it returns false'. Refute it at one input. -/
def matrixAssociatesWrong : ChangeSpec := { name := "matrixAssociates", fn := fun _ => fun
  | [d1, d2, d3] => { results := [.lit (.bool false)], args := [d1, d2, d3] }
  | _ => none }
def MatrixAssociatesWrongFalsely : Prop := matrixAssociatesRow.holds Try.pinned (OpenSpec.ofChange matrixAssociatesWrong)

/-- 'kinkeeplaw04.MatrixAnyRows': WHATEVER THE INPUT: true; the input reads as it did. -/
def matrixAnyRowsSpec : ChangeSpec := { name := "matrixAnyRows", fn := fun _ => fun
  | [d1, d2, d3] => { results := [.lit (.bool true)], args := [d1, d2, d3] }
  | _ => none }
def matrixAnyRowsRow : OpenClaim := { program := "ytchhfpaicdhjbaa", sum := "649a343121e4ef108141e897866e10bcfb3b7b955cbaf16e7f45ae61b7a959ab", func := "kinkeep/kinkeeplaw04.MatrixAnyRows", spec := "matrixAnyRows", unfollowed := true, recurses := true, apart := false }
def MatrixAnyRowsSaid : Prop := matrixAnyRowsRow.holds Try.pinned (OpenSpec.ofChange matrixAnyRowsSpec)

/-- ITS FALSE NEIGHBOUR: 'it returns false'. Refute it at one input. -/
def matrixAnyRowsWrong : ChangeSpec := { name := "matrixAnyRows", fn := fun _ => fun
  | [d1, d2, d3] => { results := [.lit (.bool false)], args := [d1, d2, d3] }
  | _ => none }
def MatrixAnyRowsWrongFalsely : Prop := matrixAnyRowsRow.holds Try.pinned (OpenSpec.ofChange matrixAnyRowsWrong)

/-- 'kinkeeplaw04.MatrixPicks': WHATEVER THE INPUT: true; the input reads as it did. -/
def matrixPicksSpec : ChangeSpec := { name := "matrixPicks", fn := fun _ => fun
  | [d1, d2] => { results := [.lit (.bool true)], args := [d1, d2] }
  | _ => none }
def matrixPicksRow : OpenClaim := { program := "ytchhfpaicdhjbaa", sum := "649a343121e4ef108141e897866e10bcfb3b7b955cbaf16e7f45ae61b7a959ab", func := "kinkeep/kinkeeplaw04.MatrixPicks", spec := "matrixPicks", unfollowed := true, recurses := true, apart := false }
def MatrixPicksSaid : Prop := matrixPicksRow.holds Try.pinned (OpenSpec.ofChange matrixPicksSpec)

/-- ITS FALSE NEIGHBOUR: 'it returns false'. Refute it at one input. -/
def matrixPicksWrong : ChangeSpec := { name := "matrixPicks", fn := fun _ => fun
  | [d1, d2] => { results := [.lit (.bool false)], args := [d1, d2] }
  | _ => none }
def MatrixPicksWrongFalsely : Prop := matrixPicksRow.holds Try.pinned (OpenSpec.ofChange matrixPicksWrong)

/-- 'kinkeeplaw04.MatrixDeterminants': WHATEVER THE INPUT: true; the input reads as it did. -/
def matrixDeterminantsSpec : ChangeSpec := { name := "matrixDeterminants", fn := fun _ => fun
  | [d] => { results := [.lit (.bool true)], args := [d] }
  | _ => none }
def matrixDeterminantsRow : OpenClaim := { program := "ytchhfpaicdhjbaa", sum := "649a343121e4ef108141e897866e10bcfb3b7b955cbaf16e7f45ae61b7a959ab", func := "kinkeep/kinkeeplaw04.MatrixDeterminants", spec := "matrixDeterminants", unfollowed := true, recurses := true, apart := false }
def MatrixDeterminantsSaid : Prop := matrixDeterminantsRow.holds Try.pinned (OpenSpec.ofChange matrixDeterminantsSpec)

/-- ITS FALSE NEIGHBOUR: 'it returns false'. Refute it at one input. -/
def matrixDeterminantsWrong : ChangeSpec := { name := "matrixDeterminants", fn := fun _ => fun
  | [d] => { results := [.lit (.bool false)], args := [d] }
  | _ => none }
def MatrixDeterminantsWrongFalsely : Prop := matrixDeterminantsRow.holds Try.pinned (OpenSpec.ofChange matrixDeterminantsWrong)

/-- 'kinkeeplaw04.MatrixNamed': WHATEVER THE INPUT: true; the input reads as it did. -/
def matrixNamedSpec : ChangeSpec := { name := "matrixNamed", fn := fun _ => fun
  | [d1, d2, d3] => { results := [.lit (.bool true)], args := [d1, d2, d3] }
  | _ => none }
def matrixNamedRow : OpenClaim := { program := "ytchhfpaicdhjbaa", sum := "649a343121e4ef108141e897866e10bcfb3b7b955cbaf16e7f45ae61b7a959ab", func := "kinkeep/kinkeeplaw04.MatrixNamed", spec := "matrixNamed", unfollowed := true, recurses := true, apart := false }
def MatrixNamedSaid : Prop := matrixNamedRow.holds Try.pinned (OpenSpec.ofChange matrixNamedSpec)

/-- ITS FALSE NEIGHBOUR: 'it returns false'. Refute it at one input. -/
def matrixNamedWrong : ChangeSpec := { name := "matrixNamed", fn := fun _ => fun
  | [d1, d2, d3] => { results := [.lit (.bool false)], args := [d1, d2, d3] }
  | _ => none }
def MatrixNamedWrongFalsely : Prop := matrixNamedRow.holds Try.pinned (OpenSpec.ofChange matrixNamedWrong)

/- THE SECOND FORM. 'bulk': how many values and letters a reading holds, each counted each time it is reached (what is shared counts as often as it is met; a slice's spare places count too). A statement '..UptoSaid' is the law's where the arguments, and the package variables that the reading takes, are together of bulk at most 1048576: NARROWER than '..Said'. Prove '..Said' where nothing that the law and all that it calls make is longer than what came in: it says more and counts as full. Else prove '..UptoSaid'. A law counts once. -/
mutual
def uptoBulk {H : Type} : DataW H → Nat
  | .lit (.string bytes) => bytes.length + 1
  | .lit _ => 1
  | .nil => 1
  | .ptr d => uptoBulk d + 1
  | .slice elems spare => uptoBulkAll elems + uptoBulkAll spare + 1
  | .agg parts => uptoBulkAll parts + 1
  | .iface _ d => uptoBulk d + 1
  | .map entries => uptoBulkEntries entries + 1
  | .held _ => 1
def uptoBulkAll {H : Type} : List (DataW H) → Nat
  | [] => 0
  | d :: r => uptoBulk d + uptoBulkAll r
def uptoBulkEntries {H : Type} : List (Lit × DataW H) → Nat
  | [] => 0
  | x :: r => uptoBulkEntry x + uptoBulkEntries r
def uptoBulkEntry {H : Type} : Lit × DataW H → Nat
  | (.string bytes, d) => bytes.length + uptoBulk d + 1
  | (_, d) => uptoBulk d + 1
 end
def uptoSmall : (H : Type) → List (DataW H) → Bool := fun _ ds => decide (uptoBulkAll ds ≤ 1048576)
def OpenSpec.upto (s : _root_.Go.ChangeSpec) : _root_.Go.OpenSpec := { _root_.Go.OpenSpec.ofChange s with cond := some uptoSmall }

/-- 'kinkeeplaw04.MatrixValid', WHERE WHAT IT READS IS OF BULK AT MOST 1048576: true; the input reads as it did. -/
def matrixValidUptoRow : OpenClaim := { program := "ytchhfpaicdhjbaa", sum := "649a343121e4ef108141e897866e10bcfb3b7b955cbaf16e7f45ae61b7a959ab", func := "kinkeep/kinkeeplaw04.MatrixValid", spec := "matrixValid", unfollowed := true, recurses := true, apart := false, narrowed := true }
def MatrixValidUptoSaid : Prop := matrixValidUptoRow.holds Try.pinned (OpenSpec.upto matrixValidSpec)

/-- 'kinkeeplaw04.MatrixKernels', WHERE WHAT IT READS IS OF BULK AT MOST 1048576: true; the input reads as it did. -/
def matrixKernelsUptoRow : OpenClaim := { program := "ytchhfpaicdhjbaa", sum := "649a343121e4ef108141e897866e10bcfb3b7b955cbaf16e7f45ae61b7a959ab", func := "kinkeep/kinkeeplaw04.MatrixKernels", spec := "matrixKernels", unfollowed := true, recurses := true, apart := false, narrowed := true }
def MatrixKernelsUptoSaid : Prop := matrixKernelsUptoRow.holds Try.pinned (OpenSpec.upto matrixKernelsSpec)

/-- 'kinkeeplaw04.MatrixProducts', WHERE WHAT IT READS IS OF BULK AT MOST 1048576: true; the input reads as it did. -/
def matrixProductsUptoRow : OpenClaim := { program := "ytchhfpaicdhjbaa", sum := "649a343121e4ef108141e897866e10bcfb3b7b955cbaf16e7f45ae61b7a959ab", func := "kinkeep/kinkeeplaw04.MatrixProducts", spec := "matrixProducts", unfollowed := true, recurses := true, apart := false, narrowed := true }
def MatrixProductsUptoSaid : Prop := matrixProductsUptoRow.holds Try.pinned (OpenSpec.upto matrixProductsSpec)

/-- 'kinkeeplaw04.MatrixReduces', WHERE WHAT IT READS IS OF BULK AT MOST 1048576: true; the input reads as it did. -/
def matrixReducesUptoRow : OpenClaim := { program := "ytchhfpaicdhjbaa", sum := "649a343121e4ef108141e897866e10bcfb3b7b955cbaf16e7f45ae61b7a959ab", func := "kinkeep/kinkeeplaw04.MatrixReduces", spec := "matrixReduces", unfollowed := true, recurses := true, apart := false, narrowed := true }
def MatrixReducesUptoSaid : Prop := matrixReducesUptoRow.holds Try.pinned (OpenSpec.upto matrixReducesSpec)

/-- 'kinkeeplaw04.MatrixSolves', WHERE WHAT IT READS IS OF BULK AT MOST 1048576: true; the input reads as it did. -/
def matrixSolvesUptoRow : OpenClaim := { program := "ytchhfpaicdhjbaa", sum := "649a343121e4ef108141e897866e10bcfb3b7b955cbaf16e7f45ae61b7a959ab", func := "kinkeep/kinkeeplaw04.MatrixSolves", spec := "matrixSolves", unfollowed := true, recurses := true, apart := false, narrowed := true }
def MatrixSolvesUptoSaid : Prop := matrixSolvesUptoRow.holds Try.pinned (OpenSpec.upto matrixSolvesSpec)

/-- 'kinkeeplaw04.MatrixAssociates', WHERE WHAT IT READS IS OF BULK AT MOST 1048576: true; the input reads as it did. -/
def matrixAssociatesUptoRow : OpenClaim := { program := "ytchhfpaicdhjbaa", sum := "649a343121e4ef108141e897866e10bcfb3b7b955cbaf16e7f45ae61b7a959ab", func := "kinkeep/kinkeeplaw04.MatrixAssociates", spec := "matrixAssociates", unfollowed := true, recurses := true, apart := false, narrowed := true }
def MatrixAssociatesUptoSaid : Prop := matrixAssociatesUptoRow.holds Try.pinned (OpenSpec.upto matrixAssociatesSpec)

/-- 'kinkeeplaw04.MatrixAnyRows', WHERE WHAT IT READS IS OF BULK AT MOST 1048576: true; the input reads as it did. -/
def matrixAnyRowsUptoRow : OpenClaim := { program := "ytchhfpaicdhjbaa", sum := "649a343121e4ef108141e897866e10bcfb3b7b955cbaf16e7f45ae61b7a959ab", func := "kinkeep/kinkeeplaw04.MatrixAnyRows", spec := "matrixAnyRows", unfollowed := true, recurses := true, apart := false, narrowed := true }
def MatrixAnyRowsUptoSaid : Prop := matrixAnyRowsUptoRow.holds Try.pinned (OpenSpec.upto matrixAnyRowsSpec)

/-- 'kinkeeplaw04.MatrixPicks', WHERE WHAT IT READS IS OF BULK AT MOST 1048576: true; the input reads as it did. -/
def matrixPicksUptoRow : OpenClaim := { program := "ytchhfpaicdhjbaa", sum := "649a343121e4ef108141e897866e10bcfb3b7b955cbaf16e7f45ae61b7a959ab", func := "kinkeep/kinkeeplaw04.MatrixPicks", spec := "matrixPicks", unfollowed := true, recurses := true, apart := false, narrowed := true }
def MatrixPicksUptoSaid : Prop := matrixPicksUptoRow.holds Try.pinned (OpenSpec.upto matrixPicksSpec)

/-- 'kinkeeplaw04.MatrixDeterminants', WHERE WHAT IT READS IS OF BULK AT MOST 1048576: true; the input reads as it did. -/
def matrixDeterminantsUptoRow : OpenClaim := { program := "ytchhfpaicdhjbaa", sum := "649a343121e4ef108141e897866e10bcfb3b7b955cbaf16e7f45ae61b7a959ab", func := "kinkeep/kinkeeplaw04.MatrixDeterminants", spec := "matrixDeterminants", unfollowed := true, recurses := true, apart := false, narrowed := true }
def MatrixDeterminantsUptoSaid : Prop := matrixDeterminantsUptoRow.holds Try.pinned (OpenSpec.upto matrixDeterminantsSpec)

/-- 'kinkeeplaw04.MatrixNamed', WHERE WHAT IT READS IS OF BULK AT MOST 1048576: true; the input reads as it did. -/
def matrixNamedUptoRow : OpenClaim := { program := "ytchhfpaicdhjbaa", sum := "649a343121e4ef108141e897866e10bcfb3b7b955cbaf16e7f45ae61b7a959ab", func := "kinkeep/kinkeeplaw04.MatrixNamed", spec := "matrixNamed", unfollowed := true, recurses := true, apart := false, narrowed := true }
def MatrixNamedUptoSaid : Prop := matrixNamedUptoRow.holds Try.pinned (OpenSpec.upto matrixNamedSpec)

end Rows
end Go.Proofs.Ytchhfpaicdhjbaa
