/-
  No cell of these rows narrows 'for every input' (looked for: loops, veiled, ifaces, maps, wideKeys, modest, calm, conditions, laid).
  DERIVED. THE GIVEN ROWS OF THIS SEAT. 11 by the template 'for every input the law returns true; each argument reads behind the call as it read before'; 0 by the template 'total and deterministic' (their statements: YtpecepfnmkpmmaaTotals.lean).
  GIVEN WITH THE SEED: the statements are not yours to turn. If you find one false, say at which input.
  Laid BY PROGRAM, IN A SANDBOX (cutbox-rows.mjs): the forced cells as the released guide's own fill.sh prints them over the translation 0a7917cd51a9e945… (all of the seat's roots in one cut). By AI agents, Wed Nov 11 2026. No macro, syntax, notation, axiom, sorry.
-/
import Derived.Test.YtpecepfnmkpmmaaChecked
import GoSem.Claim
import GoSem.ClaimJoined
import GoSem.ClaimMapViews
import Derived.JoinedTies
import Derived.KernelRfl
namespace Go.Proofs.Ytpecepfnmkpmmaa
/- THE CELL 'sum', in the pinned program and in every row, IS THE sha256 OF THE DUMP (.gsa) THAT YtpecepfnmkpmmaaProg.lean LOADS. Nothing in Lean hashes anything: it is a label: what it is worth is what the hold of that sum in a sandbox is worth. -/
noncomputable def Try.pinned : Pinned := { name := "ytpecepfnmkpmmaa", sum := "0a7917cd51a9e9459757f90e5f02980cc1df5a4495157907453bfb14e1573b25", checked := Try.checked }
namespace Rows
def none {H : Type} : Left H := { results := [], args := [] }

/-- 'kinkeeplaw35.QuotaSums': WHATEVER THE INPUT: true; the input reads as it did. -/
def quotaSumsSpec : ChangeSpec := { name := "quotaSums", fn := fun _ => fun
  | [d1, d2] => { results := [.lit (.bool true)], args := [d1, d2] }
  | _ => none }
def quotaSumsRow : OpenClaim := { program := "ytpecepfnmkpmmaa", sum := "0a7917cd51a9e9459757f90e5f02980cc1df5a4495157907453bfb14e1573b25", func := "kinkeep/kinkeeplaw35.QuotaSums", spec := "quotaSums", unfollowed := true, recurses := true, apart := false }
def QuotaSumsSaid : Prop := quotaSumsRow.holds Try.pinned (OpenSpec.ofChange quotaSumsSpec)

/-- ITS FALSE NEIGHBOUR: 'it returns false'. Refute it at one input. -/
def quotaSumsWrong : ChangeSpec := { name := "quotaSums", fn := fun _ => fun
  | [d1, d2] => { results := [.lit (.bool false)], args := [d1, d2] }
  | _ => none }
def QuotaSumsWrongFalsely : Prop := quotaSumsRow.holds Try.pinned (OpenSpec.ofChange quotaSumsWrong)

/-- 'kinkeeplaw35.QuotaAllowed': WHATEVER THE INPUT: true; the input reads as it did. -/
def quotaAllowedSpec : ChangeSpec := { name := "quotaAllowed", fn := fun _ => fun
  | [d1, d2, d3, d4, d5] => { results := [.lit (.bool true)], args := [d1, d2, d3, d4, d5] }
  | _ => none }
def quotaAllowedRow : OpenClaim := { program := "ytpecepfnmkpmmaa", sum := "0a7917cd51a9e9459757f90e5f02980cc1df5a4495157907453bfb14e1573b25", func := "kinkeep/kinkeeplaw35.QuotaAllowed", spec := "quotaAllowed", unfollowed := true, recurses := true, apart := false }
def QuotaAllowedSaid : Prop := quotaAllowedRow.holds Try.pinned (OpenSpec.ofChange quotaAllowedSpec)

/-- ITS FALSE NEIGHBOUR: 'it returns false'. Refute it at one input. -/
def quotaAllowedWrong : ChangeSpec := { name := "quotaAllowed", fn := fun _ => fun
  | [d1, d2, d3, d4, d5] => { results := [.lit (.bool false)], args := [d1, d2, d3, d4, d5] }
  | _ => none }
def QuotaAllowedWrongFalsely : Prop := quotaAllowedRow.holds Try.pinned (OpenSpec.ofChange quotaAllowedWrong)

/-- 'kinkeeplaw35.QuotaCancels': WHATEVER THE INPUT: true; the input reads as it did. -/
def quotaCancelsSpec : ChangeSpec := { name := "quotaCancels", fn := fun _ => fun
  | [d] => { results := [.lit (.bool true)], args := [d] }
  | _ => none }
def quotaCancelsRow : OpenClaim := { program := "ytpecepfnmkpmmaa", sum := "0a7917cd51a9e9459757f90e5f02980cc1df5a4495157907453bfb14e1573b25", func := "kinkeep/kinkeeplaw35.QuotaCancels", spec := "quotaCancels", unfollowed := true, recurses := true, apart := false }
def QuotaCancelsSaid : Prop := quotaCancelsRow.holds Try.pinned (OpenSpec.ofChange quotaCancelsSpec)

/-- ITS FALSE NEIGHBOUR: 'it returns false'. Refute it at one input. -/
def quotaCancelsWrong : ChangeSpec := { name := "quotaCancels", fn := fun _ => fun
  | [d] => { results := [.lit (.bool false)], args := [d] }
  | _ => none }
def QuotaCancelsWrongFalsely : Prop := quotaCancelsRow.holds Try.pinned (OpenSpec.ofChange quotaCancelsWrong)

/-- 'kinkeeplaw35.QuotaAcyclic': WHATEVER THE INPUT: true; the input reads as it did. -/
def quotaAcyclicSpec : ChangeSpec := { name := "quotaAcyclic", fn := fun _ => fun
  | [d] => { results := [.lit (.bool true)], args := [d] }
  | _ => none }
def quotaAcyclicRow : OpenClaim := { program := "ytpecepfnmkpmmaa", sum := "0a7917cd51a9e9459757f90e5f02980cc1df5a4495157907453bfb14e1573b25", func := "kinkeep/kinkeeplaw35.QuotaAcyclic", spec := "quotaAcyclic", unfollowed := true, recurses := true, apart := false }
def QuotaAcyclicSaid : Prop := quotaAcyclicRow.holds Try.pinned (OpenSpec.ofChange quotaAcyclicSpec)

/-- ITS FALSE NEIGHBOUR: 'it returns false'. Refute it at one input. -/
def quotaAcyclicWrong : ChangeSpec := { name := "quotaAcyclic", fn := fun _ => fun
  | [d] => { results := [.lit (.bool false)], args := [d] }
  | _ => none }
def QuotaAcyclicWrongFalsely : Prop := quotaAcyclicRow.holds Try.pinned (OpenSpec.ofChange quotaAcyclicWrong)

/-- 'kinkeeplaw35.QuotaSettles': WHATEVER THE INPUT: true; the input reads as it did. -/
def quotaSettlesSpec : ChangeSpec := { name := "quotaSettles", fn := fun _ => fun
  | [d1, d2] => { results := [.lit (.bool true)], args := [d1, d2] }
  | _ => none }
def quotaSettlesRow : OpenClaim := { program := "ytpecepfnmkpmmaa", sum := "0a7917cd51a9e9459757f90e5f02980cc1df5a4495157907453bfb14e1573b25", func := "kinkeep/kinkeeplaw35.QuotaSettles", spec := "quotaSettles", unfollowed := true, recurses := true, apart := false }
def QuotaSettlesSaid : Prop := quotaSettlesRow.holds Try.pinned (OpenSpec.ofChange quotaSettlesSpec)

/-- ITS FALSE NEIGHBOUR: 'it returns false'. Refute it at one input. -/
def quotaSettlesWrong : ChangeSpec := { name := "quotaSettles", fn := fun _ => fun
  | [d1, d2] => { results := [.lit (.bool false)], args := [d1, d2] }
  | _ => none }
def QuotaSettlesWrongFalsely : Prop := quotaSettlesRow.holds Try.pinned (OpenSpec.ofChange quotaSettlesWrong)

/-- 'kinkeeplaw35.QuotaTotals': WHATEVER THE INPUT: true; the input reads as it did. -/
def quotaTotalsSpec : ChangeSpec := { name := "quotaTotals", fn := fun _ => fun
  | [d] => { results := [.lit (.bool true)], args := [d] }
  | _ => none }
def quotaTotalsRow : OpenClaim := { program := "ytpecepfnmkpmmaa", sum := "0a7917cd51a9e9459757f90e5f02980cc1df5a4495157907453bfb14e1573b25", func := "kinkeep/kinkeeplaw35.QuotaTotals", spec := "quotaTotals", unfollowed := true, recurses := true, apart := false }
def QuotaTotalsSaid : Prop := quotaTotalsRow.holds Try.pinned (OpenSpec.ofChange quotaTotalsSpec)

/-- ITS FALSE NEIGHBOUR: 'it returns false'. Refute it at one input. -/
def quotaTotalsWrong : ChangeSpec := { name := "quotaTotals", fn := fun _ => fun
  | [d] => { results := [.lit (.bool false)], args := [d] }
  | _ => none }
def QuotaTotalsWrongFalsely : Prop := quotaTotalsRow.holds Try.pinned (OpenSpec.ofChange quotaTotalsWrong)

/-- 'kinkeeplaw35.QuotaFinds': WHATEVER THE INPUT: true; the input reads as it did. -/
def quotaFindsSpec : ChangeSpec := { name := "quotaFinds", fn := fun _ => fun
  | [d1, d2, d3] => { results := [.lit (.bool true)], args := [d1, d2, d3] }
  | _ => none }
def quotaFindsRow : OpenClaim := { program := "ytpecepfnmkpmmaa", sum := "0a7917cd51a9e9459757f90e5f02980cc1df5a4495157907453bfb14e1573b25", func := "kinkeep/kinkeeplaw35.QuotaFinds", spec := "quotaFinds", unfollowed := true, recurses := true, apart := false }
def QuotaFindsSaid : Prop := quotaFindsRow.holds Try.pinned (OpenSpec.ofChange quotaFindsSpec)

/-- ITS FALSE NEIGHBOUR: 'it returns false'. Refute it at one input. -/
def quotaFindsWrong : ChangeSpec := { name := "quotaFinds", fn := fun _ => fun
  | [d1, d2, d3] => { results := [.lit (.bool false)], args := [d1, d2, d3] }
  | _ => none }
def QuotaFindsWrongFalsely : Prop := quotaFindsRow.holds Try.pinned (OpenSpec.ofChange quotaFindsWrong)

/-- 'kinkeeplaw35.QuotaShares': WHATEVER THE INPUT: true; the input reads as it did. -/
def quotaSharesSpec : ChangeSpec := { name := "quotaShares", fn := fun _ => fun
  | [d1, d2] => { results := [.lit (.bool true)], args := [d1, d2] }
  | _ => none }
def quotaSharesRow : OpenClaim := { program := "ytpecepfnmkpmmaa", sum := "0a7917cd51a9e9459757f90e5f02980cc1df5a4495157907453bfb14e1573b25", func := "kinkeep/kinkeeplaw35.QuotaShares", spec := "quotaShares", unfollowed := true, recurses := true, apart := false }
def QuotaSharesSaid : Prop := quotaSharesRow.holds Try.pinned (OpenSpec.ofChange quotaSharesSpec)

/-- ITS FALSE NEIGHBOUR: 'it returns false'. Refute it at one input. -/
def quotaSharesWrong : ChangeSpec := { name := "quotaShares", fn := fun _ => fun
  | [d1, d2] => { results := [.lit (.bool false)], args := [d1, d2] }
  | _ => none }
def QuotaSharesWrongFalsely : Prop := quotaSharesRow.holds Try.pinned (OpenSpec.ofChange quotaSharesWrong)

/-- 'kinkeeplaw35.QuotaApplies': WHATEVER THE INPUT: true; the input reads as it did. -/
def quotaAppliesSpec : ChangeSpec := { name := "quotaApplies", fn := fun _ => fun
  | [d1, d2] => { results := [.lit (.bool true)], args := [d1, d2] }
  | _ => none }
def quotaAppliesRow : OpenClaim := { program := "ytpecepfnmkpmmaa", sum := "0a7917cd51a9e9459757f90e5f02980cc1df5a4495157907453bfb14e1573b25", func := "kinkeep/kinkeeplaw35.QuotaApplies", spec := "quotaApplies", unfollowed := true, recurses := true, apart := false }
def QuotaAppliesSaid : Prop := quotaAppliesRow.holds Try.pinned (OpenSpec.ofChange quotaAppliesSpec)

/-- ITS FALSE NEIGHBOUR: 'it returns false'. Refute it at one input. -/
def quotaAppliesWrong : ChangeSpec := { name := "quotaApplies", fn := fun _ => fun
  | [d1, d2] => { results := [.lit (.bool false)], args := [d1, d2] }
  | _ => none }
def QuotaAppliesWrongFalsely : Prop := quotaAppliesRow.holds Try.pinned (OpenSpec.ofChange quotaAppliesWrong)

/-- 'kinkeeplaw35.QuotaReturns': WHATEVER THE INPUT: true; the input reads as it did. -/
def quotaReturnsSpec : ChangeSpec := { name := "quotaReturns", fn := fun _ => fun
  | [d1, d2] => { results := [.lit (.bool true)], args := [d1, d2] }
  | _ => none }
def quotaReturnsRow : OpenClaim := { program := "ytpecepfnmkpmmaa", sum := "0a7917cd51a9e9459757f90e5f02980cc1df5a4495157907453bfb14e1573b25", func := "kinkeep/kinkeeplaw35.QuotaReturns", spec := "quotaReturns", unfollowed := true, recurses := true, apart := false }
def QuotaReturnsSaid : Prop := quotaReturnsRow.holds Try.pinned (OpenSpec.ofChange quotaReturnsSpec)

/-- ITS FALSE NEIGHBOUR: 'it returns false'. Refute it at one input. -/
def quotaReturnsWrong : ChangeSpec := { name := "quotaReturns", fn := fun _ => fun
  | [d1, d2] => { results := [.lit (.bool false)], args := [d1, d2] }
  | _ => none }
def QuotaReturnsWrongFalsely : Prop := quotaReturnsRow.holds Try.pinned (OpenSpec.ofChange quotaReturnsWrong)

/-- 'kinkeeplaw35.QuotaFits': WHATEVER THE INPUT: true; the input reads as it did. -/
def quotaFitsSpec : ChangeSpec := { name := "quotaFits", fn := fun _ => fun
  | [d1, d2] => { results := [.lit (.bool true)], args := [d1, d2] }
  | _ => none }
def quotaFitsRow : OpenClaim := { program := "ytpecepfnmkpmmaa", sum := "0a7917cd51a9e9459757f90e5f02980cc1df5a4495157907453bfb14e1573b25", func := "kinkeep/kinkeeplaw35.QuotaFits", spec := "quotaFits", unfollowed := true, recurses := true, apart := false }
def QuotaFitsSaid : Prop := quotaFitsRow.holds Try.pinned (OpenSpec.ofChange quotaFitsSpec)

/-- ITS FALSE NEIGHBOUR: 'it returns false'. Refute it at one input. -/
def quotaFitsWrong : ChangeSpec := { name := "quotaFits", fn := fun _ => fun
  | [d1, d2] => { results := [.lit (.bool false)], args := [d1, d2] }
  | _ => none }
def QuotaFitsWrongFalsely : Prop := quotaFitsRow.holds Try.pinned (OpenSpec.ofChange quotaFitsWrong)

/- THE SECOND FORM. 'bulk': how many values and letters a reading holds, each counted each time it is reached (what is shared counts as often as it is met; a slice's spare places count too). A statement '..UptoSaid' is the law's where the arguments, and the package variables that the reading takes, are together of bulk at most 1048576: NARROWER than '..Said'. Prove '..Said' where nothing that the law and all that it calls make is longer than what came in: it says more and counts as full. Else prove '..UptoSaid'. A law counts once. -/
mutual
def uptoBulk {H : Type} : DataW H → Nat
  | .lit (.string bytes) => bytes.length + 1
  | .lit _ => 1
  | .nil => 1
  | .ptr d => uptoBulk d + 1
  | .slice elems spare => uptoBulkAll elems + uptoBulkAll spare + 1
  | .agg parts => uptoBulkAll parts + 1
  | .iface _ d => uptoBulk d + 1
  | .map entries => uptoBulkEntries entries + 1
  | .held _ => 1
def uptoBulkAll {H : Type} : List (DataW H) → Nat
  | [] => 0
  | d :: r => uptoBulk d + uptoBulkAll r
def uptoBulkEntries {H : Type} : List (Lit × DataW H) → Nat
  | [] => 0
  | x :: r => uptoBulkEntry x + uptoBulkEntries r
def uptoBulkEntry {H : Type} : Lit × DataW H → Nat
  | (.string bytes, d) => bytes.length + uptoBulk d + 1
  | (_, d) => uptoBulk d + 1
 end
def uptoSmall : (H : Type) → List (DataW H) → Bool := fun _ ds => decide (uptoBulkAll ds ≤ 1048576)
def OpenSpec.upto (s : _root_.Go.ChangeSpec) : _root_.Go.OpenSpec := { _root_.Go.OpenSpec.ofChange s with cond := some uptoSmall }

/-- 'kinkeeplaw35.QuotaSums', WHERE WHAT IT READS IS OF BULK AT MOST 1048576: true; the input reads as it did. -/
def quotaSumsUptoRow : OpenClaim := { program := "ytpecepfnmkpmmaa", sum := "0a7917cd51a9e9459757f90e5f02980cc1df5a4495157907453bfb14e1573b25", func := "kinkeep/kinkeeplaw35.QuotaSums", spec := "quotaSums", unfollowed := true, recurses := true, apart := false, narrowed := true }
def QuotaSumsUptoSaid : Prop := quotaSumsUptoRow.holds Try.pinned (OpenSpec.upto quotaSumsSpec)

/-- 'kinkeeplaw35.QuotaAllowed', WHERE WHAT IT READS IS OF BULK AT MOST 1048576: true; the input reads as it did. -/
def quotaAllowedUptoRow : OpenClaim := { program := "ytpecepfnmkpmmaa", sum := "0a7917cd51a9e9459757f90e5f02980cc1df5a4495157907453bfb14e1573b25", func := "kinkeep/kinkeeplaw35.QuotaAllowed", spec := "quotaAllowed", unfollowed := true, recurses := true, apart := false, narrowed := true }
def QuotaAllowedUptoSaid : Prop := quotaAllowedUptoRow.holds Try.pinned (OpenSpec.upto quotaAllowedSpec)

/-- 'kinkeeplaw35.QuotaCancels', WHERE WHAT IT READS IS OF BULK AT MOST 1048576: true; the input reads as it did. -/
def quotaCancelsUptoRow : OpenClaim := { program := "ytpecepfnmkpmmaa", sum := "0a7917cd51a9e9459757f90e5f02980cc1df5a4495157907453bfb14e1573b25", func := "kinkeep/kinkeeplaw35.QuotaCancels", spec := "quotaCancels", unfollowed := true, recurses := true, apart := false, narrowed := true }
def QuotaCancelsUptoSaid : Prop := quotaCancelsUptoRow.holds Try.pinned (OpenSpec.upto quotaCancelsSpec)

/-- 'kinkeeplaw35.QuotaAcyclic', WHERE WHAT IT READS IS OF BULK AT MOST 1048576: true; the input reads as it did. -/
def quotaAcyclicUptoRow : OpenClaim := { program := "ytpecepfnmkpmmaa", sum := "0a7917cd51a9e9459757f90e5f02980cc1df5a4495157907453bfb14e1573b25", func := "kinkeep/kinkeeplaw35.QuotaAcyclic", spec := "quotaAcyclic", unfollowed := true, recurses := true, apart := false, narrowed := true }
def QuotaAcyclicUptoSaid : Prop := quotaAcyclicUptoRow.holds Try.pinned (OpenSpec.upto quotaAcyclicSpec)

/-- 'kinkeeplaw35.QuotaSettles', WHERE WHAT IT READS IS OF BULK AT MOST 1048576: true; the input reads as it did. -/
def quotaSettlesUptoRow : OpenClaim := { program := "ytpecepfnmkpmmaa", sum := "0a7917cd51a9e9459757f90e5f02980cc1df5a4495157907453bfb14e1573b25", func := "kinkeep/kinkeeplaw35.QuotaSettles", spec := "quotaSettles", unfollowed := true, recurses := true, apart := false, narrowed := true }
def QuotaSettlesUptoSaid : Prop := quotaSettlesUptoRow.holds Try.pinned (OpenSpec.upto quotaSettlesSpec)

/-- 'kinkeeplaw35.QuotaTotals', WHERE WHAT IT READS IS OF BULK AT MOST 1048576: true; the input reads as it did. -/
def quotaTotalsUptoRow : OpenClaim := { program := "ytpecepfnmkpmmaa", sum := "0a7917cd51a9e9459757f90e5f02980cc1df5a4495157907453bfb14e1573b25", func := "kinkeep/kinkeeplaw35.QuotaTotals", spec := "quotaTotals", unfollowed := true, recurses := true, apart := false, narrowed := true }
def QuotaTotalsUptoSaid : Prop := quotaTotalsUptoRow.holds Try.pinned (OpenSpec.upto quotaTotalsSpec)

/-- 'kinkeeplaw35.QuotaFinds', WHERE WHAT IT READS IS OF BULK AT MOST 1048576: true; the input reads as it did. -/
def quotaFindsUptoRow : OpenClaim := { program := "ytpecepfnmkpmmaa", sum := "0a7917cd51a9e9459757f90e5f02980cc1df5a4495157907453bfb14e1573b25", func := "kinkeep/kinkeeplaw35.QuotaFinds", spec := "quotaFinds", unfollowed := true, recurses := true, apart := false, narrowed := true }
def QuotaFindsUptoSaid : Prop := quotaFindsUptoRow.holds Try.pinned (OpenSpec.upto quotaFindsSpec)

/-- 'kinkeeplaw35.QuotaShares', WHERE WHAT IT READS IS OF BULK AT MOST 1048576: true; the input reads as it did. -/
def quotaSharesUptoRow : OpenClaim := { program := "ytpecepfnmkpmmaa", sum := "0a7917cd51a9e9459757f90e5f02980cc1df5a4495157907453bfb14e1573b25", func := "kinkeep/kinkeeplaw35.QuotaShares", spec := "quotaShares", unfollowed := true, recurses := true, apart := false, narrowed := true }
def QuotaSharesUptoSaid : Prop := quotaSharesUptoRow.holds Try.pinned (OpenSpec.upto quotaSharesSpec)

/-- 'kinkeeplaw35.QuotaApplies', WHERE WHAT IT READS IS OF BULK AT MOST 1048576: true; the input reads as it did. -/
def quotaAppliesUptoRow : OpenClaim := { program := "ytpecepfnmkpmmaa", sum := "0a7917cd51a9e9459757f90e5f02980cc1df5a4495157907453bfb14e1573b25", func := "kinkeep/kinkeeplaw35.QuotaApplies", spec := "quotaApplies", unfollowed := true, recurses := true, apart := false, narrowed := true }
def QuotaAppliesUptoSaid : Prop := quotaAppliesUptoRow.holds Try.pinned (OpenSpec.upto quotaAppliesSpec)

/-- 'kinkeeplaw35.QuotaReturns', WHERE WHAT IT READS IS OF BULK AT MOST 1048576: true; the input reads as it did. -/
def quotaReturnsUptoRow : OpenClaim := { program := "ytpecepfnmkpmmaa", sum := "0a7917cd51a9e9459757f90e5f02980cc1df5a4495157907453bfb14e1573b25", func := "kinkeep/kinkeeplaw35.QuotaReturns", spec := "quotaReturns", unfollowed := true, recurses := true, apart := false, narrowed := true }
def QuotaReturnsUptoSaid : Prop := quotaReturnsUptoRow.holds Try.pinned (OpenSpec.upto quotaReturnsSpec)

/-- 'kinkeeplaw35.QuotaFits', WHERE WHAT IT READS IS OF BULK AT MOST 1048576: true; the input reads as it did. -/
def quotaFitsUptoRow : OpenClaim := { program := "ytpecepfnmkpmmaa", sum := "0a7917cd51a9e9459757f90e5f02980cc1df5a4495157907453bfb14e1573b25", func := "kinkeep/kinkeeplaw35.QuotaFits", spec := "quotaFits", unfollowed := true, recurses := true, apart := false, narrowed := true }
def QuotaFitsUptoSaid : Prop := quotaFitsUptoRow.holds Try.pinned (OpenSpec.upto quotaFitsSpec)

end Rows
end Go.Proofs.Ytpecepfnmkpmmaa
