/-
  No cell of these rows narrows 'for every input' (looked for: loops, veiled, ifaces, maps, wideKeys, modest, calm, conditions, laid).
  DERIVED. THE GIVEN ROWS OF THIS SEAT. 10 by the template 'for every input the law returns true; each argument reads behind the call as it read before'; 0 by the template 'total and deterministic' (their statements: YtkbcingibgnnpaaTotals.lean).
  GIVEN WITH THE SEED: the statements are not yours to turn. If you find one false, say at which input.
  Laid BY PROGRAM, IN A SANDBOX (cutbox-rows.mjs): the forced cells as the released guide's own fill.sh prints them over the translation 9c30fa3f247df645… (all of the seat's roots in one cut). By AI agents, Wed Nov 11 2026. No macro, syntax, notation, axiom, sorry.
-/
import Derived.Test.YtkbcingibgnnpaaChecked
import GoSem.Claim
import GoSem.ClaimJoined
import GoSem.ClaimMapViews
import Derived.JoinedTies
import Derived.KernelRfl
namespace Go.Proofs.Ytkbcingibgnnpaa
/- THE CELL 'sum', in the pinned program and in every row, IS THE sha256 OF THE DUMP (.gsa) THAT YtkbcingibgnnpaaProg.lean LOADS. Nothing in Lean hashes anything: it is a label: what it is worth is what the hold of that sum in a sandbox is worth. -/
noncomputable def Try.pinned : Pinned := { name := "ytkbcingibgnnpaa", sum := "9c30fa3f247df6455c8206c155f96744e69fa9a5798c420c1e95e557329c9530", checked := Try.checked }
namespace Rows
def none {H : Type} : Left H := { results := [], args := [] }

/-- 'kinkeeplaw06.PolynomialInterpolates': WHATEVER THE INPUT: true; the input reads as it did. -/
def polynomialInterpolatesSpec : ChangeSpec := { name := "polynomialInterpolates", fn := fun _ => fun
  | [d1, d2] => { results := [.lit (.bool true)], args := [d1, d2] }
  | _ => none }
def polynomialInterpolatesRow : OpenClaim := { program := "ytkbcingibgnnpaa", sum := "9c30fa3f247df6455c8206c155f96744e69fa9a5798c420c1e95e557329c9530", func := "kinkeep/kinkeeplaw06.PolynomialInterpolates", spec := "polynomialInterpolates", unfollowed := true, recurses := true, apart := false }
def PolynomialInterpolatesSaid : Prop := polynomialInterpolatesRow.holds Try.pinned (OpenSpec.ofChange polynomialInterpolatesSpec)

/-- ITS FALSE NEIGHBOUR: 'it returns false'. Refute it at one input. -/
def polynomialInterpolatesWrong : ChangeSpec := { name := "polynomialInterpolates", fn := fun _ => fun
  | [d1, d2] => { results := [.lit (.bool false)], args := [d1, d2] }
  | _ => none }
def PolynomialInterpolatesWrongFalsely : Prop := polynomialInterpolatesRow.holds Try.pinned (OpenSpec.ofChange polynomialInterpolatesWrong)

/-- 'kinkeeplaw06.PolynomialUnique': WHATEVER THE INPUT: true; the input reads as it did. -/
def polynomialUniqueSpec : ChangeSpec := { name := "polynomialUnique", fn := fun _ => fun
  | [d1, d2, d3] => { results := [.lit (.bool true)], args := [d1, d2, d3] }
  | _ => none }
def polynomialUniqueRow : OpenClaim := { program := "ytkbcingibgnnpaa", sum := "9c30fa3f247df6455c8206c155f96744e69fa9a5798c420c1e95e557329c9530", func := "kinkeep/kinkeeplaw06.PolynomialUnique", spec := "polynomialUnique", unfollowed := true, recurses := true, apart := false }
def PolynomialUniqueSaid : Prop := polynomialUniqueRow.holds Try.pinned (OpenSpec.ofChange polynomialUniqueSpec)

/-- ITS FALSE NEIGHBOUR: 'it returns false'. Refute it at one input. -/
def polynomialUniqueWrong : ChangeSpec := { name := "polynomialUnique", fn := fun _ => fun
  | [d1, d2, d3] => { results := [.lit (.bool false)], args := [d1, d2, d3] }
  | _ => none }
def PolynomialUniqueWrongFalsely : Prop := polynomialUniqueRow.holds Try.pinned (OpenSpec.ofChange polynomialUniqueWrong)

/-- 'kinkeeplaw06.PolynomialProducts': WHATEVER THE INPUT: true; the input reads as it did. -/
def polynomialProductsSpec : ChangeSpec := { name := "polynomialProducts", fn := fun _ => fun
  | [d1, d2, d3] => { results := [.lit (.bool true)], args := [d1, d2, d3] }
  | _ => none }
def polynomialProductsRow : OpenClaim := { program := "ytkbcingibgnnpaa", sum := "9c30fa3f247df6455c8206c155f96744e69fa9a5798c420c1e95e557329c9530", func := "kinkeep/kinkeeplaw06.PolynomialProducts", spec := "polynomialProducts", unfollowed := true, recurses := true, apart := false }
def PolynomialProductsSaid : Prop := polynomialProductsRow.holds Try.pinned (OpenSpec.ofChange polynomialProductsSpec)

/-- ITS FALSE NEIGHBOUR: 'it returns false'. Refute it at one input. -/
def polynomialProductsWrong : ChangeSpec := { name := "polynomialProducts", fn := fun _ => fun
  | [d1, d2, d3] => { results := [.lit (.bool false)], args := [d1, d2, d3] }
  | _ => none }
def PolynomialProductsWrongFalsely : Prop := polynomialProductsRow.holds Try.pinned (OpenSpec.ofChange polynomialProductsWrong)

/-- 'kinkeeplaw06.PolynomialDivides': WHATEVER THE INPUT: true; the input reads as it did. -/
def polynomialDividesSpec : ChangeSpec := { name := "polynomialDivides", fn := fun _ => fun
  | [d1, d2] => { results := [.lit (.bool true)], args := [d1, d2] }
  | _ => none }
def polynomialDividesRow : OpenClaim := { program := "ytkbcingibgnnpaa", sum := "9c30fa3f247df6455c8206c155f96744e69fa9a5798c420c1e95e557329c9530", func := "kinkeep/kinkeeplaw06.PolynomialDivides", spec := "polynomialDivides", unfollowed := true, recurses := true, apart := false }
def PolynomialDividesSaid : Prop := polynomialDividesRow.holds Try.pinned (OpenSpec.ofChange polynomialDividesSpec)

/-- ITS FALSE NEIGHBOUR: 'it returns false'. Refute it at one input. -/
def polynomialDividesWrong : ChangeSpec := { name := "polynomialDivides", fn := fun _ => fun
  | [d1, d2] => { results := [.lit (.bool false)], args := [d1, d2] }
  | _ => none }
def PolynomialDividesWrongFalsely : Prop := polynomialDividesRow.holds Try.pinned (OpenSpec.ofChange polynomialDividesWrong)

/-- 'kinkeeplaw06.PolynomialRing': WHATEVER THE INPUT: true; the input reads as it did. -/
def polynomialRingSpec : ChangeSpec := { name := "polynomialRing", fn := fun _ => fun
  | [d1, d2, d3, d4] => { results := [.lit (.bool true)], args := [d1, d2, d3, d4] }
  | _ => none }
def polynomialRingRow : OpenClaim := { program := "ytkbcingibgnnpaa", sum := "9c30fa3f247df6455c8206c155f96744e69fa9a5798c420c1e95e557329c9530", func := "kinkeep/kinkeeplaw06.PolynomialRing", spec := "polynomialRing", unfollowed := true, recurses := true, apart := false }
def PolynomialRingSaid : Prop := polynomialRingRow.holds Try.pinned (OpenSpec.ofChange polynomialRingSpec)

/-- ITS FALSE NEIGHBOUR: 'it returns false'. Refute it at one input. -/
def polynomialRingWrong : ChangeSpec := { name := "polynomialRing", fn := fun _ => fun
  | [d1, d2, d3, d4] => { results := [.lit (.bool false)], args := [d1, d2, d3, d4] }
  | _ => none }
def PolynomialRingWrongFalsely : Prop := polynomialRingRow.holds Try.pinned (OpenSpec.ofChange polynomialRingWrong)

/-- 'kinkeeplaw06.PolynomialDivision': WHATEVER THE INPUT: true; the input reads as it did. -/
def polynomialDivisionSpec : ChangeSpec := { name := "polynomialDivision", fn := fun _ => fun
  | [d1, d2] => { results := [.lit (.bool true)], args := [d1, d2] }
  | _ => none }
def polynomialDivisionRow : OpenClaim := { program := "ytkbcingibgnnpaa", sum := "9c30fa3f247df6455c8206c155f96744e69fa9a5798c420c1e95e557329c9530", func := "kinkeep/kinkeeplaw06.PolynomialDivision", spec := "polynomialDivision", unfollowed := true, recurses := true, apart := false }
def PolynomialDivisionSaid : Prop := polynomialDivisionRow.holds Try.pinned (OpenSpec.ofChange polynomialDivisionSpec)

/-- ITS FALSE NEIGHBOUR: 'it returns false'. Refute it at one input. -/
def polynomialDivisionWrong : ChangeSpec := { name := "polynomialDivision", fn := fun _ => fun
  | [d1, d2] => { results := [.lit (.bool false)], args := [d1, d2] }
  | _ => none }
def PolynomialDivisionWrongFalsely : Prop := polynomialDivisionRow.holds Try.pinned (OpenSpec.ofChange polynomialDivisionWrong)

/-- 'kinkeeplaw06.PolynomialCommon': WHATEVER THE INPUT: true; the input reads as it did. -/
def polynomialCommonSpec : ChangeSpec := { name := "polynomialCommon", fn := fun _ => fun
  | [d1, d2, d3] => { results := [.lit (.bool true)], args := [d1, d2, d3] }
  | _ => none }
def polynomialCommonRow : OpenClaim := { program := "ytkbcingibgnnpaa", sum := "9c30fa3f247df6455c8206c155f96744e69fa9a5798c420c1e95e557329c9530", func := "kinkeep/kinkeeplaw06.PolynomialCommon", spec := "polynomialCommon", unfollowed := true, recurses := true, apart := false }
def PolynomialCommonSaid : Prop := polynomialCommonRow.holds Try.pinned (OpenSpec.ofChange polynomialCommonSpec)

/-- ITS FALSE NEIGHBOUR: 'it returns false'. Refute it at one input. -/
def polynomialCommonWrong : ChangeSpec := { name := "polynomialCommon", fn := fun _ => fun
  | [d1, d2, d3] => { results := [.lit (.bool false)], args := [d1, d2, d3] }
  | _ => none }
def PolynomialCommonWrongFalsely : Prop := polynomialCommonRow.holds Try.pinned (OpenSpec.ofChange polynomialCommonWrong)

/-- 'kinkeeplaw06.PolynomialFactors': WHATEVER THE INPUT: true; the input reads as it did. -/
def polynomialFactorsSpec : ChangeSpec := { name := "polynomialFactors", fn := fun _ => fun
  | [d1, d2] => { results := [.lit (.bool true)], args := [d1, d2] }
  | _ => none }
def polynomialFactorsRow : OpenClaim := { program := "ytkbcingibgnnpaa", sum := "9c30fa3f247df6455c8206c155f96744e69fa9a5798c420c1e95e557329c9530", func := "kinkeep/kinkeeplaw06.PolynomialFactors", spec := "polynomialFactors", unfollowed := true, recurses := true, apart := false }
def PolynomialFactorsSaid : Prop := polynomialFactorsRow.holds Try.pinned (OpenSpec.ofChange polynomialFactorsSpec)

/-- ITS FALSE NEIGHBOUR: 'it returns false'. Refute it at one input. -/
def polynomialFactorsWrong : ChangeSpec := { name := "polynomialFactors", fn := fun _ => fun
  | [d1, d2] => { results := [.lit (.bool false)], args := [d1, d2] }
  | _ => none }
def PolynomialFactorsWrongFalsely : Prop := polynomialFactorsRow.holds Try.pinned (OpenSpec.ofChange polynomialFactorsWrong)

/-- 'kinkeeplaw06.PolynomialDerives': WHATEVER THE INPUT: true; the input reads as it did. -/
def polynomialDerivesSpec : ChangeSpec := { name := "polynomialDerives", fn := fun _ => fun
  | [d1, d2, d3] => { results := [.lit (.bool true)], args := [d1, d2, d3] }
  | _ => none }
def polynomialDerivesRow : OpenClaim := { program := "ytkbcingibgnnpaa", sum := "9c30fa3f247df6455c8206c155f96744e69fa9a5798c420c1e95e557329c9530", func := "kinkeep/kinkeeplaw06.PolynomialDerives", spec := "polynomialDerives", unfollowed := true, recurses := true, apart := false }
def PolynomialDerivesSaid : Prop := polynomialDerivesRow.holds Try.pinned (OpenSpec.ofChange polynomialDerivesSpec)

/-- ITS FALSE NEIGHBOUR: 'it returns false'. Refute it at one input. -/
def polynomialDerivesWrong : ChangeSpec := { name := "polynomialDerives", fn := fun _ => fun
  | [d1, d2, d3] => { results := [.lit (.bool false)], args := [d1, d2, d3] }
  | _ => none }
def PolynomialDerivesWrongFalsely : Prop := polynomialDerivesRow.holds Try.pinned (OpenSpec.ofChange polynomialDerivesWrong)

/-- 'kinkeeplaw06.PolynomialValues': WHATEVER THE INPUT: true; the input reads as it did. -/
def polynomialValuesSpec : ChangeSpec := { name := "polynomialValues", fn := fun _ => fun
  | [d1, d2] => { results := [.lit (.bool true)], args := [d1, d2] }
  | _ => none }
def polynomialValuesRow : OpenClaim := { program := "ytkbcingibgnnpaa", sum := "9c30fa3f247df6455c8206c155f96744e69fa9a5798c420c1e95e557329c9530", func := "kinkeep/kinkeeplaw06.PolynomialValues", spec := "polynomialValues", unfollowed := true, recurses := true, apart := false }
def PolynomialValuesSaid : Prop := polynomialValuesRow.holds Try.pinned (OpenSpec.ofChange polynomialValuesSpec)

/-- ITS FALSE NEIGHBOUR: 'it returns false'. Refute it at one input. -/
def polynomialValuesWrong : ChangeSpec := { name := "polynomialValues", fn := fun _ => fun
  | [d1, d2] => { results := [.lit (.bool false)], args := [d1, d2] }
  | _ => none }
def PolynomialValuesWrongFalsely : Prop := polynomialValuesRow.holds Try.pinned (OpenSpec.ofChange polynomialValuesWrong)

/- THE SECOND FORM. 'bulk': how many values and letters a reading holds, each counted each time it is reached (what is shared counts as often as it is met; a slice's spare places count too). A statement '..UptoSaid' is the law's where the arguments, and the package variables that the reading takes, are together of bulk at most 1048576: NARROWER than '..Said'. Prove '..Said' where nothing that the law and all that it calls make is longer than what came in: it says more and counts as full. Else prove '..UptoSaid'. A law counts once. -/
mutual
def uptoBulk {H : Type} : DataW H → Nat
  | .lit (.string bytes) => bytes.length + 1
  | .lit _ => 1
  | .nil => 1
  | .ptr d => uptoBulk d + 1
  | .slice elems spare => uptoBulkAll elems + uptoBulkAll spare + 1
  | .agg parts => uptoBulkAll parts + 1
  | .iface _ d => uptoBulk d + 1
  | .map entries => uptoBulkEntries entries + 1
  | .held _ => 1
def uptoBulkAll {H : Type} : List (DataW H) → Nat
  | [] => 0
  | d :: r => uptoBulk d + uptoBulkAll r
def uptoBulkEntries {H : Type} : List (Lit × DataW H) → Nat
  | [] => 0
  | x :: r => uptoBulkEntry x + uptoBulkEntries r
def uptoBulkEntry {H : Type} : Lit × DataW H → Nat
  | (.string bytes, d) => bytes.length + uptoBulk d + 1
  | (_, d) => uptoBulk d + 1
 end
def uptoSmall : (H : Type) → List (DataW H) → Bool := fun _ ds => decide (uptoBulkAll ds ≤ 1048576)
def OpenSpec.upto (s : _root_.Go.ChangeSpec) : _root_.Go.OpenSpec := { _root_.Go.OpenSpec.ofChange s with cond := some uptoSmall }

/-- 'kinkeeplaw06.PolynomialInterpolates', WHERE WHAT IT READS IS OF BULK AT MOST 1048576: true; the input reads as it did. -/
def polynomialInterpolatesUptoRow : OpenClaim := { program := "ytkbcingibgnnpaa", sum := "9c30fa3f247df6455c8206c155f96744e69fa9a5798c420c1e95e557329c9530", func := "kinkeep/kinkeeplaw06.PolynomialInterpolates", spec := "polynomialInterpolates", unfollowed := true, recurses := true, apart := false, narrowed := true }
def PolynomialInterpolatesUptoSaid : Prop := polynomialInterpolatesUptoRow.holds Try.pinned (OpenSpec.upto polynomialInterpolatesSpec)

/-- 'kinkeeplaw06.PolynomialUnique', WHERE WHAT IT READS IS OF BULK AT MOST 1048576: true; the input reads as it did. -/
def polynomialUniqueUptoRow : OpenClaim := { program := "ytkbcingibgnnpaa", sum := "9c30fa3f247df6455c8206c155f96744e69fa9a5798c420c1e95e557329c9530", func := "kinkeep/kinkeeplaw06.PolynomialUnique", spec := "polynomialUnique", unfollowed := true, recurses := true, apart := false, narrowed := true }
def PolynomialUniqueUptoSaid : Prop := polynomialUniqueUptoRow.holds Try.pinned (OpenSpec.upto polynomialUniqueSpec)

/-- 'kinkeeplaw06.PolynomialProducts', WHERE WHAT IT READS IS OF BULK AT MOST 1048576: true; the input reads as it did. -/
def polynomialProductsUptoRow : OpenClaim := { program := "ytkbcingibgnnpaa", sum := "9c30fa3f247df6455c8206c155f96744e69fa9a5798c420c1e95e557329c9530", func := "kinkeep/kinkeeplaw06.PolynomialProducts", spec := "polynomialProducts", unfollowed := true, recurses := true, apart := false, narrowed := true }
def PolynomialProductsUptoSaid : Prop := polynomialProductsUptoRow.holds Try.pinned (OpenSpec.upto polynomialProductsSpec)

/-- 'kinkeeplaw06.PolynomialDivides', WHERE WHAT IT READS IS OF BULK AT MOST 1048576: true; the input reads as it did. -/
def polynomialDividesUptoRow : OpenClaim := { program := "ytkbcingibgnnpaa", sum := "9c30fa3f247df6455c8206c155f96744e69fa9a5798c420c1e95e557329c9530", func := "kinkeep/kinkeeplaw06.PolynomialDivides", spec := "polynomialDivides", unfollowed := true, recurses := true, apart := false, narrowed := true }
def PolynomialDividesUptoSaid : Prop := polynomialDividesUptoRow.holds Try.pinned (OpenSpec.upto polynomialDividesSpec)

/-- 'kinkeeplaw06.PolynomialRing', WHERE WHAT IT READS IS OF BULK AT MOST 1048576: true; the input reads as it did. -/
def polynomialRingUptoRow : OpenClaim := { program := "ytkbcingibgnnpaa", sum := "9c30fa3f247df6455c8206c155f96744e69fa9a5798c420c1e95e557329c9530", func := "kinkeep/kinkeeplaw06.PolynomialRing", spec := "polynomialRing", unfollowed := true, recurses := true, apart := false, narrowed := true }
def PolynomialRingUptoSaid : Prop := polynomialRingUptoRow.holds Try.pinned (OpenSpec.upto polynomialRingSpec)

/-- 'kinkeeplaw06.PolynomialDivision', WHERE WHAT IT READS IS OF BULK AT MOST 1048576: true; the input reads as it did. -/
def polynomialDivisionUptoRow : OpenClaim := { program := "ytkbcingibgnnpaa", sum := "9c30fa3f247df6455c8206c155f96744e69fa9a5798c420c1e95e557329c9530", func := "kinkeep/kinkeeplaw06.PolynomialDivision", spec := "polynomialDivision", unfollowed := true, recurses := true, apart := false, narrowed := true }
def PolynomialDivisionUptoSaid : Prop := polynomialDivisionUptoRow.holds Try.pinned (OpenSpec.upto polynomialDivisionSpec)

/-- 'kinkeeplaw06.PolynomialCommon', WHERE WHAT IT READS IS OF BULK AT MOST 1048576: true; the input reads as it did. -/
def polynomialCommonUptoRow : OpenClaim := { program := "ytkbcingibgnnpaa", sum := "9c30fa3f247df6455c8206c155f96744e69fa9a5798c420c1e95e557329c9530", func := "kinkeep/kinkeeplaw06.PolynomialCommon", spec := "polynomialCommon", unfollowed := true, recurses := true, apart := false, narrowed := true }
def PolynomialCommonUptoSaid : Prop := polynomialCommonUptoRow.holds Try.pinned (OpenSpec.upto polynomialCommonSpec)

/-- 'kinkeeplaw06.PolynomialFactors', WHERE WHAT IT READS IS OF BULK AT MOST 1048576: true; the input reads as it did. -/
def polynomialFactorsUptoRow : OpenClaim := { program := "ytkbcingibgnnpaa", sum := "9c30fa3f247df6455c8206c155f96744e69fa9a5798c420c1e95e557329c9530", func := "kinkeep/kinkeeplaw06.PolynomialFactors", spec := "polynomialFactors", unfollowed := true, recurses := true, apart := false, narrowed := true }
def PolynomialFactorsUptoSaid : Prop := polynomialFactorsUptoRow.holds Try.pinned (OpenSpec.upto polynomialFactorsSpec)

/-- 'kinkeeplaw06.PolynomialDerives', WHERE WHAT IT READS IS OF BULK AT MOST 1048576: true; the input reads as it did. -/
def polynomialDerivesUptoRow : OpenClaim := { program := "ytkbcingibgnnpaa", sum := "9c30fa3f247df6455c8206c155f96744e69fa9a5798c420c1e95e557329c9530", func := "kinkeep/kinkeeplaw06.PolynomialDerives", spec := "polynomialDerives", unfollowed := true, recurses := true, apart := false, narrowed := true }
def PolynomialDerivesUptoSaid : Prop := polynomialDerivesUptoRow.holds Try.pinned (OpenSpec.upto polynomialDerivesSpec)

/-- 'kinkeeplaw06.PolynomialValues', WHERE WHAT IT READS IS OF BULK AT MOST 1048576: true; the input reads as it did. -/
def polynomialValuesUptoRow : OpenClaim := { program := "ytkbcingibgnnpaa", sum := "9c30fa3f247df6455c8206c155f96744e69fa9a5798c420c1e95e557329c9530", func := "kinkeep/kinkeeplaw06.PolynomialValues", spec := "polynomialValues", unfollowed := true, recurses := true, apart := false, narrowed := true }
def PolynomialValuesUptoSaid : Prop := polynomialValuesUptoRow.holds Try.pinned (OpenSpec.upto polynomialValuesSpec)

end Rows
end Go.Proofs.Ytkbcingibgnnpaa
