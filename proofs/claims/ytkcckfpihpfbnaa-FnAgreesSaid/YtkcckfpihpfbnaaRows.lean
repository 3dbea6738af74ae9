/-
  No cell of these rows narrows 'for every input' (looked for: loops, veiled, ifaces, maps, wideKeys, modest, calm, conditions, laid).
  DERIVED. THE GIVEN ROWS OF THIS SEAT. 12 by the template 'for every input the law returns true; each argument reads behind the call as it read before'; 0 by the template 'total and deterministic' (their statements: YtkcckfpihpfbnaaTotals.lean).
  GIVEN WITH THE SEED: the statements are not yours to turn. If you find one false, say at which input.
  Laid BY PROGRAM, IN A SANDBOX (cutbox-rows.mjs): the forced cells as the released guide's own fill.sh prints them over the translation 25e89b8c51bfc9f1… (all of the seat's roots in one cut). By AI agents, Wed Nov 11 2026. No macro, syntax, notation, axiom, sorry.
-/
import Derived.Test.YtkcckfpihpfbnaaChecked
import GoSem.Claim
import GoSem.ClaimJoined
import GoSem.ClaimMapViews
import Derived.JoinedTies
import Derived.KernelRfl
namespace Go.Proofs.Ytkcckfpihpfbnaa
/- THE CELL 'sum', in the pinned program and in every row, IS THE sha256 OF THE DUMP (.gsa) THAT YtkcckfpihpfbnaaProg.lean LOADS. Nothing in Lean hashes anything: it is a label: what it is worth is what the hold of that sum in a sandbox is worth. -/
noncomputable def Try.pinned : Pinned := { name := "ytkcckfpihpfbnaa", sum := "25e89b8c51bfc9f1f890872b9fb52f96e8686296c027ddb7ca7b4ad64c56b8c2", checked := Try.checked }
namespace Rows
def none {H : Type} : Left H := { results := [], args := [] }

/-- 'laws.FnAgrees': WHATEVER THE INPUT: true; the input reads as it did. -/
def fnAgreesSpec : ChangeSpec := { name := "fnAgrees", fn := fun _ => fun
  | [d] => { results := [.lit (.bool true)], args := [d] }
  | _ => none }
def fnAgreesRow : OpenClaim := { program := "ytkcckfpihpfbnaa", sum := "25e89b8c51bfc9f1f890872b9fb52f96e8686296c027ddb7ca7b4ad64c56b8c2", func := "loop.example/g01988/laws.FnAgrees", spec := "fnAgrees", recurses := true, apart := false }
def FnAgreesSaid : Prop := fnAgreesRow.holds Try.pinned (OpenSpec.ofChange fnAgreesSpec)

/-- ITS FALSE NEIGHBOUR: 'it returns false'. Refute it at one input. -/
def fnAgreesWrong : ChangeSpec := { name := "fnAgrees", fn := fun _ => fun
  | [d] => { results := [.lit (.bool false)], args := [d] }
  | _ => none }
def FnAgreesWrongFalsely : Prop := fnAgreesRow.holds Try.pinned (OpenSpec.ofChange fnAgreesWrong)

/-- 'laws.FnExactAgreeOf': WHATEVER THE INPUT: true; the input reads as it did. -/
def fnExactAgreeOfSpec : ChangeSpec := { name := "fnExactAgreeOf", fn := fun _ => fun
  | [d1, d2, d3, d4] => { results := [.lit (.bool true)], args := [d1, d2, d3, d4] }
  | _ => none }
def fnExactAgreeOfRow : OpenClaim := { program := "ytkcckfpihpfbnaa", sum := "25e89b8c51bfc9f1f890872b9fb52f96e8686296c027ddb7ca7b4ad64c56b8c2", func := "loop.example/g01988/laws.FnExactAgreeOf", spec := "fnExactAgreeOf", apart := false }
def FnExactAgreeOfSaid : Prop := fnExactAgreeOfRow.holds Try.pinned (OpenSpec.ofChange fnExactAgreeOfSpec)

/-- ITS FALSE NEIGHBOUR: 'it returns false'. Refute it at one input. -/
def fnExactAgreeOfWrong : ChangeSpec := { name := "fnExactAgreeOf", fn := fun _ => fun
  | [d1, d2, d3, d4] => { results := [.lit (.bool false)], args := [d1, d2, d3, d4] }
  | _ => none }
def FnExactAgreeOfWrongFalsely : Prop := fnExactAgreeOfRow.holds Try.pinned (OpenSpec.ofChange fnExactAgreeOfWrong)

/-- 'laws.FnExactWitnessOf': WHATEVER THE INPUT: true; the input reads as it did. -/
def fnExactWitnessOfSpec : ChangeSpec := { name := "fnExactWitnessOf", fn := fun _ => fun
  | [d1, d2, d3] => { results := [.lit (.bool true)], args := [d1, d2, d3] }
  | _ => none }
def fnExactWitnessOfRow : OpenClaim := { program := "ytkcckfpihpfbnaa", sum := "25e89b8c51bfc9f1f890872b9fb52f96e8686296c027ddb7ca7b4ad64c56b8c2", func := "loop.example/g01988/laws.FnExactWitnessOf", spec := "fnExactWitnessOf", apart := false }
def FnExactWitnessOfSaid : Prop := fnExactWitnessOfRow.holds Try.pinned (OpenSpec.ofChange fnExactWitnessOfSpec)

/-- ITS FALSE NEIGHBOUR: 'it returns false'. Refute it at one input. -/
def fnExactWitnessOfWrong : ChangeSpec := { name := "fnExactWitnessOf", fn := fun _ => fun
  | [d1, d2, d3] => { results := [.lit (.bool false)], args := [d1, d2, d3] }
  | _ => none }
def FnExactWitnessOfWrongFalsely : Prop := fnExactWitnessOfRow.holds Try.pinned (OpenSpec.ofChange fnExactWitnessOfWrong)

/-- 'laws.FnExactHoldsDep': WHATEVER THE INPUT: true; the input reads as it did. -/
def fnExactHoldsDepSpec : ChangeSpec := { name := "fnExactHoldsDep", fn := fun _ => fun
  | [d1, d2, d3] => { results := [.lit (.bool true)], args := [d1, d2, d3] }
  | _ => none }
def fnExactHoldsDepRow : OpenClaim := { program := "ytkcckfpihpfbnaa", sum := "25e89b8c51bfc9f1f890872b9fb52f96e8686296c027ddb7ca7b4ad64c56b8c2", func := "loop.example/g01988/laws.FnExactHoldsDep", spec := "fnExactHoldsDep", apart := false }
def FnExactHoldsDepSaid : Prop := fnExactHoldsDepRow.holds Try.pinned (OpenSpec.ofChange fnExactHoldsDepSpec)

/-- ITS FALSE NEIGHBOUR: 'it returns false'. Refute it at one input. -/
def fnExactHoldsDepWrong : ChangeSpec := { name := "fnExactHoldsDep", fn := fun _ => fun
  | [d1, d2, d3] => { results := [.lit (.bool false)], args := [d1, d2, d3] }
  | _ => none }
def FnExactHoldsDepWrongFalsely : Prop := fnExactHoldsDepRow.holds Try.pinned (OpenSpec.ofChange fnExactHoldsDepWrong)

/-- 'laws.FnExactProductOf': WHATEVER THE INPUT: true; the input reads as it did. -/
def fnExactProductOfSpec : ChangeSpec := { name := "fnExactProductOf", fn := fun _ => fun
  | [d1, d2, d3] => { results := [.lit (.bool true)], args := [d1, d2, d3] }
  | _ => none }
def fnExactProductOfRow : OpenClaim := { program := "ytkcckfpihpfbnaa", sum := "25e89b8c51bfc9f1f890872b9fb52f96e8686296c027ddb7ca7b4ad64c56b8c2", func := "loop.example/g01988/laws.FnExactProductOf", spec := "fnExactProductOf", unfollowed := true, recurses := true, apart := false }
def FnExactProductOfSaid : Prop := fnExactProductOfRow.holds Try.pinned (OpenSpec.ofChange fnExactProductOfSpec)

/-- ITS FALSE NEIGHBOUR: 'it returns false'. Refute it at one input. -/
def fnExactProductOfWrong : ChangeSpec := { name := "fnExactProductOf", fn := fun _ => fun
  | [d1, d2, d3] => { results := [.lit (.bool false)], args := [d1, d2, d3] }
  | _ => none }
def FnExactProductOfWrongFalsely : Prop := fnExactProductOfRow.holds Try.pinned (OpenSpec.ofChange fnExactProductOfWrong)

/-- 'laws.FnExactPartitionOf': WHATEVER THE INPUT: true; the input reads as it did. -/
def fnExactPartitionOfSpec : ChangeSpec := { name := "fnExactPartitionOf", fn := fun _ => fun
  | [d1, d2, d3] => { results := [.lit (.bool true)], args := [d1, d2, d3] }
  | _ => none }
def fnExactPartitionOfRow : OpenClaim := { program := "ytkcckfpihpfbnaa", sum := "25e89b8c51bfc9f1f890872b9fb52f96e8686296c027ddb7ca7b4ad64c56b8c2", func := "loop.example/g01988/laws.FnExactPartitionOf", spec := "fnExactPartitionOf", unfollowed := true, recurses := true, apart := false }
def FnExactPartitionOfSaid : Prop := fnExactPartitionOfRow.holds Try.pinned (OpenSpec.ofChange fnExactPartitionOfSpec)

/-- ITS FALSE NEIGHBOUR: 'it returns false'. Refute it at one input. -/
def fnExactPartitionOfWrong : ChangeSpec := { name := "fnExactPartitionOf", fn := fun _ => fun
  | [d1, d2, d3] => { results := [.lit (.bool false)], args := [d1, d2, d3] }
  | _ => none }
def FnExactPartitionOfWrongFalsely : Prop := fnExactPartitionOfRow.holds Try.pinned (OpenSpec.ofChange fnExactPartitionOfWrong)

/-- 'laws.FnExactPartsBySize': WHATEVER THE INPUT: true; the input reads as it did. -/
def fnExactPartsBySizeSpec : ChangeSpec := { name := "fnExactPartsBySize", fn := fun _ => fun
  | [d] => { results := [.lit (.bool true)], args := [d] }
  | _ => none }
def fnExactPartsBySizeRow : OpenClaim := { program := "ytkcckfpihpfbnaa", sum := "25e89b8c51bfc9f1f890872b9fb52f96e8686296c027ddb7ca7b4ad64c56b8c2", func := "loop.example/g01988/laws.FnExactPartsBySize", spec := "fnExactPartsBySize", unfollowed := true, recurses := true, apart := false }
def FnExactPartsBySizeSaid : Prop := fnExactPartsBySizeRow.holds Try.pinned (OpenSpec.ofChange fnExactPartsBySizeSpec)

/-- ITS FALSE NEIGHBOUR: 'it returns false'. Refute it at one input. -/
def fnExactPartsBySizeWrong : ChangeSpec := { name := "fnExactPartsBySize", fn := fun _ => fun
  | [d] => { results := [.lit (.bool false)], args := [d] }
  | _ => none }
def FnExactPartsBySizeWrongFalsely : Prop := fnExactPartsBySizeRow.holds Try.pinned (OpenSpec.ofChange fnExactPartsBySizeWrong)

/-- 'laws.FnExactMaximalSets': WHATEVER THE INPUT: true; the input reads as it did. -/
def fnExactMaximalSetsSpec : ChangeSpec := { name := "fnExactMaximalSets", fn := fun _ => fun
  | [d] => { results := [.lit (.bool true)], args := [d] }
  | _ => none }
def fnExactMaximalSetsRow : OpenClaim := { program := "ytkcckfpihpfbnaa", sum := "25e89b8c51bfc9f1f890872b9fb52f96e8686296c027ddb7ca7b4ad64c56b8c2", func := "loop.example/g01988/laws.FnExactMaximalSets", spec := "fnExactMaximalSets", recurses := true, apart := false }
def FnExactMaximalSetsSaid : Prop := fnExactMaximalSetsRow.holds Try.pinned (OpenSpec.ofChange fnExactMaximalSetsSpec)

/-- ITS FALSE NEIGHBOUR: 'it returns false'. Refute it at one input. -/
def fnExactMaximalSetsWrong : ChangeSpec := { name := "fnExactMaximalSets", fn := fun _ => fun
  | [d] => { results := [.lit (.bool false)], args := [d] }
  | _ => none }
def FnExactMaximalSetsWrongFalsely : Prop := fnExactMaximalSetsRow.holds Try.pinned (OpenSpec.ofChange fnExactMaximalSetsWrong)

/-- 'laws.FnExactMinimalSets': WHATEVER THE INPUT: true; the input reads as it did. -/
def fnExactMinimalSetsSpec : ChangeSpec := { name := "fnExactMinimalSets", fn := fun _ => fun
  | [d] => { results := [.lit (.bool true)], args := [d] }
  | _ => none }
def fnExactMinimalSetsRow : OpenClaim := { program := "ytkcckfpihpfbnaa", sum := "25e89b8c51bfc9f1f890872b9fb52f96e8686296c027ddb7ca7b4ad64c56b8c2", func := "loop.example/g01988/laws.FnExactMinimalSets", spec := "fnExactMinimalSets", recurses := true, apart := false }
def FnExactMinimalSetsSaid : Prop := fnExactMinimalSetsRow.holds Try.pinned (OpenSpec.ofChange fnExactMinimalSetsSpec)

/-- ITS FALSE NEIGHBOUR: 'it returns false'. Refute it at one input. -/
def fnExactMinimalSetsWrong : ChangeSpec := { name := "fnExactMinimalSets", fn := fun _ => fun
  | [d] => { results := [.lit (.bool false)], args := [d] }
  | _ => none }
def FnExactMinimalSetsWrongFalsely : Prop := fnExactMinimalSetsRow.holds Try.pinned (OpenSpec.ofChange fnExactMinimalSetsWrong)

/-- 'laws.FnSets': WHATEVER THE INPUT: true; the input reads as it did. -/
def fnSetsSpec : ChangeSpec := { name := "fnSets", fn := fun _ => fun
  | [d] => { results := [.lit (.bool true)], args := [d] }
  | _ => none }
def fnSetsRow : OpenClaim := { program := "ytkcckfpihpfbnaa", sum := "25e89b8c51bfc9f1f890872b9fb52f96e8686296c027ddb7ca7b4ad64c56b8c2", func := "loop.example/g01988/laws.FnSets", spec := "fnSets", unfollowed := true, recurses := true, apart := false }
def FnSetsSaid : Prop := fnSetsRow.holds Try.pinned (OpenSpec.ofChange fnSetsSpec)

/-- ITS FALSE NEIGHBOUR: 'it returns false'. Refute it at one input. -/
def fnSetsWrong : ChangeSpec := { name := "fnSets", fn := fun _ => fun
  | [d] => { results := [.lit (.bool false)], args := [d] }
  | _ => none }
def FnSetsWrongFalsely : Prop := fnSetsRow.holds Try.pinned (OpenSpec.ofChange fnSetsWrong)

/-- 'laws.FnExactAgreeSets': WHATEVER THE INPUT: true; the input reads as it did. -/
def fnExactAgreeSetsSpec : ChangeSpec := { name := "fnExactAgreeSets", fn := fun _ => fun
  | [d1, d2] => { results := [.lit (.bool true)], args := [d1, d2] }
  | _ => none }
def fnExactAgreeSetsRow : OpenClaim := { program := "ytkcckfpihpfbnaa", sum := "25e89b8c51bfc9f1f890872b9fb52f96e8686296c027ddb7ca7b4ad64c56b8c2", func := "loop.example/g01988/laws.FnExactAgreeSets", spec := "fnExactAgreeSets", recurses := true, apart := false }
def FnExactAgreeSetsSaid : Prop := fnExactAgreeSetsRow.holds Try.pinned (OpenSpec.ofChange fnExactAgreeSetsSpec)

/-- ITS FALSE NEIGHBOUR: 'it returns false'. Refute it at one input. -/
def fnExactAgreeSetsWrong : ChangeSpec := { name := "fnExactAgreeSets", fn := fun _ => fun
  | [d1, d2] => { results := [.lit (.bool false)], args := [d1, d2] }
  | _ => none }
def FnExactAgreeSetsWrongFalsely : Prop := fnExactAgreeSetsRow.holds Try.pinned (OpenSpec.ofChange fnExactAgreeSetsWrong)

/-- 'laws.FnExactDifferenceSets': WHATEVER THE INPUT: true; the input reads as it did. -/
def fnExactDifferenceSetsSpec : ChangeSpec := { name := "fnExactDifferenceSets", fn := fun _ => fun
  | [d1, d2, d3] => { results := [.lit (.bool true)], args := [d1, d2, d3] }
  | _ => none }
def fnExactDifferenceSetsRow : OpenClaim := { program := "ytkcckfpihpfbnaa", sum := "25e89b8c51bfc9f1f890872b9fb52f96e8686296c027ddb7ca7b4ad64c56b8c2", func := "loop.example/g01988/laws.FnExactDifferenceSets", spec := "fnExactDifferenceSets", recurses := true, apart := false }
def FnExactDifferenceSetsSaid : Prop := fnExactDifferenceSetsRow.holds Try.pinned (OpenSpec.ofChange fnExactDifferenceSetsSpec)

/-- ITS FALSE NEIGHBOUR: 'it returns false'. Refute it at one input. -/
def fnExactDifferenceSetsWrong : ChangeSpec := { name := "fnExactDifferenceSets", fn := fun _ => fun
  | [d1, d2, d3] => { results := [.lit (.bool false)], args := [d1, d2, d3] }
  | _ => none }
def FnExactDifferenceSetsWrongFalsely : Prop := fnExactDifferenceSetsRow.holds Try.pinned (OpenSpec.ofChange fnExactDifferenceSetsWrong)

/- THE SECOND FORM. 'bulk': how many values and letters a reading holds, each counted each time it is reached (what is shared counts as often as it is met; a slice's spare places count too). A statement '..UptoSaid' is the law's where the arguments, and the package variables that the reading takes, are together of bulk at most 1048576: NARROWER than '..Said'. Prove '..Said' where nothing that the law and all that it calls make is longer than what came in: it says more and counts as full. Else prove '..UptoSaid'. A law counts once. -/
mutual
def uptoBulk {H : Type} : DataW H → Nat
  | .lit (.string bytes) => bytes.length + 1
  | .lit _ => 1
  | .nil => 1
  | .ptr d => uptoBulk d + 1
  | .slice elems spare => uptoBulkAll elems + uptoBulkAll spare + 1
  | .agg parts => uptoBulkAll parts + 1
  | .iface _ d => uptoBulk d + 1
  | .map entries => uptoBulkEntries entries + 1
  | .held _ => 1
def uptoBulkAll {H : Type} : List (DataW H) → Nat
  | [] => 0
  | d :: r => uptoBulk d + uptoBulkAll r
def uptoBulkEntries {H : Type} : List (Lit × DataW H) → Nat
  | [] => 0
  | x :: r => uptoBulkEntry x + uptoBulkEntries r
def uptoBulkEntry {H : Type} : Lit × DataW H → Nat
  | (.string bytes, d) => bytes.length + uptoBulk d + 1
  | (_, d) => uptoBulk d + 1
 end
def uptoSmall : (H : Type) → List (DataW H) → Bool := fun _ ds => decide (uptoBulkAll ds ≤ 1048576)
def OpenSpec.upto (s : _root_.Go.ChangeSpec) : _root_.Go.OpenSpec := { _root_.Go.OpenSpec.ofChange s with cond := some uptoSmall }

/-- 'laws.FnAgrees', WHERE WHAT IT READS IS OF BULK AT MOST 1048576: true; the input reads as it did. -/
def fnAgreesUptoRow : OpenClaim := { program := "ytkcckfpihpfbnaa", sum := "25e89b8c51bfc9f1f890872b9fb52f96e8686296c027ddb7ca7b4ad64c56b8c2", func := "loop.example/g01988/laws.FnAgrees", spec := "fnAgrees", recurses := true, apart := false, narrowed := true }
def FnAgreesUptoSaid : Prop := fnAgreesUptoRow.holds Try.pinned (OpenSpec.upto fnAgreesSpec)

/-- 'laws.FnExactAgreeOf', WHERE WHAT IT READS IS OF BULK AT MOST 1048576: true; the input reads as it did. -/
def fnExactAgreeOfUptoRow : OpenClaim := { program := "ytkcckfpihpfbnaa", sum := "25e89b8c51bfc9f1f890872b9fb52f96e8686296c027ddb7ca7b4ad64c56b8c2", func := "loop.example/g01988/laws.FnExactAgreeOf", spec := "fnExactAgreeOf", apart := false, narrowed := true }
def FnExactAgreeOfUptoSaid : Prop := fnExactAgreeOfUptoRow.holds Try.pinned (OpenSpec.upto fnExactAgreeOfSpec)

/-- 'laws.FnExactWitnessOf', WHERE WHAT IT READS IS OF BULK AT MOST 1048576: true; the input reads as it did. -/
def fnExactWitnessOfUptoRow : OpenClaim := { program := "ytkcckfpihpfbnaa", sum := "25e89b8c51bfc9f1f890872b9fb52f96e8686296c027ddb7ca7b4ad64c56b8c2", func := "loop.example/g01988/laws.FnExactWitnessOf", spec := "fnExactWitnessOf", apart := false, narrowed := true }
def FnExactWitnessOfUptoSaid : Prop := fnExactWitnessOfUptoRow.holds Try.pinned (OpenSpec.upto fnExactWitnessOfSpec)

/-- 'laws.FnExactHoldsDep', WHERE WHAT IT READS IS OF BULK AT MOST 1048576: true; the input reads as it did. -/
def fnExactHoldsDepUptoRow : OpenClaim := { program := "ytkcckfpihpfbnaa", sum := "25e89b8c51bfc9f1f890872b9fb52f96e8686296c027ddb7ca7b4ad64c56b8c2", func := "loop.example/g01988/laws.FnExactHoldsDep", spec := "fnExactHoldsDep", apart := false, narrowed := true }
def FnExactHoldsDepUptoSaid : Prop := fnExactHoldsDepUptoRow.holds Try.pinned (OpenSpec.upto fnExactHoldsDepSpec)

/-- 'laws.FnExactProductOf', WHERE WHAT IT READS IS OF BULK AT MOST 1048576: true; the input reads as it did. -/
def fnExactProductOfUptoRow : OpenClaim := { program := "ytkcckfpihpfbnaa", sum := "25e89b8c51bfc9f1f890872b9fb52f96e8686296c027ddb7ca7b4ad64c56b8c2", func := "loop.example/g01988/laws.FnExactProductOf", spec := "fnExactProductOf", unfollowed := true, recurses := true, apart := false, narrowed := true }
def FnExactProductOfUptoSaid : Prop := fnExactProductOfUptoRow.holds Try.pinned (OpenSpec.upto fnExactProductOfSpec)

/-- 'laws.FnExactPartitionOf', WHERE WHAT IT READS IS OF BULK AT MOST 1048576: true; the input reads as it did. -/
def fnExactPartitionOfUptoRow : OpenClaim := { program := "ytkcckfpihpfbnaa", sum := "25e89b8c51bfc9f1f890872b9fb52f96e8686296c027ddb7ca7b4ad64c56b8c2", func := "loop.example/g01988/laws.FnExactPartitionOf", spec := "fnExactPartitionOf", unfollowed := true, recurses := true, apart := false, narrowed := true }
def FnExactPartitionOfUptoSaid : Prop := fnExactPartitionOfUptoRow.holds Try.pinned (OpenSpec.upto fnExactPartitionOfSpec)

/-- 'laws.FnExactPartsBySize', WHERE WHAT IT READS IS OF BULK AT MOST 1048576: true; the input reads as it did. -/
def fnExactPartsBySizeUptoRow : OpenClaim := { program := "ytkcckfpihpfbnaa", sum := "25e89b8c51bfc9f1f890872b9fb52f96e8686296c027ddb7ca7b4ad64c56b8c2", func := "loop.example/g01988/laws.FnExactPartsBySize", spec := "fnExactPartsBySize", unfollowed := true, recurses := true, apart := false, narrowed := true }
def FnExactPartsBySizeUptoSaid : Prop := fnExactPartsBySizeUptoRow.holds Try.pinned (OpenSpec.upto fnExactPartsBySizeSpec)

/-- 'laws.FnExactMaximalSets', WHERE WHAT IT READS IS OF BULK AT MOST 1048576: true; the input reads as it did. -/
def fnExactMaximalSetsUptoRow : OpenClaim := { program := "ytkcckfpihpfbnaa", sum := "25e89b8c51bfc9f1f890872b9fb52f96e8686296c027ddb7ca7b4ad64c56b8c2", func := "loop.example/g01988/laws.FnExactMaximalSets", spec := "fnExactMaximalSets", recurses := true, apart := false, narrowed := true }
def FnExactMaximalSetsUptoSaid : Prop := fnExactMaximalSetsUptoRow.holds Try.pinned (OpenSpec.upto fnExactMaximalSetsSpec)

/-- 'laws.FnExactMinimalSets', WHERE WHAT IT READS IS OF BULK AT MOST 1048576: true; the input reads as it did. -/
def fnExactMinimalSetsUptoRow : OpenClaim := { program := "ytkcckfpihpfbnaa", sum := "25e89b8c51bfc9f1f890872b9fb52f96e8686296c027ddb7ca7b4ad64c56b8c2", func := "loop.example/g01988/laws.FnExactMinimalSets", spec := "fnExactMinimalSets", recurses := true, apart := false, narrowed := true }
def FnExactMinimalSetsUptoSaid : Prop := fnExactMinimalSetsUptoRow.holds Try.pinned (OpenSpec.upto fnExactMinimalSetsSpec)

/-- 'laws.FnSets', WHERE WHAT IT READS IS OF BULK AT MOST 1048576: true; the input reads as it did. -/
def fnSetsUptoRow : OpenClaim := { program := "ytkcckfpihpfbnaa", sum := "25e89b8c51bfc9f1f890872b9fb52f96e8686296c027ddb7ca7b4ad64c56b8c2", func := "loop.example/g01988/laws.FnSets", spec := "fnSets", unfollowed := true, recurses := true, apart := false, narrowed := true }
def FnSetsUptoSaid : Prop := fnSetsUptoRow.holds Try.pinned (OpenSpec.upto fnSetsSpec)

/-- 'laws.FnExactAgreeSets', WHERE WHAT IT READS IS OF BULK AT MOST 1048576: true; the input reads as it did. -/
def fnExactAgreeSetsUptoRow : OpenClaim := { program := "ytkcckfpihpfbnaa", sum := "25e89b8c51bfc9f1f890872b9fb52f96e8686296c027ddb7ca7b4ad64c56b8c2", func := "loop.example/g01988/laws.FnExactAgreeSets", spec := "fnExactAgreeSets", recurses := true, apart := false, narrowed := true }
def FnExactAgreeSetsUptoSaid : Prop := fnExactAgreeSetsUptoRow.holds Try.pinned (OpenSpec.upto fnExactAgreeSetsSpec)

/-- 'laws.FnExactDifferenceSets', WHERE WHAT IT READS IS OF BULK AT MOST 1048576: true; the input reads as it did. -/
def fnExactDifferenceSetsUptoRow : OpenClaim := { program := "ytkcckfpihpfbnaa", sum := "25e89b8c51bfc9f1f890872b9fb52f96e8686296c027ddb7ca7b4ad64c56b8c2", func := "loop.example/g01988/laws.FnExactDifferenceSets", spec := "fnExactDifferenceSets", recurses := true, apart := false, narrowed := true }
def FnExactDifferenceSetsUptoSaid : Prop := fnExactDifferenceSetsUptoRow.holds Try.pinned (OpenSpec.upto fnExactDifferenceSetsSpec)

end Rows
end Go.Proofs.Ytkcckfpihpfbnaa
