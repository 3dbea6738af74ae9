/-
  No cell of these rows narrows 'for every input' (looked for: loops, veiled, ifaces, maps, wideKeys, modest, calm, conditions, laid).
  DERIVED. THE GIVEN ROWS OF THIS SEAT. 12 by the template 'for every input the law returns true; each argument reads behind the call as it read before'; 0 by the template 'total and deterministic' (their statements: YtgoggljmifjlfaaTotals.lean).
  GIVEN WITH THE SEED: the statements are not yours to turn. If you find one false, say at which input.
  Laid BY PROGRAM, IN A SANDBOX (cutbox-rows.mjs): the forced cells as the released guide's own fill.sh prints them over the translation b22c9b6d7c007f28… (all of the seat's roots in one cut). By AI agents, Wed Nov 11 2026. No macro, syntax, notation, axiom, sorry.
-/
import Derived.Test.YtgoggljmifjlfaaChecked
import GoSem.Claim
import GoSem.ClaimJoined
import GoSem.ClaimMapViews
import Derived.JoinedTies
import Derived.KernelRfl
namespace Go.Proofs.Ytgoggljmifjlfaa
/- THE CELL 'sum', in the pinned program and in every row, IS THE sha256 OF THE DUMP (.gsa) THAT YtgoggljmifjlfaaProg.lean LOADS. Nothing in Lean hashes anything: it is a label: what it is worth is what the hold of that sum in a sandbox is worth. -/
noncomputable def Try.pinned : Pinned := { name := "ytgoggljmifjlfaa", sum := "b22c9b6d7c007f283aea1bc518ef242203e72f2f2ef928b3ac2a9d14d026867c", checked := Try.checked }
namespace Rows
def none {H : Type} : Left H := { results := [], args := [] }

/-- 'laws.FnExactFormatAttributes': WHATEVER THE INPUT: true; the input reads as it did. -/
def fnExactFormatAttributesSpec : ChangeSpec := { name := "fnExactFormatAttributes", fn := fun _ => fun
  | [d] => { results := [.lit (.bool true)], args := [d] }
  | _ => none }
def fnExactFormatAttributesRow : OpenClaim := { program := "ytgoggljmifjlfaa", sum := "b22c9b6d7c007f283aea1bc518ef242203e72f2f2ef928b3ac2a9d14d026867c", func := "loop.example/g01988/laws.FnExactFormatAttributes", spec := "fnExactFormatAttributes", apart := false }
def FnExactFormatAttributesSaid : Prop := fnExactFormatAttributesRow.holds Try.pinned (OpenSpec.ofChange fnExactFormatAttributesSpec)

/-- ITS FALSE NEIGHBOUR: 'it returns false'. Refute it at one input. -/
def fnExactFormatAttributesWrong : ChangeSpec := { name := "fnExactFormatAttributes", fn := fun _ => fun
  | [d] => { results := [.lit (.bool false)], args := [d] }
  | _ => none }
def FnExactFormatAttributesWrongFalsely : Prop := fnExactFormatAttributesRow.holds Try.pinned (OpenSpec.ofChange fnExactFormatAttributesWrong)

/-- 'laws.FnExactMembers': WHATEVER THE INPUT: true; the input reads as it did. -/
def fnExactMembersSpec : ChangeSpec := { name := "fnExactMembers", fn := fun _ => fun
  | [d] => { results := [.lit (.bool true)], args := [d] }
  | _ => none }
def fnExactMembersRow : OpenClaim := { program := "ytgoggljmifjlfaa", sum := "b22c9b6d7c007f283aea1bc518ef242203e72f2f2ef928b3ac2a9d14d026867c", func := "loop.example/g01988/laws.FnExactMembers", spec := "fnExactMembers", apart := false }
def FnExactMembersSaid : Prop := fnExactMembersRow.holds Try.pinned (OpenSpec.ofChange fnExactMembersSpec)

/-- ITS FALSE NEIGHBOUR: 'it returns false'. Refute it at one input. -/
def fnExactMembersWrong : ChangeSpec := { name := "fnExactMembers", fn := fun _ => fun
  | [d] => { results := [.lit (.bool false)], args := [d] }
  | _ => none }
def FnExactMembersWrongFalsely : Prop := fnExactMembersRow.holds Try.pinned (OpenSpec.ofChange fnExactMembersWrong)

/-- 'laws.FnExactParseAttributes': WHATEVER THE INPUT: true; the input reads as it did. -/
def fnExactParseAttributesSpec : ChangeSpec := { name := "fnExactParseAttributes", fn := fun _ => fun
  | [d] => { results := [.lit (.bool true)], args := [d] }
  | _ => none }
def fnExactParseAttributesRow : OpenClaim := { program := "ytgoggljmifjlfaa", sum := "b22c9b6d7c007f283aea1bc518ef242203e72f2f2ef928b3ac2a9d14d026867c", func := "loop.example/g01988/laws.FnExactParseAttributes", spec := "fnExactParseAttributes", apart := false }
def FnExactParseAttributesSaid : Prop := fnExactParseAttributesRow.holds Try.pinned (OpenSpec.ofChange fnExactParseAttributesSpec)

/-- ITS FALSE NEIGHBOUR: 'it returns false'. Refute it at one input. -/
def fnExactParseAttributesWrong : ChangeSpec := { name := "fnExactParseAttributes", fn := fun _ => fun
  | [d] => { results := [.lit (.bool false)], args := [d] }
  | _ => none }
def FnExactParseAttributesWrongFalsely : Prop := fnExactParseAttributesRow.holds Try.pinned (OpenSpec.ofChange fnExactParseAttributesWrong)

/-- 'laws.FnExactSameDeps': WHATEVER THE INPUT: true; the input reads as it did. -/
def fnExactSameDepsSpec : ChangeSpec := { name := "fnExactSameDeps", fn := fun _ => fun
  | [d1, d2] => { results := [.lit (.bool true)], args := [d1, d2] }
  | _ => none }
def fnExactSameDepsRow : OpenClaim := { program := "ytgoggljmifjlfaa", sum := "b22c9b6d7c007f283aea1bc518ef242203e72f2f2ef928b3ac2a9d14d026867c", func := "loop.example/g01988/laws.FnExactSameDeps", spec := "fnExactSameDeps", apart := false }
def FnExactSameDepsSaid : Prop := fnExactSameDepsRow.holds Try.pinned (OpenSpec.ofChange fnExactSameDepsSpec)

/-- ITS FALSE NEIGHBOUR: 'it returns false'. Refute it at one input. -/
def fnExactSameDepsWrong : ChangeSpec := { name := "fnExactSameDeps", fn := fun _ => fun
  | [d1, d2] => { results := [.lit (.bool false)], args := [d1, d2] }
  | _ => none }
def FnExactSameDepsWrongFalsely : Prop := fnExactSameDepsRow.holds Try.pinned (OpenSpec.ofChange fnExactSameDepsWrong)

/-- 'laws.FnExactFormatDep': WHATEVER THE INPUT: true; the input reads as it did. -/
def fnExactFormatDepSpec : ChangeSpec := { name := "fnExactFormatDep", fn := fun _ => fun
  | [d] => { results := [.lit (.bool true)], args := [d] }
  | _ => none }
def fnExactFormatDepRow : OpenClaim := { program := "ytgoggljmifjlfaa", sum := "b22c9b6d7c007f283aea1bc518ef242203e72f2f2ef928b3ac2a9d14d026867c", func := "loop.example/g01988/laws.FnExactFormatDep", spec := "fnExactFormatDep", apart := false }
def FnExactFormatDepSaid : Prop := fnExactFormatDepRow.holds Try.pinned (OpenSpec.ofChange fnExactFormatDepSpec)

/-- ITS FALSE NEIGHBOUR: 'it returns false'. Refute it at one input. -/
def fnExactFormatDepWrong : ChangeSpec := { name := "fnExactFormatDep", fn := fun _ => fun
  | [d] => { results := [.lit (.bool false)], args := [d] }
  | _ => none }
def FnExactFormatDepWrongFalsely : Prop := fnExactFormatDepRow.holds Try.pinned (OpenSpec.ofChange fnExactFormatDepWrong)

/-- 'laws.FnExactErrorOf': WHATEVER THE INPUT: true; the input reads as it did. -/
def fnExactErrorOfSpec : ChangeSpec := { name := "fnExactErrorOf", fn := fun _ => fun
  | [d] => { results := [.lit (.bool true)], args := [d] }
  | _ => none }
def fnExactErrorOfRow : OpenClaim := { program := "ytgoggljmifjlfaa", sum := "b22c9b6d7c007f283aea1bc518ef242203e72f2f2ef928b3ac2a9d14d026867c", func := "loop.example/g01988/laws.FnExactErrorOf", spec := "fnExactErrorOf", apart := false }
def FnExactErrorOfSaid : Prop := fnExactErrorOfRow.holds Try.pinned (OpenSpec.ofChange fnExactErrorOfSpec)

/-- ITS FALSE NEIGHBOUR: 'it returns false'. Refute it at one input. -/
def fnExactErrorOfWrong : ChangeSpec := { name := "fnExactErrorOf", fn := fun _ => fun
  | [d] => { results := [.lit (.bool false)], args := [d] }
  | _ => none }
def FnExactErrorOfWrongFalsely : Prop := fnExactErrorOfRow.holds Try.pinned (OpenSpec.ofChange fnExactErrorOfWrong)

/-- 'laws.FnExactIsPartition': WHATEVER THE INPUT: true; the input reads as it did. -/
def fnExactIsPartitionSpec : ChangeSpec := { name := "fnExactIsPartition", fn := fun _ => fun
  | [d1, d2] => { results := [.lit (.bool true)], args := [d1, d2] }
  | _ => none }
def fnExactIsPartitionRow : OpenClaim := { program := "ytgoggljmifjlfaa", sum := "b22c9b6d7c007f283aea1bc518ef242203e72f2f2ef928b3ac2a9d14d026867c", func := "loop.example/g01988/laws.FnExactIsPartition", spec := "fnExactIsPartition", apart := false }
def FnExactIsPartitionSaid : Prop := fnExactIsPartitionRow.holds Try.pinned (OpenSpec.ofChange fnExactIsPartitionSpec)

/-- ITS FALSE NEIGHBOUR: 'it returns false'. Refute it at one input. -/
def fnExactIsPartitionWrong : ChangeSpec := { name := "fnExactIsPartition", fn := fun _ => fun
  | [d1, d2] => { results := [.lit (.bool false)], args := [d1, d2] }
  | _ => none }
def FnExactIsPartitionWrongFalsely : Prop := fnExactIsPartitionRow.holds Try.pinned (OpenSpec.ofChange fnExactIsPartitionWrong)

/-- 'laws.FnExactIsTable': WHATEVER THE INPUT: true; the input reads as it did. -/
def fnExactIsTableSpec : ChangeSpec := { name := "fnExactIsTable", fn := fun _ => fun
  | [d] => { results := [.lit (.bool true)], args := [d] }
  | _ => none }
def fnExactIsTableRow : OpenClaim := { program := "ytgoggljmifjlfaa", sum := "b22c9b6d7c007f283aea1bc518ef242203e72f2f2ef928b3ac2a9d14d026867c", func := "loop.example/g01988/laws.FnExactIsTable", spec := "fnExactIsTable", apart := false }
def FnExactIsTableSaid : Prop := fnExactIsTableRow.holds Try.pinned (OpenSpec.ofChange fnExactIsTableSpec)

/-- ITS FALSE NEIGHBOUR: 'it returns false'. Refute it at one input. -/
def fnExactIsTableWrong : ChangeSpec := { name := "fnExactIsTable", fn := fun _ => fun
  | [d] => { results := [.lit (.bool false)], args := [d] }
  | _ => none }
def FnExactIsTableWrongFalsely : Prop := fnExactIsTableRow.holds Try.pinned (OpenSpec.ofChange fnExactIsTableWrong)

/-- 'laws.FnExactIsFiner': WHATEVER THE INPUT: true; the input reads as it did. -/
def fnExactIsFinerSpec : ChangeSpec := { name := "fnExactIsFiner", fn := fun _ => fun
  | [d1, d2] => { results := [.lit (.bool true)], args := [d1, d2] }
  | _ => none }
def fnExactIsFinerRow : OpenClaim := { program := "ytgoggljmifjlfaa", sum := "b22c9b6d7c007f283aea1bc518ef242203e72f2f2ef928b3ac2a9d14d026867c", func := "loop.example/g01988/laws.FnExactIsFiner", spec := "fnExactIsFiner", apart := false }
def FnExactIsFinerSaid : Prop := fnExactIsFinerRow.holds Try.pinned (OpenSpec.ofChange fnExactIsFinerSpec)

/-- ITS FALSE NEIGHBOUR: 'it returns false'. Refute it at one input. -/
def fnExactIsFinerWrong : ChangeSpec := { name := "fnExactIsFiner", fn := fun _ => fun
  | [d1, d2] => { results := [.lit (.bool false)], args := [d1, d2] }
  | _ => none }
def FnExactIsFinerWrongFalsely : Prop := fnExactIsFinerRow.holds Try.pinned (OpenSpec.ofChange fnExactIsFinerWrong)

/-- 'laws.FnExactEqualTables': WHATEVER THE INPUT: true; the input reads as it did. -/
def fnExactEqualTablesSpec : ChangeSpec := { name := "fnExactEqualTables", fn := fun _ => fun
  | [d1, d2] => { results := [.lit (.bool true)], args := [d1, d2] }
  | _ => none }
def fnExactEqualTablesRow : OpenClaim := { program := "ytgoggljmifjlfaa", sum := "b22c9b6d7c007f283aea1bc518ef242203e72f2f2ef928b3ac2a9d14d026867c", func := "loop.example/g01988/laws.FnExactEqualTables", spec := "fnExactEqualTables", unfollowed := true, recurses := true, apart := false }
def FnExactEqualTablesSaid : Prop := fnExactEqualTablesRow.holds Try.pinned (OpenSpec.ofChange fnExactEqualTablesSpec)

/-- ITS FALSE NEIGHBOUR: 'it returns false'. Refute it at one input. -/
def fnExactEqualTablesWrong : ChangeSpec := { name := "fnExactEqualTables", fn := fun _ => fun
  | [d1, d2] => { results := [.lit (.bool false)], args := [d1, d2] }
  | _ => none }
def FnExactEqualTablesWrongFalsely : Prop := fnExactEqualTablesRow.holds Try.pinned (OpenSpec.ofChange fnExactEqualTablesWrong)

/-- 'laws.FnExactColumnOf': WHATEVER THE INPUT: true; the input reads as it did. -/
def fnExactColumnOfSpec : ChangeSpec := { name := "fnExactColumnOf", fn := fun _ => fun
  | [d1, d2] => { results := [.lit (.bool true)], args := [d1, d2] }
  | _ => none }
def fnExactColumnOfRow : OpenClaim := { program := "ytgoggljmifjlfaa", sum := "b22c9b6d7c007f283aea1bc518ef242203e72f2f2ef928b3ac2a9d14d026867c", func := "loop.example/g01988/laws.FnExactColumnOf", spec := "fnExactColumnOf", apart := false }
def FnExactColumnOfSaid : Prop := fnExactColumnOfRow.holds Try.pinned (OpenSpec.ofChange fnExactColumnOfSpec)

/-- ITS FALSE NEIGHBOUR: 'it returns false'. Refute it at one input. -/
def fnExactColumnOfWrong : ChangeSpec := { name := "fnExactColumnOf", fn := fun _ => fun
  | [d1, d2] => { results := [.lit (.bool false)], args := [d1, d2] }
  | _ => none }
def FnExactColumnOfWrongFalsely : Prop := fnExactColumnOfRow.holds Try.pinned (OpenSpec.ofChange fnExactColumnOfWrong)

/-- 'laws.FnExactParseDep': WHATEVER THE INPUT: true; the input reads as it did. -/
def fnExactParseDepSpec : ChangeSpec := { name := "fnExactParseDep", fn := fun _ => fun
  | [d1, d2] => { results := [.lit (.bool true)], args := [d1, d2] }
  | _ => none }
def fnExactParseDepRow : OpenClaim := { program := "ytgoggljmifjlfaa", sum := "b22c9b6d7c007f283aea1bc518ef242203e72f2f2ef928b3ac2a9d14d026867c", func := "loop.example/g01988/laws.FnExactParseDep", spec := "fnExactParseDep", inPlace := ["internal/bytealg.IndexByteString", "internal/bytealg.IndexString"], named := ["internal/bytealg.MaxLen"], apart := false }
def FnExactParseDepSaid : Prop := fnExactParseDepRow.holds Try.pinned (OpenSpec.ofChange fnExactParseDepSpec)

/-- ITS FALSE NEIGHBOUR: 'it returns false'. Refute it at one input. -/
def fnExactParseDepWrong : ChangeSpec := { name := "fnExactParseDep", fn := fun _ => fun
  | [d1, d2] => { results := [.lit (.bool false)], args := [d1, d2] }
  | _ => none }
def FnExactParseDepWrongFalsely : Prop := fnExactParseDepRow.holds Try.pinned (OpenSpec.ofChange fnExactParseDepWrong)

/- THE SECOND FORM. 'bulk': how many values and letters a reading holds, each counted each time it is reached (what is shared counts as often as it is met; a slice's spare places count too). A statement '..UptoSaid' is the law's where the arguments, and the package variables that the reading takes, are together of bulk at most 1048576: NARROWER than '..Said'. Prove '..Said' where nothing that the law and all that it calls make is longer than what came in: it says more and counts as full. Else prove '..UptoSaid'. A law counts once. -/
mutual
def uptoBulk {H : Type} : DataW H → Nat
  | .lit (.string bytes) => bytes.length + 1
  | .lit _ => 1
  | .nil => 1
  | .ptr d => uptoBulk d + 1
  | .slice elems spare => uptoBulkAll elems + uptoBulkAll spare + 1
  | .agg parts => uptoBulkAll parts + 1
  | .iface _ d => uptoBulk d + 1
  | .map entries => uptoBulkEntries entries + 1
  | .held _ => 1
def uptoBulkAll {H : Type} : List (DataW H) → Nat
  | [] => 0
  | d :: r => uptoBulk d + uptoBulkAll r
def uptoBulkEntries {H : Type} : List (Lit × DataW H) → Nat
  | [] => 0
  | x :: r => uptoBulkEntry x + uptoBulkEntries r
def uptoBulkEntry {H : Type} : Lit × DataW H → Nat
  | (.string bytes, d) => bytes.length + uptoBulk d + 1
  | (_, d) => uptoBulk d + 1
 end
def uptoSmall : (H : Type) → List (DataW H) → Bool := fun _ ds => decide (uptoBulkAll ds ≤ 1048576)
def OpenSpec.upto (s : _root_.Go.ChangeSpec) : _root_.Go.OpenSpec := { _root_.Go.OpenSpec.ofChange s with cond := some uptoSmall }

/-- 'laws.FnExactFormatAttributes', WHERE WHAT IT READS IS OF BULK AT MOST 1048576: true; the input reads as it did. -/
def fnExactFormatAttributesUptoRow : OpenClaim := { program := "ytgoggljmifjlfaa", sum := "b22c9b6d7c007f283aea1bc518ef242203e72f2f2ef928b3ac2a9d14d026867c", func := "loop.example/g01988/laws.FnExactFormatAttributes", spec := "fnExactFormatAttributes", apart := false, narrowed := true }
def FnExactFormatAttributesUptoSaid : Prop := fnExactFormatAttributesUptoRow.holds Try.pinned (OpenSpec.upto fnExactFormatAttributesSpec)

/-- 'laws.FnExactMembers', WHERE WHAT IT READS IS OF BULK AT MOST 1048576: true; the input reads as it did. -/
def fnExactMembersUptoRow : OpenClaim := { program := "ytgoggljmifjlfaa", sum := "b22c9b6d7c007f283aea1bc518ef242203e72f2f2ef928b3ac2a9d14d026867c", func := "loop.example/g01988/laws.FnExactMembers", spec := "fnExactMembers", apart := false, narrowed := true }
def FnExactMembersUptoSaid : Prop := fnExactMembersUptoRow.holds Try.pinned (OpenSpec.upto fnExactMembersSpec)

/-- 'laws.FnExactParseAttributes', WHERE WHAT IT READS IS OF BULK AT MOST 1048576: true; the input reads as it did. -/
def fnExactParseAttributesUptoRow : OpenClaim := { program := "ytgoggljmifjlfaa", sum := "b22c9b6d7c007f283aea1bc518ef242203e72f2f2ef928b3ac2a9d14d026867c", func := "loop.example/g01988/laws.FnExactParseAttributes", spec := "fnExactParseAttributes", apart := false, narrowed := true }
def FnExactParseAttributesUptoSaid : Prop := fnExactParseAttributesUptoRow.holds Try.pinned (OpenSpec.upto fnExactParseAttributesSpec)

/-- 'laws.FnExactSameDeps', WHERE WHAT IT READS IS OF BULK AT MOST 1048576: true; the input reads as it did. -/
def fnExactSameDepsUptoRow : OpenClaim := { program := "ytgoggljmifjlfaa", sum := "b22c9b6d7c007f283aea1bc518ef242203e72f2f2ef928b3ac2a9d14d026867c", func := "loop.example/g01988/laws.FnExactSameDeps", spec := "fnExactSameDeps", apart := false, narrowed := true }
def FnExactSameDepsUptoSaid : Prop := fnExactSameDepsUptoRow.holds Try.pinned (OpenSpec.upto fnExactSameDepsSpec)

/-- 'laws.FnExactFormatDep', WHERE WHAT IT READS IS OF BULK AT MOST 1048576: true; the input reads as it did. -/
def fnExactFormatDepUptoRow : OpenClaim := { program := "ytgoggljmifjlfaa", sum := "b22c9b6d7c007f283aea1bc518ef242203e72f2f2ef928b3ac2a9d14d026867c", func := "loop.example/g01988/laws.FnExactFormatDep", spec := "fnExactFormatDep", apart := false, narrowed := true }
def FnExactFormatDepUptoSaid : Prop := fnExactFormatDepUptoRow.holds Try.pinned (OpenSpec.upto fnExactFormatDepSpec)

/-- 'laws.FnExactErrorOf', WHERE WHAT IT READS IS OF BULK AT MOST 1048576: true; the input reads as it did. -/
def fnExactErrorOfUptoRow : OpenClaim := { program := "ytgoggljmifjlfaa", sum := "b22c9b6d7c007f283aea1bc518ef242203e72f2f2ef928b3ac2a9d14d026867c", func := "loop.example/g01988/laws.FnExactErrorOf", spec := "fnExactErrorOf", apart := false, narrowed := true }
def FnExactErrorOfUptoSaid : Prop := fnExactErrorOfUptoRow.holds Try.pinned (OpenSpec.upto fnExactErrorOfSpec)

/-- 'laws.FnExactIsPartition', WHERE WHAT IT READS IS OF BULK AT MOST 1048576: true; the input reads as it did. -/
def fnExactIsPartitionUptoRow : OpenClaim := { program := "ytgoggljmifjlfaa", sum := "b22c9b6d7c007f283aea1bc518ef242203e72f2f2ef928b3ac2a9d14d026867c", func := "loop.example/g01988/laws.FnExactIsPartition", spec := "fnExactIsPartition", apart := false, narrowed := true }
def FnExactIsPartitionUptoSaid : Prop := fnExactIsPartitionUptoRow.holds Try.pinned (OpenSpec.upto fnExactIsPartitionSpec)

/-- 'laws.FnExactIsTable', WHERE WHAT IT READS IS OF BULK AT MOST 1048576: true; the input reads as it did. -/
def fnExactIsTableUptoRow : OpenClaim := { program := "ytgoggljmifjlfaa", sum := "b22c9b6d7c007f283aea1bc518ef242203e72f2f2ef928b3ac2a9d14d026867c", func := "loop.example/g01988/laws.FnExactIsTable", spec := "fnExactIsTable", apart := false, narrowed := true }
def FnExactIsTableUptoSaid : Prop := fnExactIsTableUptoRow.holds Try.pinned (OpenSpec.upto fnExactIsTableSpec)

/-- 'laws.FnExactIsFiner', WHERE WHAT IT READS IS OF BULK AT MOST 1048576: true; the input reads as it did. -/
def fnExactIsFinerUptoRow : OpenClaim := { program := "ytgoggljmifjlfaa", sum := "b22c9b6d7c007f283aea1bc518ef242203e72f2f2ef928b3ac2a9d14d026867c", func := "loop.example/g01988/laws.FnExactIsFiner", spec := "fnExactIsFiner", apart := false, narrowed := true }
def FnExactIsFinerUptoSaid : Prop := fnExactIsFinerUptoRow.holds Try.pinned (OpenSpec.upto fnExactIsFinerSpec)

/-- 'laws.FnExactEqualTables', WHERE WHAT IT READS IS OF BULK AT MOST 1048576: true; the input reads as it did. -/
def fnExactEqualTablesUptoRow : OpenClaim := { program := "ytgoggljmifjlfaa", sum := "b22c9b6d7c007f283aea1bc518ef242203e72f2f2ef928b3ac2a9d14d026867c", func := "loop.example/g01988/laws.FnExactEqualTables", spec := "fnExactEqualTables", unfollowed := true, recurses := true, apart := false, narrowed := true }
def FnExactEqualTablesUptoSaid : Prop := fnExactEqualTablesUptoRow.holds Try.pinned (OpenSpec.upto fnExactEqualTablesSpec)

/-- 'laws.FnExactColumnOf', WHERE WHAT IT READS IS OF BULK AT MOST 1048576: true; the input reads as it did. -/
def fnExactColumnOfUptoRow : OpenClaim := { program := "ytgoggljmifjlfaa", sum := "b22c9b6d7c007f283aea1bc518ef242203e72f2f2ef928b3ac2a9d14d026867c", func := "loop.example/g01988/laws.FnExactColumnOf", spec := "fnExactColumnOf", apart := false, narrowed := true }
def FnExactColumnOfUptoSaid : Prop := fnExactColumnOfUptoRow.holds Try.pinned (OpenSpec.upto fnExactColumnOfSpec)

/-- 'laws.FnExactParseDep', WHERE WHAT IT READS IS OF BULK AT MOST 1048576: true; the input reads as it did. -/
def fnExactParseDepUptoRow : OpenClaim := { program := "ytgoggljmifjlfaa", sum := "b22c9b6d7c007f283aea1bc518ef242203e72f2f2ef928b3ac2a9d14d026867c", func := "loop.example/g01988/laws.FnExactParseDep", spec := "fnExactParseDep", inPlace := ["internal/bytealg.IndexByteString", "internal/bytealg.IndexString"], named := ["internal/bytealg.MaxLen"], apart := false, narrowed := true }
def FnExactParseDepUptoSaid : Prop := fnExactParseDepUptoRow.holds Try.pinned (OpenSpec.upto fnExactParseDepSpec)

end Rows
end Go.Proofs.Ytgoggljmifjlfaa
