/-
  No cell of these rows narrows 'for every input' (looked for: loops, veiled, ifaces, maps, wideKeys, modest, calm, conditions, laid).
  DERIVED. THE GIVEN ROWS OF THIS SEAT. 9 by the template 'for every input the law returns true; each argument reads behind the call as it read before'; 0 by the template 'total and deterministic' (their statements: YtflmojjpdmbnaaaTotals.lean).
  GIVEN WITH THE SEED: the statements are not yours to turn. If you find one false, say at which input.
  Laid BY PROGRAM, IN A SANDBOX (cutbox-rows.mjs): the forced cells as the released guide's own fill.sh prints them over the translation 925b55ffb1bf3723… (all of the seat's roots in one cut). By AI agents, Wed Nov 11 2026. No macro, syntax, notation, axiom, sorry.
-/
import Derived.Test.YtflmojjpdmbnaaaChecked
import GoSem.Claim
import GoSem.ClaimJoined
import GoSem.ClaimMapViews
import Derived.JoinedTies
import Derived.KernelRfl
namespace Go.Proofs.Ytflmojjpdmbnaaa
/- THE CELL 'sum', in the pinned program and in every row, IS THE sha256 OF THE DUMP (.gsa) THAT YtflmojjpdmbnaaaProg.lean LOADS. Nothing in Lean hashes anything: it is a label: what it is worth is what the hold of that sum in a sandbox is worth. -/
noncomputable def Try.pinned : Pinned := { name := "ytflmojjpdmbnaaa", sum := "925b55ffb1bf37232be10e723d06e3218bfed117ffa403f4ed27f1cdd1fc74e9", checked := Try.checked }
namespace Rows
def none {H : Type} : Left H := { results := [], args := [] }

/-- 'gaugerlaw04.LabelTells': WHATEVER THE INPUT: true; the input reads as it did. -/
def labelTellsSpec : ChangeSpec := { name := "labelTells", fn := fun _ => fun
  | [d1, d2] => { results := [.lit (.bool true)], args := [d1, d2] }
  | _ => none }
def labelTellsRow : OpenClaim := { program := "ytflmojjpdmbnaaa", sum := "925b55ffb1bf37232be10e723d06e3218bfed117ffa403f4ed27f1cdd1fc74e9", func := "gauger/gaugerlaw04.LabelTells", spec := "labelTells", inPlace := ["internal/bytealg.abigen_runtime_cmpstring"], unfollowed := true, recurses := true, apart := false }
def LabelTellsSaid : Prop := labelTellsRow.holds Try.pinned (OpenSpec.ofChange labelTellsSpec)

/-- ITS FALSE NEIGHBOUR: 'it returns false'. Refute it at one input. -/
def labelTellsWrong : ChangeSpec := { name := "labelTells", fn := fun _ => fun
  | [d1, d2] => { results := [.lit (.bool false)], args := [d1, d2] }
  | _ => none }
def LabelTellsWrongFalsely : Prop := labelTellsRow.holds Try.pinned (OpenSpec.ofChange labelTellsWrong)

/-- 'gaugerlaw04.LabelOrder': WHATEVER THE INPUT: true; the input reads as it did. -/
def labelOrderSpec : ChangeSpec := { name := "labelOrder", fn := fun _ => fun
  | [d1, d2] => { results := [.lit (.bool true)], args := [d1, d2] }
  | _ => none }
def labelOrderRow : OpenClaim := { program := "ytflmojjpdmbnaaa", sum := "925b55ffb1bf37232be10e723d06e3218bfed117ffa403f4ed27f1cdd1fc74e9", func := "gauger/gaugerlaw04.LabelOrder", spec := "labelOrder", inPlace := ["internal/bytealg.abigen_runtime_cmpstring"], unfollowed := true, recurses := true, apart := false }
def LabelOrderSaid : Prop := labelOrderRow.holds Try.pinned (OpenSpec.ofChange labelOrderSpec)

/-- ITS FALSE NEIGHBOUR: 'it returns false'. Refute it at one input. -/
def labelOrderWrong : ChangeSpec := { name := "labelOrder", fn := fun _ => fun
  | [d1, d2] => { results := [.lit (.bool false)], args := [d1, d2] }
  | _ => none }
def LabelOrderWrongFalsely : Prop := labelOrderRow.holds Try.pinned (OpenSpec.ofChange labelOrderWrong)

/-- 'gaugerlaw04.LabelMerges': WHATEVER THE INPUT: true; the input reads as it did. -/
def labelMergesSpec : ChangeSpec := { name := "labelMerges", fn := fun _ => fun
  | [d1, d2] => { results := [.lit (.bool true)], args := [d1, d2] }
  | _ => none }
def labelMergesRow : OpenClaim := { program := "ytflmojjpdmbnaaa", sum := "925b55ffb1bf37232be10e723d06e3218bfed117ffa403f4ed27f1cdd1fc74e9", func := "gauger/gaugerlaw04.LabelMerges", spec := "labelMerges", inPlace := ["internal/bytealg.abigen_runtime_cmpstring"], unfollowed := true, recurses := true, apart := false }
def LabelMergesSaid : Prop := labelMergesRow.holds Try.pinned (OpenSpec.ofChange labelMergesSpec)

/-- ITS FALSE NEIGHBOUR: 'it returns false'. Refute it at one input. -/
def labelMergesWrong : ChangeSpec := { name := "labelMerges", fn := fun _ => fun
  | [d1, d2] => { results := [.lit (.bool false)], args := [d1, d2] }
  | _ => none }
def LabelMergesWrongFalsely : Prop := labelMergesRow.holds Try.pinned (OpenSpec.ofChange labelMergesWrong)

/-- 'gaugerlaw04.LabelExports': WHATEVER THE INPUT: true; the input reads as it did. -/
def labelExportsSpec : ChangeSpec := { name := "labelExports", fn := fun _ => fun
  | [d1, d2] => { results := [.lit (.bool true)], args := [d1, d2] }
  | _ => none }
def labelExportsRow : OpenClaim := { program := "ytflmojjpdmbnaaa", sum := "925b55ffb1bf37232be10e723d06e3218bfed117ffa403f4ed27f1cdd1fc74e9", func := "gauger/gaugerlaw04.LabelExports", spec := "labelExports", inPlace := ["internal/bytealg.abigen_runtime_cmpstring"], unfollowed := true, recurses := true, apart := false }
def LabelExportsSaid : Prop := labelExportsRow.holds Try.pinned (OpenSpec.ofChange labelExportsSpec)

/-- ITS FALSE NEIGHBOUR: 'it returns false'. Refute it at one input. -/
def labelExportsWrong : ChangeSpec := { name := "labelExports", fn := fun _ => fun
  | [d1, d2] => { results := [.lit (.bool false)], args := [d1, d2] }
  | _ => none }
def LabelExportsWrongFalsely : Prop := labelExportsRow.holds Try.pinned (OpenSpec.ofChange labelExportsWrong)

/-- 'gaugerlaw04.LabelCompares': WHATEVER THE INPUT: true; the input reads as it did. -/
def labelComparesSpec : ChangeSpec := { name := "labelCompares", fn := fun _ => fun
  | [d1, d2, d3] => { results := [.lit (.bool true)], args := [d1, d2, d3] }
  | _ => none }
def labelComparesRow : OpenClaim := { program := "ytflmojjpdmbnaaa", sum := "925b55ffb1bf37232be10e723d06e3218bfed117ffa403f4ed27f1cdd1fc74e9", func := "gauger/gaugerlaw04.LabelCompares", spec := "labelCompares", inPlace := ["internal/bytealg.abigen_runtime_cmpstring"], unfollowed := true, recurses := true, apart := false }
def LabelComparesSaid : Prop := labelComparesRow.holds Try.pinned (OpenSpec.ofChange labelComparesSpec)

/-- ITS FALSE NEIGHBOUR: 'it returns false'. Refute it at one input. -/
def labelComparesWrong : ChangeSpec := { name := "labelCompares", fn := fun _ => fun
  | [d1, d2, d3] => { results := [.lit (.bool false)], args := [d1, d2, d3] }
  | _ => none }
def LabelComparesWrongFalsely : Prop := labelComparesRow.holds Try.pinned (OpenSpec.ofChange labelComparesWrong)

/-- 'gaugerlaw04.LabelChanges': WHATEVER THE INPUT: true; the input reads as it did. -/
def labelChangesSpec : ChangeSpec := { name := "labelChanges", fn := fun _ => fun
  | [d1, d2, d3, d4] => { results := [.lit (.bool true)], args := [d1, d2, d3, d4] }
  | _ => none }
def labelChangesRow : OpenClaim := { program := "ytflmojjpdmbnaaa", sum := "925b55ffb1bf37232be10e723d06e3218bfed117ffa403f4ed27f1cdd1fc74e9", func := "gauger/gaugerlaw04.LabelChanges", spec := "labelChanges", inPlace := ["internal/bytealg.abigen_runtime_cmpstring"], unfollowed := true, recurses := true, apart := false }
def LabelChangesSaid : Prop := labelChangesRow.holds Try.pinned (OpenSpec.ofChange labelChangesSpec)

/-- ITS FALSE NEIGHBOUR: 'it returns false'. Refute it at one input. -/
def labelChangesWrong : ChangeSpec := { name := "labelChanges", fn := fun _ => fun
  | [d1, d2, d3, d4] => { results := [.lit (.bool false)], args := [d1, d2, d3, d4] }
  | _ => none }
def LabelChangesWrongFalsely : Prop := labelChangesRow.holds Try.pinned (OpenSpec.ofChange labelChangesWrong)

/-- 'gaugerlaw04.LabelParts': WHATEVER THE INPUT: true; the input reads as it did. -/
def labelPartsSpec : ChangeSpec := { name := "labelParts", fn := fun _ => fun
  | [d1, d2, d3] => { results := [.lit (.bool true)], args := [d1, d2, d3] }
  | _ => none }
def labelPartsRow : OpenClaim := { program := "ytflmojjpdmbnaaa", sum := "925b55ffb1bf37232be10e723d06e3218bfed117ffa403f4ed27f1cdd1fc74e9", func := "gauger/gaugerlaw04.LabelParts", spec := "labelParts", inPlace := ["internal/bytealg.abigen_runtime_cmpstring"], unfollowed := true, recurses := true, apart := false }
def LabelPartsSaid : Prop := labelPartsRow.holds Try.pinned (OpenSpec.ofChange labelPartsSpec)

/-- ITS FALSE NEIGHBOUR: 'it returns false'. Refute it at one input. -/
def labelPartsWrong : ChangeSpec := { name := "labelParts", fn := fun _ => fun
  | [d1, d2, d3] => { results := [.lit (.bool false)], args := [d1, d2, d3] }
  | _ => none }
def LabelPartsWrongFalsely : Prop := labelPartsRow.holds Try.pinned (OpenSpec.ofChange labelPartsWrong)

/-- 'gaugerlaw04.LabelSets': WHATEVER THE INPUT: true; the input reads as it did. -/
def labelSetsSpec : ChangeSpec := { name := "labelSets", fn := fun _ => fun
  | [d1, d2] => { results := [.lit (.bool true)], args := [d1, d2] }
  | _ => none }
def labelSetsRow : OpenClaim := { program := "ytflmojjpdmbnaaa", sum := "925b55ffb1bf37232be10e723d06e3218bfed117ffa403f4ed27f1cdd1fc74e9", func := "gauger/gaugerlaw04.LabelSets", spec := "labelSets", inPlace := ["internal/bytealg.abigen_runtime_cmpstring", "internal/abi.NoEscape", "internal/bytealg.MakeNoZero"], unfollowed := true, recurses := true, apart := false }
def LabelSetsSaid : Prop := labelSetsRow.holds Try.pinned (OpenSpec.ofChange labelSetsSpec)

/-- ITS FALSE NEIGHBOUR: 'it returns false'. Refute it at one input. -/
def labelSetsWrong : ChangeSpec := { name := "labelSets", fn := fun _ => fun
  | [d1, d2] => { results := [.lit (.bool false)], args := [d1, d2] }
  | _ => none }
def LabelSetsWrongFalsely : Prop := labelSetsRow.holds Try.pinned (OpenSpec.ofChange labelSetsWrong)

/-- 'gaugerlaw04.LabelWrong': WHATEVER THE INPUT: true; the input reads as it did. -/
def labelWrongSpec : ChangeSpec := { name := "labelWrong", fn := fun _ => fun
  | [d1, d2, d3] => { results := [.lit (.bool true)], args := [d1, d2, d3] }
  | _ => none }
def labelWrongRow : OpenClaim := { program := "ytflmojjpdmbnaaa", sum := "925b55ffb1bf37232be10e723d06e3218bfed117ffa403f4ed27f1cdd1fc74e9", func := "gauger/gaugerlaw04.LabelWrong", spec := "labelWrong", inPlace := ["internal/bytealg.abigen_runtime_cmpstring", "internal/abi.NoEscape", "internal/bytealg.MakeNoZero"], unfollowed := true, recurses := true, apart := false }
def LabelWrongSaid : Prop := labelWrongRow.holds Try.pinned (OpenSpec.ofChange labelWrongSpec)

/-- ITS FALSE NEIGHBOUR: 'it returns false'. Refute it at one input. -/
def labelWrongWrong : ChangeSpec := { name := "labelWrong", fn := fun _ => fun
  | [d1, d2, d3] => { results := [.lit (.bool false)], args := [d1, d2, d3] }
  | _ => none }
def LabelWrongWrongFalsely : Prop := labelWrongRow.holds Try.pinned (OpenSpec.ofChange labelWrongWrong)

/- THE SECOND FORM. 'bulk': how many values and letters a reading holds, each counted each time it is reached (what is shared counts as often as it is met; a slice's spare places count too). A statement '..UptoSaid' is the law's where the arguments, and the package variables that the reading takes, are together of bulk at most 1048576: NARROWER than '..Said'. Prove '..Said' where nothing that the law and all that it calls make is longer than what came in: it says more and counts as full. Else prove '..UptoSaid'. A law counts once. -/
mutual
def uptoBulk {H : Type} : DataW H → Nat
  | .lit (.string bytes) => bytes.length + 1
  | .lit _ => 1
  | .nil => 1
  | .ptr d => uptoBulk d + 1
  | .slice elems spare => uptoBulkAll elems + uptoBulkAll spare + 1
  | .agg parts => uptoBulkAll parts + 1
  | .iface _ d => uptoBulk d + 1
  | .map entries => uptoBulkEntries entries + 1
  | .held _ => 1
def uptoBulkAll {H : Type} : List (DataW H) → Nat
  | [] => 0
  | d :: r => uptoBulk d + uptoBulkAll r
def uptoBulkEntries {H : Type} : List (Lit × DataW H) → Nat
  | [] => 0
  | x :: r => uptoBulkEntry x + uptoBulkEntries r
def uptoBulkEntry {H : Type} : Lit × DataW H → Nat
  | (.string bytes, d) => bytes.length + uptoBulk d + 1
  | (_, d) => uptoBulk d + 1
 end
def uptoSmall : (H : Type) → List (DataW H) → Bool := fun _ ds => decide (uptoBulkAll ds ≤ 1048576)
def OpenSpec.upto (s : _root_.Go.ChangeSpec) : _root_.Go.OpenSpec := { _root_.Go.OpenSpec.ofChange s with cond := some uptoSmall }

/-- 'gaugerlaw04.LabelTells', WHERE WHAT IT READS IS OF BULK AT MOST 1048576: true; the input reads as it did. -/
def labelTellsUptoRow : OpenClaim := { program := "ytflmojjpdmbnaaa", sum := "925b55ffb1bf37232be10e723d06e3218bfed117ffa403f4ed27f1cdd1fc74e9", func := "gauger/gaugerlaw04.LabelTells", spec := "labelTells", inPlace := ["internal/bytealg.abigen_runtime_cmpstring"], unfollowed := true, recurses := true, apart := false, narrowed := true }
def LabelTellsUptoSaid : Prop := labelTellsUptoRow.holds Try.pinned (OpenSpec.upto labelTellsSpec)

/-- 'gaugerlaw04.LabelOrder', WHERE WHAT IT READS IS OF BULK AT MOST 1048576: true; the input reads as it did. -/
def labelOrderUptoRow : OpenClaim := { program := "ytflmojjpdmbnaaa", sum := "925b55ffb1bf37232be10e723d06e3218bfed117ffa403f4ed27f1cdd1fc74e9", func := "gauger/gaugerlaw04.LabelOrder", spec := "labelOrder", inPlace := ["internal/bytealg.abigen_runtime_cmpstring"], unfollowed := true, recurses := true, apart := false, narrowed := true }
def LabelOrderUptoSaid : Prop := labelOrderUptoRow.holds Try.pinned (OpenSpec.upto labelOrderSpec)

/-- 'gaugerlaw04.LabelMerges', WHERE WHAT IT READS IS OF BULK AT MOST 1048576: true; the input reads as it did. -/
def labelMergesUptoRow : OpenClaim := { program := "ytflmojjpdmbnaaa", sum := "925b55ffb1bf37232be10e723d06e3218bfed117ffa403f4ed27f1cdd1fc74e9", func := "gauger/gaugerlaw04.LabelMerges", spec := "labelMerges", inPlace := ["internal/bytealg.abigen_runtime_cmpstring"], unfollowed := true, recurses := true, apart := false, narrowed := true }
def LabelMergesUptoSaid : Prop := labelMergesUptoRow.holds Try.pinned (OpenSpec.upto labelMergesSpec)

/-- 'gaugerlaw04.LabelExports', WHERE WHAT IT READS IS OF BULK AT MOST 1048576: true; the input reads as it did. -/
def labelExportsUptoRow : OpenClaim := { program := "ytflmojjpdmbnaaa", sum := "925b55ffb1bf37232be10e723d06e3218bfed117ffa403f4ed27f1cdd1fc74e9", func := "gauger/gaugerlaw04.LabelExports", spec := "labelExports", inPlace := ["internal/bytealg.abigen_runtime_cmpstring"], unfollowed := true, recurses := true, apart := false, narrowed := true }
def LabelExportsUptoSaid : Prop := labelExportsUptoRow.holds Try.pinned (OpenSpec.upto labelExportsSpec)

/-- 'gaugerlaw04.LabelCompares', WHERE WHAT IT READS IS OF BULK AT MOST 1048576: true; the input reads as it did. -/
def labelComparesUptoRow : OpenClaim := { program := "ytflmojjpdmbnaaa", sum := "925b55ffb1bf37232be10e723d06e3218bfed117ffa403f4ed27f1cdd1fc74e9", func := "gauger/gaugerlaw04.LabelCompares", spec := "labelCompares", inPlace := ["internal/bytealg.abigen_runtime_cmpstring"], unfollowed := true, recurses := true, apart := false, narrowed := true }
def LabelComparesUptoSaid : Prop := labelComparesUptoRow.holds Try.pinned (OpenSpec.upto labelComparesSpec)

/-- 'gaugerlaw04.LabelChanges', WHERE WHAT IT READS IS OF BULK AT MOST 1048576: true; the input reads as it did. -/
def labelChangesUptoRow : OpenClaim := { program := "ytflmojjpdmbnaaa", sum := "925b55ffb1bf37232be10e723d06e3218bfed117ffa403f4ed27f1cdd1fc74e9", func := "gauger/gaugerlaw04.LabelChanges", spec := "labelChanges", inPlace := ["internal/bytealg.abigen_runtime_cmpstring"], unfollowed := true, recurses := true, apart := false, narrowed := true }
def LabelChangesUptoSaid : Prop := labelChangesUptoRow.holds Try.pinned (OpenSpec.upto labelChangesSpec)

/-- 'gaugerlaw04.LabelParts', WHERE WHAT IT READS IS OF BULK AT MOST 1048576: true; the input reads as it did. -/
def labelPartsUptoRow : OpenClaim := { program := "ytflmojjpdmbnaaa", sum := "925b55ffb1bf37232be10e723d06e3218bfed117ffa403f4ed27f1cdd1fc74e9", func := "gauger/gaugerlaw04.LabelParts", spec := "labelParts", inPlace := ["internal/bytealg.abigen_runtime_cmpstring"], unfollowed := true, recurses := true, apart := false, narrowed := true }
def LabelPartsUptoSaid : Prop := labelPartsUptoRow.holds Try.pinned (OpenSpec.upto labelPartsSpec)

/-- 'gaugerlaw04.LabelSets', WHERE WHAT IT READS IS OF BULK AT MOST 1048576: true; the input reads as it did. -/
def labelSetsUptoRow : OpenClaim := { program := "ytflmojjpdmbnaaa", sum := "925b55ffb1bf37232be10e723d06e3218bfed117ffa403f4ed27f1cdd1fc74e9", func := "gauger/gaugerlaw04.LabelSets", spec := "labelSets", inPlace := ["internal/bytealg.abigen_runtime_cmpstring", "internal/abi.NoEscape", "internal/bytealg.MakeNoZero"], unfollowed := true, recurses := true, apart := false, narrowed := true }
def LabelSetsUptoSaid : Prop := labelSetsUptoRow.holds Try.pinned (OpenSpec.upto labelSetsSpec)

/-- 'gaugerlaw04.LabelWrong', WHERE WHAT IT READS IS OF BULK AT MOST 1048576: true; the input reads as it did. -/
def labelWrongUptoRow : OpenClaim := { program := "ytflmojjpdmbnaaa", sum := "925b55ffb1bf37232be10e723d06e3218bfed117ffa403f4ed27f1cdd1fc74e9", func := "gauger/gaugerlaw04.LabelWrong", spec := "labelWrong", inPlace := ["internal/bytealg.abigen_runtime_cmpstring", "internal/abi.NoEscape", "internal/bytealg.MakeNoZero"], unfollowed := true, recurses := true, apart := false, narrowed := true }
def LabelWrongUptoSaid : Prop := labelWrongUptoRow.holds Try.pinned (OpenSpec.upto labelWrongSpec)

end Rows
end Go.Proofs.Ytflmojjpdmbnaaa
