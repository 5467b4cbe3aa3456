/-
  No cell of these rows narrows 'for every input' (looked for: loops, veiled, ifaces, maps, wideKeys, modest, calm, conditions, laid).
  DERIVED. THE GIVEN ROWS OF THIS SEAT. 7 by the template 'for every input the law returns true; each argument reads behind the call as it read before'; 0 by the template 'total and deterministic' (their statements: YtnognmgmhhbbiaaTotals.lean).
  GIVEN WITH THE SEED: the statements are not yours to turn. If you find one false, say at which input.
  Laid BY PROGRAM, IN A SANDBOX (cutbox-rows.mjs): the forced cells as the released guide's own fill.sh prints them over the translation f3de22c662033d65… (all of the seat's roots in one cut). By AI agents, Wed Nov 11 2026. No macro, syntax, notation, axiom, sorry.
-/
import Derived.Test.YtnognmgmhhbbiaaChecked
import GoSem.Claim
import GoSem.ClaimJoined
import GoSem.ClaimMapViews
import Derived.JoinedTies
import Derived.KernelRfl
namespace Go.Proofs.Ytnognmgmhhbbiaa
/- THE CELL 'sum', in the pinned program and in every row, IS THE sha256 OF THE DUMP (.gsa) THAT YtnognmgmhhbbiaaProg.lean LOADS. Nothing in Lean hashes anything: it is a label: what it is worth is what the hold of that sum in a sandbox is worth. -/
noncomputable def Try.pinned : Pinned := { name := "ytnognmgmhhbbiaa", sum := "f3de22c662033d65f4b405528287b846cb0640164344f127bb74f922673bf2fc", checked := Try.checked }
namespace Rows
def none {H : Type} : Left H := { results := [], args := [] }

/-- 'gaugerlaw22.EscapeEnds': WHATEVER THE INPUT: true; the input reads as it did. -/
def escapeEndsSpec : ChangeSpec := { name := "escapeEnds", fn := fun _ => fun
  | [d1, d2, d3, d4] => { results := [.lit (.bool true)], args := [d1, d2, d3, d4] }
  | _ => none }
def escapeEndsRow : OpenClaim := { program := "ytnognmgmhhbbiaa", sum := "f3de22c662033d65f4b405528287b846cb0640164344f127bb74f922673bf2fc", func := "gauger/gaugerlaw22.EscapeEnds", spec := "escapeEnds", inPlace := ["internal/abi.NoEscape"], unfollowed := true, recurses := true, apart := false }
def EscapeEndsSaid : Prop := escapeEndsRow.holds Try.pinned (OpenSpec.ofChange escapeEndsSpec)

/-- ITS FALSE NEIGHBOUR: 'it returns false'. Refute it at one input. -/
def escapeEndsWrong : ChangeSpec := { name := "escapeEnds", fn := fun _ => fun
  | [d1, d2, d3, d4] => { results := [.lit (.bool false)], args := [d1, d2, d3, d4] }
  | _ => none }
def EscapeEndsWrongFalsely : Prop := escapeEndsRow.holds Try.pinned (OpenSpec.ofChange escapeEndsWrong)

/-- 'gaugerlaw22.EscapeWrong': WHATEVER THE INPUT: true; the input reads as it did. -/
def escapeWrongSpec : ChangeSpec := { name := "escapeWrong", fn := fun _ => fun
  | [d1, d2, d3] => { results := [.lit (.bool true)], args := [d1, d2, d3] }
  | _ => none }
def escapeWrongRow : OpenClaim := { program := "ytnognmgmhhbbiaa", sum := "f3de22c662033d65f4b405528287b846cb0640164344f127bb74f922673bf2fc", func := "gauger/gaugerlaw22.EscapeWrong", spec := "escapeWrong", inPlace := ["internal/abi.NoEscape"], unfollowed := true, recurses := true, apart := false }
def EscapeWrongSaid : Prop := escapeWrongRow.holds Try.pinned (OpenSpec.ofChange escapeWrongSpec)

/-- ITS FALSE NEIGHBOUR: 'it returns false'. Refute it at one input. -/
def escapeWrongWrong : ChangeSpec := { name := "escapeWrong", fn := fun _ => fun
  | [d1, d2, d3] => { results := [.lit (.bool false)], args := [d1, d2, d3] }
  | _ => none }
def EscapeWrongWrongFalsely : Prop := escapeWrongRow.holds Try.pinned (OpenSpec.ofChange escapeWrongWrong)

/-- 'gaugerlaw22.EscapeClean': WHATEVER THE INPUT: true; the input reads as it did. -/
def escapeCleanSpec : ChangeSpec := { name := "escapeClean", fn := fun _ => fun
  | [d] => { results := [.lit (.bool true)], args := [d] }
  | _ => none }
def escapeCleanRow : OpenClaim := { program := "ytnognmgmhhbbiaa", sum := "f3de22c662033d65f4b405528287b846cb0640164344f127bb74f922673bf2fc", func := "gauger/gaugerlaw22.EscapeClean", spec := "escapeClean", inPlace := ["internal/abi.NoEscape"], unfollowed := true, recurses := true, apart := false }
def EscapeCleanSaid : Prop := escapeCleanRow.holds Try.pinned (OpenSpec.ofChange escapeCleanSpec)

/-- ITS FALSE NEIGHBOUR: 'it returns false'. Refute it at one input. -/
def escapeCleanWrong : ChangeSpec := { name := "escapeClean", fn := fun _ => fun
  | [d] => { results := [.lit (.bool false)], args := [d] }
  | _ => none }
def EscapeCleanWrongFalsely : Prop := escapeCleanRow.holds Try.pinned (OpenSpec.ofChange escapeCleanWrong)

/-- 'gaugerlaw22.EscapeBack': WHATEVER THE INPUT: true; the input reads as it did. -/
def escapeBackSpec : ChangeSpec := { name := "escapeBack", fn := fun _ => fun
  | [d1, d2] => { results := [.lit (.bool true)], args := [d1, d2] }
  | _ => none }
def escapeBackRow : OpenClaim := { program := "ytnognmgmhhbbiaa", sum := "f3de22c662033d65f4b405528287b846cb0640164344f127bb74f922673bf2fc", func := "gauger/gaugerlaw22.EscapeBack", spec := "escapeBack", inPlace := ["internal/abi.NoEscape", "internal/bytealg.IndexByteString", "internal/bytealg.IndexString"], unfollowed := true, recurses := true, named := ["internal/bytealg.MaxLen"], apart := false }
def EscapeBackSaid : Prop := escapeBackRow.holds Try.pinned (OpenSpec.ofChange escapeBackSpec)

/-- ITS FALSE NEIGHBOUR: 'it returns false'. Refute it at one input. -/
def escapeBackWrong : ChangeSpec := { name := "escapeBack", fn := fun _ => fun
  | [d1, d2] => { results := [.lit (.bool false)], args := [d1, d2] }
  | _ => none }
def EscapeBackWrongFalsely : Prop := escapeBackRow.holds Try.pinned (OpenSpec.ofChange escapeBackWrong)

/-- 'gaugerlaw22.EscapeCounts': WHATEVER THE INPUT: true; the input reads as it did. -/
def escapeCountsSpec : ChangeSpec := { name := "escapeCounts", fn := fun _ => fun
  | [d1, d2] => { results := [.lit (.bool true)], args := [d1, d2] }
  | _ => none }
def escapeCountsRow : OpenClaim := { program := "ytnognmgmhhbbiaa", sum := "f3de22c662033d65f4b405528287b846cb0640164344f127bb74f922673bf2fc", func := "gauger/gaugerlaw22.EscapeCounts", spec := "escapeCounts", inPlace := ["internal/abi.NoEscape", "internal/bytealg.CountString", "internal/bytealg.IndexByteString", "internal/bytealg.IndexString"], unfollowed := true, recurses := true, named := ["internal/bytealg.MaxLen"], apart := false }
def EscapeCountsSaid : Prop := escapeCountsRow.holds Try.pinned (OpenSpec.ofChange escapeCountsSpec)

/-- ITS FALSE NEIGHBOUR: 'it returns false'. Refute it at one input. -/
def escapeCountsWrong : ChangeSpec := { name := "escapeCounts", fn := fun _ => fun
  | [d1, d2] => { results := [.lit (.bool false)], args := [d1, d2] }
  | _ => none }
def EscapeCountsWrongFalsely : Prop := escapeCountsRow.holds Try.pinned (OpenSpec.ofChange escapeCountsWrong)

/-- 'gaugerlaw22.EscapeTells': WHATEVER THE INPUT: true; the input reads as it did. -/
def escapeTellsSpec : ChangeSpec := { name := "escapeTells", fn := fun _ => fun
  | [d1, d2] => { results := [.lit (.bool true)], args := [d1, d2] }
  | _ => none }
def escapeTellsRow : OpenClaim := { program := "ytnognmgmhhbbiaa", sum := "f3de22c662033d65f4b405528287b846cb0640164344f127bb74f922673bf2fc", func := "gauger/gaugerlaw22.EscapeTells", spec := "escapeTells", inPlace := ["internal/abi.NoEscape", "internal/bytealg.CountString", "internal/bytealg.IndexByteString", "internal/bytealg.IndexString"], unfollowed := true, recurses := true, named := ["internal/bytealg.MaxLen"], apart := false }
def EscapeTellsSaid : Prop := escapeTellsRow.holds Try.pinned (OpenSpec.ofChange escapeTellsSpec)

/-- ITS FALSE NEIGHBOUR: 'it returns false'. Refute it at one input. -/
def escapeTellsWrong : ChangeSpec := { name := "escapeTells", fn := fun _ => fun
  | [d1, d2] => { results := [.lit (.bool false)], args := [d1, d2] }
  | _ => none }
def EscapeTellsWrongFalsely : Prop := escapeTellsRow.holds Try.pinned (OpenSpec.ofChange escapeTellsWrong)

/-- 'gaugerlaw22.EscapeSmall': WHATEVER THE INPUT: true; the input reads as it did. -/
def escapeSmallSpec : ChangeSpec := { name := "escapeSmall", fn := fun _ => fun
  | [] => { results := [.lit (.bool true)], args := [] }
  | _ => none }
def escapeSmallRow : OpenClaim := { program := "ytnognmgmhhbbiaa", sum := "f3de22c662033d65f4b405528287b846cb0640164344f127bb74f922673bf2fc", func := "gauger/gaugerlaw22.EscapeSmall", spec := "escapeSmall", inPlace := ["internal/abi.NoEscape", "internal/bytealg.CountString", "internal/bytealg.IndexByteString", "internal/bytealg.IndexString", "internal/bytealg.MakeNoZero"], unfollowed := true, recurses := true, named := ["internal/bytealg.MaxLen"], apart := false }
def EscapeSmallSaid : Prop := escapeSmallRow.holds Try.pinned (OpenSpec.ofChange escapeSmallSpec)

/-- ITS FALSE NEIGHBOUR: 'it returns false'. Refute it at one input. -/
def escapeSmallWrong : ChangeSpec := { name := "escapeSmall", fn := fun _ => fun
  | [] => { results := [.lit (.bool false)], args := [] }
  | _ => none }
def EscapeSmallWrongFalsely : Prop := escapeSmallRow.holds Try.pinned (OpenSpec.ofChange escapeSmallWrong)

/- THE SECOND FORM. 'bulk': how many values and letters a reading holds, each counted each time it is reached (what is shared counts as often as it is met; a slice's spare places count too). A statement '..UptoSaid' is the law's where the arguments, and the package variables that the reading takes, are together of bulk at most 1048576: NARROWER than '..Said'. Prove '..Said' where nothing that the law and all that it calls make is longer than what came in: it says more and counts as full. Else prove '..UptoSaid'. A law counts once. -/
mutual
def uptoBulk {H : Type} : DataW H → Nat
  | .lit (.string bytes) => bytes.length + 1
  | .lit _ => 1
  | .nil => 1
  | .ptr d => uptoBulk d + 1
  | .slice elems spare => uptoBulkAll elems + uptoBulkAll spare + 1
  | .agg parts => uptoBulkAll parts + 1
  | .iface _ d => uptoBulk d + 1
  | .map entries => uptoBulkEntries entries + 1
  | .held _ => 1
def uptoBulkAll {H : Type} : List (DataW H) → Nat
  | [] => 0
  | d :: r => uptoBulk d + uptoBulkAll r
def uptoBulkEntries {H : Type} : List (Lit × DataW H) → Nat
  | [] => 0
  | x :: r => uptoBulkEntry x + uptoBulkEntries r
def uptoBulkEntry {H : Type} : Lit × DataW H → Nat
  | (.string bytes, d) => bytes.length + uptoBulk d + 1
  | (_, d) => uptoBulk d + 1
 end
def uptoSmall : (H : Type) → List (DataW H) → Bool := fun _ ds => decide (uptoBulkAll ds ≤ 1048576)
def OpenSpec.upto (s : _root_.Go.ChangeSpec) : _root_.Go.OpenSpec := { _root_.Go.OpenSpec.ofChange s with cond := some uptoSmall }

/-- 'gaugerlaw22.EscapeEnds', WHERE WHAT IT READS IS OF BULK AT MOST 1048576: true; the input reads as it did. -/
def escapeEndsUptoRow : OpenClaim := { program := "ytnognmgmhhbbiaa", sum := "f3de22c662033d65f4b405528287b846cb0640164344f127bb74f922673bf2fc", func := "gauger/gaugerlaw22.EscapeEnds", spec := "escapeEnds", inPlace := ["internal/abi.NoEscape"], unfollowed := true, recurses := true, apart := false, narrowed := true }
def EscapeEndsUptoSaid : Prop := escapeEndsUptoRow.holds Try.pinned (OpenSpec.upto escapeEndsSpec)

/-- 'gaugerlaw22.EscapeWrong', WHERE WHAT IT READS IS OF BULK AT MOST 1048576: true; the input reads as it did. -/
def escapeWrongUptoRow : OpenClaim := { program := "ytnognmgmhhbbiaa", sum := "f3de22c662033d65f4b405528287b846cb0640164344f127bb74f922673bf2fc", func := "gauger/gaugerlaw22.EscapeWrong", spec := "escapeWrong", inPlace := ["internal/abi.NoEscape"], unfollowed := true, recurses := true, apart := false, narrowed := true }
def EscapeWrongUptoSaid : Prop := escapeWrongUptoRow.holds Try.pinned (OpenSpec.upto escapeWrongSpec)

/-- 'gaugerlaw22.EscapeClean', WHERE WHAT IT READS IS OF BULK AT MOST 1048576: true; the input reads as it did. -/
def escapeCleanUptoRow : OpenClaim := { program := "ytnognmgmhhbbiaa", sum := "f3de22c662033d65f4b405528287b846cb0640164344f127bb74f922673bf2fc", func := "gauger/gaugerlaw22.EscapeClean", spec := "escapeClean", inPlace := ["internal/abi.NoEscape"], unfollowed := true, recurses := true, apart := false, narrowed := true }
def EscapeCleanUptoSaid : Prop := escapeCleanUptoRow.holds Try.pinned (OpenSpec.upto escapeCleanSpec)

/-- 'gaugerlaw22.EscapeBack', WHERE WHAT IT READS IS OF BULK AT MOST 1048576: true; the input reads as it did. -/
def escapeBackUptoRow : OpenClaim := { program := "ytnognmgmhhbbiaa", sum := "f3de22c662033d65f4b405528287b846cb0640164344f127bb74f922673bf2fc", func := "gauger/gaugerlaw22.EscapeBack", spec := "escapeBack", inPlace := ["internal/abi.NoEscape", "internal/bytealg.IndexByteString", "internal/bytealg.IndexString"], unfollowed := true, recurses := true, named := ["internal/bytealg.MaxLen"], apart := false, narrowed := true }
def EscapeBackUptoSaid : Prop := escapeBackUptoRow.holds Try.pinned (OpenSpec.upto escapeBackSpec)

/-- 'gaugerlaw22.EscapeCounts', WHERE WHAT IT READS IS OF BULK AT MOST 1048576: true; the input reads as it did. -/
def escapeCountsUptoRow : OpenClaim := { program := "ytnognmgmhhbbiaa", sum := "f3de22c662033d65f4b405528287b846cb0640164344f127bb74f922673bf2fc", func := "gauger/gaugerlaw22.EscapeCounts", spec := "escapeCounts", inPlace := ["internal/abi.NoEscape", "internal/bytealg.CountString", "internal/bytealg.IndexByteString", "internal/bytealg.IndexString"], unfollowed := true, recurses := true, named := ["internal/bytealg.MaxLen"], apart := false, narrowed := true }
def EscapeCountsUptoSaid : Prop := escapeCountsUptoRow.holds Try.pinned (OpenSpec.upto escapeCountsSpec)

/-- 'gaugerlaw22.EscapeTells', WHERE WHAT IT READS IS OF BULK AT MOST 1048576: true; the input reads as it did. -/
def escapeTellsUptoRow : OpenClaim := { program := "ytnognmgmhhbbiaa", sum := "f3de22c662033d65f4b405528287b846cb0640164344f127bb74f922673bf2fc", func := "gauger/gaugerlaw22.EscapeTells", spec := "escapeTells", inPlace := ["internal/abi.NoEscape", "internal/bytealg.CountString", "internal/bytealg.IndexByteString", "internal/bytealg.IndexString"], unfollowed := true, recurses := true, named := ["internal/bytealg.MaxLen"], apart := false, narrowed := true }
def EscapeTellsUptoSaid : Prop := escapeTellsUptoRow.holds Try.pinned (OpenSpec.upto escapeTellsSpec)

/-- 'gaugerlaw22.EscapeSmall', WHERE WHAT IT READS IS OF BULK AT MOST 1048576: true; the input reads as it did. -/
def escapeSmallUptoRow : OpenClaim := { program := "ytnognmgmhhbbiaa", sum := "f3de22c662033d65f4b405528287b846cb0640164344f127bb74f922673bf2fc", func := "gauger/gaugerlaw22.EscapeSmall", spec := "escapeSmall", inPlace := ["internal/abi.NoEscape", "internal/bytealg.CountString", "internal/bytealg.IndexByteString", "internal/bytealg.IndexString", "internal/bytealg.MakeNoZero"], unfollowed := true, recurses := true, named := ["internal/bytealg.MaxLen"], apart := false, narrowed := true }
def EscapeSmallUptoSaid : Prop := escapeSmallUptoRow.holds Try.pinned (OpenSpec.upto escapeSmallSpec)

end Rows
end Go.Proofs.Ytnognmgmhhbbiaa
