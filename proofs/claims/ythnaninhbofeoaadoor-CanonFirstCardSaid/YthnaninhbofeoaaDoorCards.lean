/-
  DERIVED. GIVEN WITH THE SEED: THE CARDS: each row of YthnaninhbofeoaaDoorRows.lean that lists a variable, with what it lists TIED to the program's text (the seventh form; the later family's looks); each row that meets fmt, with fmt's text TOLD by the authors' own Lean function (tested against real Go, not proved from fmt's source: count such statements apart). THE CARD IS WHAT COUNTS. Prove the row's statement (the work); the ties are given (YthnaninhbofeoaaDoorTie.lean); close each card by the builder's one call (the guide's Derived/Test/ToyasCard.lean, 'card_holds'). Laid BY PROGRAM, IN A SANDBOX (cutbox-door.mjs). By AI agents, Wed Nov 11 2026. No macro, syntax, notation, axiom, sorry.
-/
import Derived.Test.YthnaninhbofeoaaDoorRows
import GoSem.ClaimSeven
namespace Go.Proofs.YthnaninhbofeoaaDoor
namespace Rows

/-- THE TIED CARD OF 'gaugerlaw05.CanonTells'. -/
def canonTellsCard : Claim7 := { stood := { row := canonTellsRow, standIns := [], harness := (true, "9140a24d85b86e35b9dbdcaa563167e292df2b528c32e0fcd583fcd765ddea70"), looks := false }, kinds := [], alts := [], laidByText := true, laidKinds := [.data, .pinned], laidTests := true, laidLooks := .later }
def CanonTellsCardSaid : Prop := Claim7.holds Tryd.pinned (.plain (OpenSpec.ofChange canonTellsSpec)) canonTellsCard

/-- THE TIED CARD OF 'gaugerlaw05.CanonTargets'. -/
def canonTargetsCard : Claim7 := { stood := { row := canonTargetsRow, standIns := [], harness := (true, "9140a24d85b86e35b9dbdcaa563167e292df2b528c32e0fcd583fcd765ddea70"), looks := false }, kinds := [], alts := [], laidByText := true, laidKinds := [.data, .pinned], laidTests := true, laidLooks := .later }
def CanonTargetsCardSaid : Prop := Claim7.holds Tryd.pinned (.plain (OpenSpec.ofChange canonTargetsSpec)) canonTargetsCard

/-- THE TIED CARD OF 'gaugerlaw05.CanonFirst'. -/
def canonFirstCard : Claim7 := { stood := { row := canonFirstRow, standIns := [], harness := (true, "9140a24d85b86e35b9dbdcaa563167e292df2b528c32e0fcd583fcd765ddea70"), looks := false }, kinds := [], alts := [], laidByText := true, laidKinds := [.data, .pinned], laidTests := true, laidLooks := .later }
def CanonFirstCardSaid : Prop := Claim7.holds Tryd.pinned (.plain (OpenSpec.ofChange canonFirstSpec)) canonFirstCard

/-- THE TIED CARD OF 'gaugerlaw05.CanonOne'. -/
def canonOneCard : Claim7 := { stood := { row := canonOneRow, standIns := [], harness := (true, "9140a24d85b86e35b9dbdcaa563167e292df2b528c32e0fcd583fcd765ddea70"), looks := false }, kinds := [], alts := [], laidByText := true, laidKinds := [.data, .pinned], laidTests := true, laidLooks := .later }
def CanonOneCardSaid : Prop := Claim7.holds Tryd.pinned (.plain (OpenSpec.ofChange canonOneSpec)) canonOneCard

/-- THE TIED CARD OF 'gaugerlaw05.CanonPrints'. -/
def canonPrintsCard : Claim7 := { stood := { row := canonPrintsRow, standIns := [], harness := (true, "9140a24d85b86e35b9dbdcaa563167e292df2b528c32e0fcd583fcd765ddea70"), looks := false }, kinds := [], alts := [], laidByText := true, laidKinds := [.data, .pinned], laidTests := true, laidLooks := .later }
def CanonPrintsCardSaid : Prop := Claim7.holds Tryd.pinned (.plain (OpenSpec.ofChange canonPrintsSpec)) canonPrintsCard

/-- THE SECOND FORM's CARD OF 'gaugerlaw05.CanonTells'. -/
def canonTellsUptoCard : Claim7 := { stood := { row := canonTellsUptoRow, standIns := [], harness := (true, "9140a24d85b86e35b9dbdcaa563167e292df2b528c32e0fcd583fcd765ddea70"), looks := false }, kinds := [], alts := [], laidByText := true, laidKinds := [.data, .pinned], laidTests := true, laidLooks := .later }
def CanonTellsUptoCardSaid : Prop := Claim7.holds Tryd.pinned (.plain (OpenSpec.upto canonTellsSpec)) canonTellsUptoCard

/-- THE SECOND FORM's CARD OF 'gaugerlaw05.CanonTargets'. -/
def canonTargetsUptoCard : Claim7 := { stood := { row := canonTargetsUptoRow, standIns := [], harness := (true, "9140a24d85b86e35b9dbdcaa563167e292df2b528c32e0fcd583fcd765ddea70"), looks := false }, kinds := [], alts := [], laidByText := true, laidKinds := [.data, .pinned], laidTests := true, laidLooks := .later }
def CanonTargetsUptoCardSaid : Prop := Claim7.holds Tryd.pinned (.plain (OpenSpec.upto canonTargetsSpec)) canonTargetsUptoCard

/-- THE SECOND FORM's CARD OF 'gaugerlaw05.CanonFirst'. -/
def canonFirstUptoCard : Claim7 := { stood := { row := canonFirstUptoRow, standIns := [], harness := (true, "9140a24d85b86e35b9dbdcaa563167e292df2b528c32e0fcd583fcd765ddea70"), looks := false }, kinds := [], alts := [], laidByText := true, laidKinds := [.data, .pinned], laidTests := true, laidLooks := .later }
def CanonFirstUptoCardSaid : Prop := Claim7.holds Tryd.pinned (.plain (OpenSpec.upto canonFirstSpec)) canonFirstUptoCard

/-- THE SECOND FORM's CARD OF 'gaugerlaw05.CanonOne'. -/
def canonOneUptoCard : Claim7 := { stood := { row := canonOneUptoRow, standIns := [], harness := (true, "9140a24d85b86e35b9dbdcaa563167e292df2b528c32e0fcd583fcd765ddea70"), looks := false }, kinds := [], alts := [], laidByText := true, laidKinds := [.data, .pinned], laidTests := true, laidLooks := .later }
def CanonOneUptoCardSaid : Prop := Claim7.holds Tryd.pinned (.plain (OpenSpec.upto canonOneSpec)) canonOneUptoCard

/-- THE SECOND FORM's CARD OF 'gaugerlaw05.CanonPrints'. -/
def canonPrintsUptoCard : Claim7 := { stood := { row := canonPrintsUptoRow, standIns := [], harness := (true, "9140a24d85b86e35b9dbdcaa563167e292df2b528c32e0fcd583fcd765ddea70"), looks := false }, kinds := [], alts := [], laidByText := true, laidKinds := [.data, .pinned], laidTests := true, laidLooks := .later }
def CanonPrintsUptoCardSaid : Prop := Claim7.holds Tryd.pinned (.plain (OpenSpec.upto canonPrintsSpec)) canonPrintsUptoCard
end Rows
end Go.Proofs.YthnaninhbofeoaaDoor
