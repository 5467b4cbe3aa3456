/-
  DERIVED. GIVEN WITH THE SEED: THE CARDS: each row of YthnaninhbofeoaaGreatDoorRows.lean that lists a variable, with what it lists TIED to the program's text (the seventh form; the later family's looks); each row that meets fmt, with fmt's text TOLD by the authors' own Lean function (tested against real Go, not proved from fmt's source: count such statements apart). THE CARD IS WHAT COUNTS. Prove the row's statement (the work); the ties are given (YthnaninhbofeoaaGreatDoorTie.lean); close each card by the builder's one call (the guide's Derived/Test/ToyasCard.lean, 'card_holds'). Laid BY PROGRAM, IN A SANDBOX (cutbox-door.mjs). By AI agents, Wed Nov 11 2026. No macro, syntax, notation, axiom, sorry.
-/
import Derived.Test.YthnaninhbofeoaaGreatDoorRows
import GoSem.ClaimSeven
namespace Go.Proofs.YthnaninhbofeoaaGreatDoor
namespace Rows

/-- THE TIED CARD OF 'gaugerlaw05.CanonLists'. -/
def canonListsCard : Claim7 := { stood := { row := canonListsRow, standIns := [], harness := (true, "209953763e68ea73111e4c45dcb033a214beb1d6b904b36034b29cc0626304ff"), looks := false }, kinds := [], alts := [], laidByText := true, laidKinds := [.data, .pinned], laidTests := true, laidLooks := .later }
def CanonListsCardSaid : Prop := Claim7.holds Tryz.pinned (.plain (OpenSpec.ofChange canonListsSpec)) canonListsCard

/-- THE TIED CARD OF 'gaugerlaw05.CanonOrder'. -/
def canonOrderCard : Claim7 := { stood := { row := canonOrderRow, standIns := [], harness := (true, "209953763e68ea73111e4c45dcb033a214beb1d6b904b36034b29cc0626304ff"), looks := false }, kinds := [], alts := [], laidByText := true, laidKinds := [.data, .pinned], laidTests := true, laidLooks := .later }
def CanonOrderCardSaid : Prop := Claim7.holds Tryz.pinned (.plain (OpenSpec.ofChange canonOrderSpec)) canonOrderCard

/-- THE TIED CARD OF 'gaugerlaw05.CanonSmall'. -/
def canonSmallCard : Claim7 := { stood := { row := canonSmallRow, standIns := [], harness := (true, "209953763e68ea73111e4c45dcb033a214beb1d6b904b36034b29cc0626304ff"), looks := false }, kinds := [], alts := [], laidByText := true, laidKinds := [.data, .pinned], laidTests := true, laidLooks := .later }
def CanonSmallCardSaid : Prop := Claim7.holds Tryz.pinned (.plain (OpenSpec.ofChange canonSmallSpec)) canonSmallCard

/-- THE TIED CARD OF 'gaugerlaw05.CanonWrong'. -/
def canonWrongCard : Claim7 := { stood := { row := canonWrongRow, standIns := [], harness := (true, "209953763e68ea73111e4c45dcb033a214beb1d6b904b36034b29cc0626304ff"), looks := false }, kinds := [], alts := [], laidByText := true, laidKinds := [.data, .pinned], laidTests := true, laidLooks := .later }
def CanonWrongCardSaid : Prop := Claim7.holds Tryz.pinned (.plain (OpenSpec.ofChange canonWrongSpec)) canonWrongCard

/-- THE SECOND FORM's CARD OF 'gaugerlaw05.CanonLists'. -/
def canonListsUptoCard : Claim7 := { stood := { row := canonListsUptoRow, standIns := [], harness := (true, "209953763e68ea73111e4c45dcb033a214beb1d6b904b36034b29cc0626304ff"), looks := false }, kinds := [], alts := [], laidByText := true, laidKinds := [.data, .pinned], laidTests := true, laidLooks := .later }
def CanonListsUptoCardSaid : Prop := Claim7.holds Tryz.pinned (.plain (OpenSpec.upto canonListsSpec)) canonListsUptoCard

/-- THE SECOND FORM's CARD OF 'gaugerlaw05.CanonOrder'. -/
def canonOrderUptoCard : Claim7 := { stood := { row := canonOrderUptoRow, standIns := [], harness := (true, "209953763e68ea73111e4c45dcb033a214beb1d6b904b36034b29cc0626304ff"), looks := false }, kinds := [], alts := [], laidByText := true, laidKinds := [.data, .pinned], laidTests := true, laidLooks := .later }
def CanonOrderUptoCardSaid : Prop := Claim7.holds Tryz.pinned (.plain (OpenSpec.upto canonOrderSpec)) canonOrderUptoCard

/-- THE SECOND FORM's CARD OF 'gaugerlaw05.CanonSmall'. -/
def canonSmallUptoCard : Claim7 := { stood := { row := canonSmallUptoRow, standIns := [], harness := (true, "209953763e68ea73111e4c45dcb033a214beb1d6b904b36034b29cc0626304ff"), looks := false }, kinds := [], alts := [], laidByText := true, laidKinds := [.data, .pinned], laidTests := true, laidLooks := .later }
def CanonSmallUptoCardSaid : Prop := Claim7.holds Tryz.pinned (.plain (OpenSpec.upto canonSmallSpec)) canonSmallUptoCard

/-- THE SECOND FORM's CARD OF 'gaugerlaw05.CanonWrong'. -/
def canonWrongUptoCard : Claim7 := { stood := { row := canonWrongUptoRow, standIns := [], harness := (true, "209953763e68ea73111e4c45dcb033a214beb1d6b904b36034b29cc0626304ff"), looks := false }, kinds := [], alts := [], laidByText := true, laidKinds := [.data, .pinned], laidTests := true, laidLooks := .later }
def CanonWrongUptoCardSaid : Prop := Claim7.holds Tryz.pinned (.plain (OpenSpec.upto canonWrongSpec)) canonWrongUptoCard
end Rows
end Go.Proofs.YthnaninhbofeoaaGreatDoor
