/-
  DERIVED. GIVEN WITH THE SEED: THE CARDS: each row of YtmmijebekipdeaaDoorRows.lean that lists a variable, with what it lists TIED to the program's text (the seventh form; the later family's looks); each row that meets fmt, with fmt's text TOLD by the authors' own Lean function (tested against real Go, not proved from fmt's source: count such statements apart). THE CARD IS WHAT COUNTS. Prove the row's statement (the work); the ties are given (YtmmijebekipdeaaDoorTie.lean); close each card by the builder's one call (the guide's Derived/Test/ToyasCard.lean, 'card_holds'). Laid BY PROGRAM, IN A SANDBOX (cutbox-door.mjs). By AI agents, Wed Nov 11 2026. No macro, syntax, notation, axiom, sorry.
-/
import Derived.Test.YtmmijebekipdeaaDoorRows
import GoSem.ClaimSeven
namespace Go.Proofs.YtmmijebekipdeaaDoor
namespace Rows

/-- THE TIED CARD OF 'gaugerlaw14.JsonReads'. -/
def jsonReadsCard : Claim7 := { stood := { row := jsonReadsRow, standIns := [], harness := (true, "c9a05dcc8a3ea35cfc85a94f6ba99b0f1afa02f443bad762c16ae3d38038dac6"), looks := true }, kinds := [], alts := [], laidByText := true, laidKinds := [.data, .pinned], laidTests := true, laidLooks := .later }
def JsonReadsCardSaid : Prop := Claim7.holds Tryd.pinned (.plain (OpenSpec.ofChange jsonReadsSpec)) jsonReadsCard

/-- THE TIED CARD OF 'gaugerlaw14.JsonWords'. -/
def jsonWordsCard : Claim7 := { stood := { row := jsonWordsRow, standIns := [], harness := (true, "c9a05dcc8a3ea35cfc85a94f6ba99b0f1afa02f443bad762c16ae3d38038dac6"), looks := true }, kinds := [], alts := [], laidByText := true, laidKinds := [.data, .pinned], laidTests := true, laidLooks := .later }
def JsonWordsCardSaid : Prop := Claim7.holds Tryd.pinned (.plain (OpenSpec.ofChange jsonWordsSpec)) jsonWordsCard

/-- THE TIED CARD OF 'gaugerlaw14.JsonTells'. -/
def jsonTellsCard : Claim7 := { stood := { row := jsonTellsRow, standIns := [], harness := (true, "c9a05dcc8a3ea35cfc85a94f6ba99b0f1afa02f443bad762c16ae3d38038dac6"), looks := true }, kinds := [], alts := [], laidByText := true, laidKinds := [.data, .pinned], laidTests := true, laidLooks := .later }
def JsonTellsCardSaid : Prop := Claim7.holds Tryd.pinned (.plain (OpenSpec.ofChange jsonTellsSpec)) jsonTellsCard

/-- THE TIED CARD OF 'gaugerlaw14.JsonOne'. -/
def jsonOneCard : Claim7 := { stood := { row := jsonOneRow, standIns := [], harness := (true, "c9a05dcc8a3ea35cfc85a94f6ba99b0f1afa02f443bad762c16ae3d38038dac6"), looks := true }, kinds := [], alts := [], laidByText := true, laidKinds := [.data, .pinned], laidTests := true, laidLooks := .later }
def JsonOneCardSaid : Prop := Claim7.holds Tryd.pinned (.plain (OpenSpec.ofChange jsonOneSpec)) jsonOneCard

/-- THE TIED CARD OF 'gaugerlaw14.JsonSmall'. -/
def jsonSmallCard : Claim7 := { stood := { row := jsonSmallRow, standIns := [], harness := (true, "c9a05dcc8a3ea35cfc85a94f6ba99b0f1afa02f443bad762c16ae3d38038dac6"), looks := true }, kinds := [], alts := [], laidByText := true, laidKinds := [.data, .pinned], laidTests := true, laidLooks := .later }
def JsonSmallCardSaid : Prop := Claim7.holds Tryd.pinned (.plain (OpenSpec.ofChange jsonSmallSpec)) jsonSmallCard

/-- THE TIED CARD OF 'gaugerlaw14.JsonFirst'. -/
def jsonFirstCard : Claim7 := { stood := { row := jsonFirstRow, standIns := [], harness := (true, "c9a05dcc8a3ea35cfc85a94f6ba99b0f1afa02f443bad762c16ae3d38038dac6"), looks := true }, kinds := [], alts := [], laidByText := true, laidKinds := [.data, .pinned], laidTests := true, laidLooks := .later }
def JsonFirstCardSaid : Prop := Claim7.holds Tryd.pinned (.plain (OpenSpec.ofChange jsonFirstSpec)) jsonFirstCard

/-- THE TIED CARD OF 'gaugerlaw14.JsonStrings'. -/
def jsonStringsCard : Claim7 := { stood := { row := jsonStringsRow, standIns := [], harness := (true, "c9a05dcc8a3ea35cfc85a94f6ba99b0f1afa02f443bad762c16ae3d38038dac6"), looks := true }, kinds := [], alts := [], laidByText := true, laidKinds := [.data, .pinned], laidTests := true, laidLooks := .later }
def JsonStringsCardSaid : Prop := Claim7.holds Tryd.pinned (.plain (OpenSpec.ofChange jsonStringsSpec)) jsonStringsCard

/-- THE TIED CARD OF 'gaugerlaw14.JsonWrong'. -/
def jsonWrongCard : Claim7 := { stood := { row := jsonWrongRow, standIns := [], harness := (true, "c9a05dcc8a3ea35cfc85a94f6ba99b0f1afa02f443bad762c16ae3d38038dac6"), looks := true }, kinds := [], alts := [], laidByText := true, laidKinds := [.data, .data, .data, .data, .pinned], laidTests := true, laidLooks := .later }
def JsonWrongCardSaid : Prop := Claim7.holds Tryd.pinned (.plain (OpenSpec.ofChange jsonWrongSpec)) jsonWrongCard

/-- THE TIED CARD OF 'gaugerlaw14.JsonBack'. -/
def jsonBackCard : Claim7 := { stood := { row := jsonBackRow, standIns := [], harness := (true, "c9a05dcc8a3ea35cfc85a94f6ba99b0f1afa02f443bad762c16ae3d38038dac6"), looks := true }, kinds := [], alts := [], laidByText := true, laidKinds := [.data, .data, .data, .data, .pinned], laidTests := true, laidLooks := .later }
def JsonBackCardSaid : Prop := Claim7.holds Tryd.pinned (.plain (OpenSpec.ofChange jsonBackSpec)) jsonBackCard

/-- THE TIED CARD OF 'gaugerlaw14.JsonMembers'. -/
def jsonMembersCard : Claim7 := { stood := { row := jsonMembersRow, standIns := [], harness := (true, "c9a05dcc8a3ea35cfc85a94f6ba99b0f1afa02f443bad762c16ae3d38038dac6"), looks := true }, kinds := [], alts := [], laidByText := true, laidKinds := [.data, .data, .data, .data, .pinned], laidTests := true, laidLooks := .later }
def JsonMembersCardSaid : Prop := Claim7.holds Tryd.pinned (.plain (OpenSpec.ofChange jsonMembersSpec)) jsonMembersCard

/-- THE SECOND FORM's CARD OF 'gaugerlaw14.JsonReads'. -/
def jsonReadsUptoCard : Claim7 := { stood := { row := jsonReadsUptoRow, standIns := [], harness := (true, "c9a05dcc8a3ea35cfc85a94f6ba99b0f1afa02f443bad762c16ae3d38038dac6"), looks := true }, kinds := [], alts := [], laidByText := true, laidKinds := [.data, .pinned], laidTests := true, laidLooks := .later }
def JsonReadsUptoCardSaid : Prop := Claim7.holds Tryd.pinned (.plain (OpenSpec.upto jsonReadsSpec)) jsonReadsUptoCard

/-- THE SECOND FORM's CARD OF 'gaugerlaw14.JsonWords'. -/
def jsonWordsUptoCard : Claim7 := { stood := { row := jsonWordsUptoRow, standIns := [], harness := (true, "c9a05dcc8a3ea35cfc85a94f6ba99b0f1afa02f443bad762c16ae3d38038dac6"), looks := true }, kinds := [], alts := [], laidByText := true, laidKinds := [.data, .pinned], laidTests := true, laidLooks := .later }
def JsonWordsUptoCardSaid : Prop := Claim7.holds Tryd.pinned (.plain (OpenSpec.upto jsonWordsSpec)) jsonWordsUptoCard

/-- THE SECOND FORM's CARD OF 'gaugerlaw14.JsonTells'. -/
def jsonTellsUptoCard : Claim7 := { stood := { row := jsonTellsUptoRow, standIns := [], harness := (true, "c9a05dcc8a3ea35cfc85a94f6ba99b0f1afa02f443bad762c16ae3d38038dac6"), looks := true }, kinds := [], alts := [], laidByText := true, laidKinds := [.data, .pinned], laidTests := true, laidLooks := .later }
def JsonTellsUptoCardSaid : Prop := Claim7.holds Tryd.pinned (.plain (OpenSpec.upto jsonTellsSpec)) jsonTellsUptoCard

/-- THE SECOND FORM's CARD OF 'gaugerlaw14.JsonOne'. -/
def jsonOneUptoCard : Claim7 := { stood := { row := jsonOneUptoRow, standIns := [], harness := (true, "c9a05dcc8a3ea35cfc85a94f6ba99b0f1afa02f443bad762c16ae3d38038dac6"), looks := true }, kinds := [], alts := [], laidByText := true, laidKinds := [.data, .pinned], laidTests := true, laidLooks := .later }
def JsonOneUptoCardSaid : Prop := Claim7.holds Tryd.pinned (.plain (OpenSpec.upto jsonOneSpec)) jsonOneUptoCard

/-- THE SECOND FORM's CARD OF 'gaugerlaw14.JsonSmall'. -/
def jsonSmallUptoCard : Claim7 := { stood := { row := jsonSmallUptoRow, standIns := [], harness := (true, "c9a05dcc8a3ea35cfc85a94f6ba99b0f1afa02f443bad762c16ae3d38038dac6"), looks := true }, kinds := [], alts := [], laidByText := true, laidKinds := [.data, .pinned], laidTests := true, laidLooks := .later }
def JsonSmallUptoCardSaid : Prop := Claim7.holds Tryd.pinned (.plain (OpenSpec.upto jsonSmallSpec)) jsonSmallUptoCard

/-- THE SECOND FORM's CARD OF 'gaugerlaw14.JsonFirst'. -/
def jsonFirstUptoCard : Claim7 := { stood := { row := jsonFirstUptoRow, standIns := [], harness := (true, "c9a05dcc8a3ea35cfc85a94f6ba99b0f1afa02f443bad762c16ae3d38038dac6"), looks := true }, kinds := [], alts := [], laidByText := true, laidKinds := [.data, .pinned], laidTests := true, laidLooks := .later }
def JsonFirstUptoCardSaid : Prop := Claim7.holds Tryd.pinned (.plain (OpenSpec.upto jsonFirstSpec)) jsonFirstUptoCard

/-- THE SECOND FORM's CARD OF 'gaugerlaw14.JsonStrings'. -/
def jsonStringsUptoCard : Claim7 := { stood := { row := jsonStringsUptoRow, standIns := [], harness := (true, "c9a05dcc8a3ea35cfc85a94f6ba99b0f1afa02f443bad762c16ae3d38038dac6"), looks := true }, kinds := [], alts := [], laidByText := true, laidKinds := [.data, .pinned], laidTests := true, laidLooks := .later }
def JsonStringsUptoCardSaid : Prop := Claim7.holds Tryd.pinned (.plain (OpenSpec.upto jsonStringsSpec)) jsonStringsUptoCard

/-- THE SECOND FORM's CARD OF 'gaugerlaw14.JsonWrong'. -/
def jsonWrongUptoCard : Claim7 := { stood := { row := jsonWrongUptoRow, standIns := [], harness := (true, "c9a05dcc8a3ea35cfc85a94f6ba99b0f1afa02f443bad762c16ae3d38038dac6"), looks := true }, kinds := [], alts := [], laidByText := true, laidKinds := [.data, .data, .data, .data, .pinned], laidTests := true, laidLooks := .later }
def JsonWrongUptoCardSaid : Prop := Claim7.holds Tryd.pinned (.plain (OpenSpec.upto jsonWrongSpec)) jsonWrongUptoCard

/-- THE SECOND FORM's CARD OF 'gaugerlaw14.JsonBack'. -/
def jsonBackUptoCard : Claim7 := { stood := { row := jsonBackUptoRow, standIns := [], harness := (true, "c9a05dcc8a3ea35cfc85a94f6ba99b0f1afa02f443bad762c16ae3d38038dac6"), looks := true }, kinds := [], alts := [], laidByText := true, laidKinds := [.data, .data, .data, .data, .pinned], laidTests := true, laidLooks := .later }
def JsonBackUptoCardSaid : Prop := Claim7.holds Tryd.pinned (.plain (OpenSpec.upto jsonBackSpec)) jsonBackUptoCard

/-- THE SECOND FORM's CARD OF 'gaugerlaw14.JsonMembers'. -/
def jsonMembersUptoCard : Claim7 := { stood := { row := jsonMembersUptoRow, standIns := [], harness := (true, "c9a05dcc8a3ea35cfc85a94f6ba99b0f1afa02f443bad762c16ae3d38038dac6"), looks := true }, kinds := [], alts := [], laidByText := true, laidKinds := [.data, .data, .data, .data, .pinned], laidTests := true, laidLooks := .later }
def JsonMembersUptoCardSaid : Prop := Claim7.holds Tryd.pinned (.plain (OpenSpec.upto jsonMembersSpec)) jsonMembersUptoCard
end Rows
end Go.Proofs.YtmmijebekipdeaaDoor
