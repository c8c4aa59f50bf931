/-
  DERIVED. GIVEN WITH THE SEED: THE CARDS: each row of YtgjaajgdiggbeaaGreatDoorRows.lean that lists a variable, with what it lists TIED to the program's text (the seventh form; the later family's looks); each row that meets fmt, with fmt's text TOLD by the authors' own Lean function (tested against real Go, not proved from fmt's source: count such statements apart). THE CARD IS WHAT COUNTS. Prove the row's statement (the work); the ties are given (YtgjaajgdiggbeaaGreatDoorTie.lean); close each card by the builder's one call (the guide's Derived/Test/ToyasCard.lean, 'card_holds'). Laid BY PROGRAM, IN A SANDBOX (cutbox-door.mjs). By AI agents, Wed Nov 11 2026. No macro, syntax, notation, axiom, sorry.
-/
import Derived.Test.YtgjaajgdiggbeaaGreatDoorRows
import GoSem.ClaimSeven
namespace Go.Proofs.YtgjaajgdiggbeaaGreatDoor
namespace Rows

/-- THE TIED CARD OF 'quadratlaw17.LexQuoted'. -/
def lexQuotedCard : Claim7 := { stood := { row := lexQuotedRow, standIns := [], harness := (true, "4ad19b232d7c7467ddd75c4c1d3db1f61fe7605c35d88d4694c999d7532f9439"), looks := true }, kinds := [], alts := [], laidByText := true, laidKinds := [.data, .data, .data, .data, .sentinel, .sentinel, .pinned], laidTests := true, laidLooks := .later }
def LexQuotedCardSaid : Prop := Claim7.holds Tryz.pinned (.plain (OpenSpec.ofChange lexQuotedSpec)) lexQuotedCard

/-- THE TIED CARD OF 'quadratlaw17.LexShown'. -/
def lexShownCard : Claim7 := { stood := { row := lexShownRow, standIns := [], harness := (true, "4ad19b232d7c7467ddd75c4c1d3db1f61fe7605c35d88d4694c999d7532f9439"), looks := true }, kinds := [], alts := [], laidByText := true, laidKinds := [.data, .data, .data, .data, .sentinel, .sentinel, .pinned], laidTests := true, laidLooks := .later }
def LexShownCardSaid : Prop := Claim7.holds Tryz.pinned (.plain (OpenSpec.ofChange lexShownSpec)) lexShownCard

/-- THE TIED CARD OF 'quadratlaw17.LexNames'. -/
def lexNamesCard : Claim7 := { stood := { row := lexNamesRow, standIns := [], harness := (true, "4ad19b232d7c7467ddd75c4c1d3db1f61fe7605c35d88d4694c999d7532f9439"), looks := true }, kinds := [], alts := [], laidByText := true, laidKinds := [.data, .data, .data, .data, .sentinel, .sentinel, .pinned], laidTests := true, laidLooks := .later }
def LexNamesCardSaid : Prop := Claim7.holds Tryz.pinned (.plain (OpenSpec.ofChange lexNamesSpec)) lexNamesCard

/-- THE TIED CARD OF 'quadratlaw18.ParseReads'. -/
def parseReadsCard : Claim7 := { stood := { row := parseReadsRow, standIns := [], harness := (true, "4ad19b232d7c7467ddd75c4c1d3db1f61fe7605c35d88d4694c999d7532f9439"), looks := true }, kinds := [], alts := [], laidByText := true, laidKinds := [.widerDeep, .widerDeep], laidTests := true, laidLooks := .later }
def ParseReadsCardSaid : Prop := Claim7.holds Tryz.pinned (.plain (OpenSpec.ofChange parseReadsSpec)) parseReadsCard

/-- THE TIED CARD OF 'quadratlaw18.ParseClosed'. -/
def parseClosedCard : Claim7 := { stood := { row := parseClosedRow, standIns := [], harness := (true, "4ad19b232d7c7467ddd75c4c1d3db1f61fe7605c35d88d4694c999d7532f9439"), looks := true }, kinds := [], alts := [], laidByText := true, laidKinds := [.data, .data, .data, .data, .sentinel, .sentinel, .widerDeep, .widerDeep, .pinned], laidTests := true, laidLooks := .later }
def ParseClosedCardSaid : Prop := Claim7.holds Tryz.pinned (.plain (OpenSpec.ofChange parseClosedSpec)) parseClosedCard

/-- THE TIED CARD OF 'quadratlaw18.ParseUnsaid'. -/
def parseUnsaidCard : Claim7 := { stood := { row := parseUnsaidRow, standIns := [], harness := (true, "4ad19b232d7c7467ddd75c4c1d3db1f61fe7605c35d88d4694c999d7532f9439"), looks := true }, kinds := [], alts := [], laidByText := true, laidKinds := [.data, .data, .data, .data, .sentinel, .sentinel, .widerDeep, .widerDeep, .pinned], laidTests := true, laidLooks := .later }
def ParseUnsaidCardSaid : Prop := Claim7.holds Tryz.pinned (.plain (OpenSpec.ofChange parseUnsaidSpec)) parseUnsaidCard

/-- THE TIED CARD OF 'quadratlaw18.ParseNames'. -/
def parseNamesCard : Claim7 := { stood := { row := parseNamesRow, standIns := [], harness := (true, "4ad19b232d7c7467ddd75c4c1d3db1f61fe7605c35d88d4694c999d7532f9439"), looks := true }, kinds := [], alts := [], laidByText := true, laidKinds := [.data, .data, .data, .data, .sentinel, .sentinel, .widerDeep, .widerDeep, .pinned], laidTests := true, laidLooks := .later }
def ParseNamesCardSaid : Prop := Claim7.holds Tryz.pinned (.plain (OpenSpec.ofChange parseNamesSpec)) parseNamesCard

/-- THE TIED CARD OF 'quadratlaw18.ParseBack'. -/
def parseBackCard : Claim7 := { stood := { row := parseBackRow, standIns := [], harness := (true, "4ad19b232d7c7467ddd75c4c1d3db1f61fe7605c35d88d4694c999d7532f9439"), looks := true }, kinds := [], alts := [], laidByText := true, laidKinds := [.data, .data, .data, .data, .sentinel, .sentinel, .widerDeep, .widerDeep, .pinned], laidTests := true, laidLooks := .later }
def ParseBackCardSaid : Prop := Claim7.holds Tryz.pinned (.plain (OpenSpec.ofChange parseBackSpec)) parseBackCard

/-- THE TIED CARD OF 'quadratlaw19.PlainPuts'. -/
def plainPutsCard : Claim7 := { stood := { row := plainPutsRow, standIns := [], harness := (true, "4ad19b232d7c7467ddd75c4c1d3db1f61fe7605c35d88d4694c999d7532f9439"), looks := true }, kinds := [], alts := [], laidByText := true, laidKinds := [.data, .data, .data, .data, .widerDeep, .widerDeep, .pinned], laidTests := true, laidLooks := .later }
def PlainPutsCardSaid : Prop := Claim7.holds Tryz.pinned (.plain (OpenSpec.ofChange plainPutsSpec)) plainPutsCard

/-- THE SECOND FORM's CARD OF 'quadratlaw17.LexQuoted'. -/
def lexQuotedUptoCard : Claim7 := { stood := { row := lexQuotedUptoRow, standIns := [], harness := (true, "4ad19b232d7c7467ddd75c4c1d3db1f61fe7605c35d88d4694c999d7532f9439"), looks := true }, kinds := [], alts := [], laidByText := true, laidKinds := [.data, .data, .data, .data, .sentinel, .sentinel, .pinned], laidTests := true, laidLooks := .later }
def LexQuotedUptoCardSaid : Prop := Claim7.holds Tryz.pinned (.plain (OpenSpec.upto lexQuotedSpec)) lexQuotedUptoCard

/-- THE SECOND FORM's CARD OF 'quadratlaw17.LexShown'. -/
def lexShownUptoCard : Claim7 := { stood := { row := lexShownUptoRow, standIns := [], harness := (true, "4ad19b232d7c7467ddd75c4c1d3db1f61fe7605c35d88d4694c999d7532f9439"), looks := true }, kinds := [], alts := [], laidByText := true, laidKinds := [.data, .data, .data, .data, .sentinel, .sentinel, .pinned], laidTests := true, laidLooks := .later }
def LexShownUptoCardSaid : Prop := Claim7.holds Tryz.pinned (.plain (OpenSpec.upto lexShownSpec)) lexShownUptoCard

/-- THE SECOND FORM's CARD OF 'quadratlaw17.LexNames'. -/
def lexNamesUptoCard : Claim7 := { stood := { row := lexNamesUptoRow, standIns := [], harness := (true, "4ad19b232d7c7467ddd75c4c1d3db1f61fe7605c35d88d4694c999d7532f9439"), looks := true }, kinds := [], alts := [], laidByText := true, laidKinds := [.data, .data, .data, .data, .sentinel, .sentinel, .pinned], laidTests := true, laidLooks := .later }
def LexNamesUptoCardSaid : Prop := Claim7.holds Tryz.pinned (.plain (OpenSpec.upto lexNamesSpec)) lexNamesUptoCard

/-- THE SECOND FORM's CARD OF 'quadratlaw18.ParseReads'. -/
def parseReadsUptoCard : Claim7 := { stood := { row := parseReadsUptoRow, standIns := [], harness := (true, "4ad19b232d7c7467ddd75c4c1d3db1f61fe7605c35d88d4694c999d7532f9439"), looks := true }, kinds := [], alts := [], laidByText := true, laidKinds := [.widerDeep, .widerDeep], laidTests := true, laidLooks := .later }
def ParseReadsUptoCardSaid : Prop := Claim7.holds Tryz.pinned (.plain (OpenSpec.upto parseReadsSpec)) parseReadsUptoCard

/-- THE SECOND FORM's CARD OF 'quadratlaw18.ParseClosed'. -/
def parseClosedUptoCard : Claim7 := { stood := { row := parseClosedUptoRow, standIns := [], harness := (true, "4ad19b232d7c7467ddd75c4c1d3db1f61fe7605c35d88d4694c999d7532f9439"), looks := true }, kinds := [], alts := [], laidByText := true, laidKinds := [.data, .data, .data, .data, .sentinel, .sentinel, .widerDeep, .widerDeep, .pinned], laidTests := true, laidLooks := .later }
def ParseClosedUptoCardSaid : Prop := Claim7.holds Tryz.pinned (.plain (OpenSpec.upto parseClosedSpec)) parseClosedUptoCard

/-- THE SECOND FORM's CARD OF 'quadratlaw18.ParseUnsaid'. -/
def parseUnsaidUptoCard : Claim7 := { stood := { row := parseUnsaidUptoRow, standIns := [], harness := (true, "4ad19b232d7c7467ddd75c4c1d3db1f61fe7605c35d88d4694c999d7532f9439"), looks := true }, kinds := [], alts := [], laidByText := true, laidKinds := [.data, .data, .data, .data, .sentinel, .sentinel, .widerDeep, .widerDeep, .pinned], laidTests := true, laidLooks := .later }
def ParseUnsaidUptoCardSaid : Prop := Claim7.holds Tryz.pinned (.plain (OpenSpec.upto parseUnsaidSpec)) parseUnsaidUptoCard

/-- THE SECOND FORM's CARD OF 'quadratlaw18.ParseNames'. -/
def parseNamesUptoCard : Claim7 := { stood := { row := parseNamesUptoRow, standIns := [], harness := (true, "4ad19b232d7c7467ddd75c4c1d3db1f61fe7605c35d88d4694c999d7532f9439"), looks := true }, kinds := [], alts := [], laidByText := true, laidKinds := [.data, .data, .data, .data, .sentinel, .sentinel, .widerDeep, .widerDeep, .pinned], laidTests := true, laidLooks := .later }
def ParseNamesUptoCardSaid : Prop := Claim7.holds Tryz.pinned (.plain (OpenSpec.upto parseNamesSpec)) parseNamesUptoCard

/-- THE SECOND FORM's CARD OF 'quadratlaw18.ParseBack'. -/
def parseBackUptoCard : Claim7 := { stood := { row := parseBackUptoRow, standIns := [], harness := (true, "4ad19b232d7c7467ddd75c4c1d3db1f61fe7605c35d88d4694c999d7532f9439"), looks := true }, kinds := [], alts := [], laidByText := true, laidKinds := [.data, .data, .data, .data, .sentinel, .sentinel, .widerDeep, .widerDeep, .pinned], laidTests := true, laidLooks := .later }
def ParseBackUptoCardSaid : Prop := Claim7.holds Tryz.pinned (.plain (OpenSpec.upto parseBackSpec)) parseBackUptoCard

/-- THE SECOND FORM's CARD OF 'quadratlaw19.PlainPuts'. -/
def plainPutsUptoCard : Claim7 := { stood := { row := plainPutsUptoRow, standIns := [], harness := (true, "4ad19b232d7c7467ddd75c4c1d3db1f61fe7605c35d88d4694c999d7532f9439"), looks := true }, kinds := [], alts := [], laidByText := true, laidKinds := [.data, .data, .data, .data, .widerDeep, .widerDeep, .pinned], laidTests := true, laidLooks := .later }
def PlainPutsUptoCardSaid : Prop := Claim7.holds Tryz.pinned (.plain (OpenSpec.upto plainPutsSpec)) plainPutsUptoCard
end Rows
end Go.Proofs.YtgjaajgdiggbeaaGreatDoor
