/-
  DERIVED. GIVEN WITH THE SEED: THE CARDS: each row of YtijfnnjgcgmnaaaGreatDoorRows.lean that lists a variable, with what it lists TIED to the program's text (the seventh form; the later family's looks); each row that meets fmt, with fmt's text TOLD by the authors' own Lean function (tested against real Go, not proved from fmt's source: count such statements apart). THE CARD IS WHAT COUNTS. Prove the row's statement (the work); the ties are given (YtijfnnjgcgmnaaaGreatDoorTie.lean); close each card by the builder's one call (the guide's Derived/Test/ToyasCard.lean, 'card_holds'). Laid BY PROGRAM, IN A SANDBOX (cutbox-door.mjs). By AI agents, Wed Nov 11 2026. No macro, syntax, notation, axiom, sorry.
-/
import Derived.Test.YtijfnnjgcgmnaaaGreatDoorRows
import GoSem.ClaimSeven
namespace Go.Proofs.YtijfnnjgcgmnaaaGreatDoor
namespace Rows

/-- THE TIED CARD OF 'quadratlaw18.ParseClosed'. -/
def parseClosedCard : Claim7 := { stood := { row := parseClosedRow, standIns := [], harness := (true, "7b13de64a75921732f1f2562cbc50df6e2a535ba060003d50c74a33fba27478f"), looks := true }, kinds := [], alts := [], laidByText := true, laidKinds := [.data, .data, .data, .data, .sentinel, .sentinel, .widerDeep, .widerDeep, .pinned], laidTests := true, laidLooks := .later }
def ParseClosedCardSaid : Prop := Claim7.holds Tryz.pinned (.plain (OpenSpec.ofChange parseClosedSpec)) parseClosedCard

/-- THE TIED CARD OF 'quadratlaw18.ParseUnsaid'. -/
def parseUnsaidCard : Claim7 := { stood := { row := parseUnsaidRow, standIns := [], harness := (true, "7b13de64a75921732f1f2562cbc50df6e2a535ba060003d50c74a33fba27478f"), looks := true }, kinds := [], alts := [], laidByText := true, laidKinds := [.data, .data, .data, .data, .sentinel, .sentinel, .widerDeep, .widerDeep, .pinned], laidTests := true, laidLooks := .later }
def ParseUnsaidCardSaid : Prop := Claim7.holds Tryz.pinned (.plain (OpenSpec.ofChange parseUnsaidSpec)) parseUnsaidCard

/-- THE TIED CARD OF 'quadratlaw18.ParseNames'. -/
def parseNamesCard : Claim7 := { stood := { row := parseNamesRow, standIns := [], harness := (true, "7b13de64a75921732f1f2562cbc50df6e2a535ba060003d50c74a33fba27478f"), looks := true }, kinds := [], alts := [], laidByText := true, laidKinds := [.data, .data, .data, .data, .sentinel, .sentinel, .widerDeep, .widerDeep, .pinned], laidTests := true, laidLooks := .later }
def ParseNamesCardSaid : Prop := Claim7.holds Tryz.pinned (.plain (OpenSpec.ofChange parseNamesSpec)) parseNamesCard

/-- THE TIED CARD OF 'quadratlaw18.ParseBack'. -/
def parseBackCard : Claim7 := { stood := { row := parseBackRow, standIns := [], harness := (true, "7b13de64a75921732f1f2562cbc50df6e2a535ba060003d50c74a33fba27478f"), looks := true }, kinds := [], alts := [], laidByText := true, laidKinds := [.data, .data, .data, .data, .sentinel, .sentinel, .widerDeep, .widerDeep, .pinned], laidTests := true, laidLooks := .later }
def ParseBackCardSaid : Prop := Claim7.holds Tryz.pinned (.plain (OpenSpec.ofChange parseBackSpec)) parseBackCard

/-- THE SECOND FORM's CARD OF 'quadratlaw18.ParseClosed'. -/
def parseClosedUptoCard : Claim7 := { stood := { row := parseClosedUptoRow, standIns := [], harness := (true, "7b13de64a75921732f1f2562cbc50df6e2a535ba060003d50c74a33fba27478f"), looks := true }, kinds := [], alts := [], laidByText := true, laidKinds := [.data, .data, .data, .data, .sentinel, .sentinel, .widerDeep, .widerDeep, .pinned], laidTests := true, laidLooks := .later }
def ParseClosedUptoCardSaid : Prop := Claim7.holds Tryz.pinned (.plain (OpenSpec.upto parseClosedSpec)) parseClosedUptoCard

/-- THE SECOND FORM's CARD OF 'quadratlaw18.ParseUnsaid'. -/
def parseUnsaidUptoCard : Claim7 := { stood := { row := parseUnsaidUptoRow, standIns := [], harness := (true, "7b13de64a75921732f1f2562cbc50df6e2a535ba060003d50c74a33fba27478f"), looks := true }, kinds := [], alts := [], laidByText := true, laidKinds := [.data, .data, .data, .data, .sentinel, .sentinel, .widerDeep, .widerDeep, .pinned], laidTests := true, laidLooks := .later }
def ParseUnsaidUptoCardSaid : Prop := Claim7.holds Tryz.pinned (.plain (OpenSpec.upto parseUnsaidSpec)) parseUnsaidUptoCard

/-- THE SECOND FORM's CARD OF 'quadratlaw18.ParseNames'. -/
def parseNamesUptoCard : Claim7 := { stood := { row := parseNamesUptoRow, standIns := [], harness := (true, "7b13de64a75921732f1f2562cbc50df6e2a535ba060003d50c74a33fba27478f"), looks := true }, kinds := [], alts := [], laidByText := true, laidKinds := [.data, .data, .data, .data, .sentinel, .sentinel, .widerDeep, .widerDeep, .pinned], laidTests := true, laidLooks := .later }
def ParseNamesUptoCardSaid : Prop := Claim7.holds Tryz.pinned (.plain (OpenSpec.upto parseNamesSpec)) parseNamesUptoCard

/-- THE SECOND FORM's CARD OF 'quadratlaw18.ParseBack'. -/
def parseBackUptoCard : Claim7 := { stood := { row := parseBackUptoRow, standIns := [], harness := (true, "7b13de64a75921732f1f2562cbc50df6e2a535ba060003d50c74a33fba27478f"), looks := true }, kinds := [], alts := [], laidByText := true, laidKinds := [.data, .data, .data, .data, .sentinel, .sentinel, .widerDeep, .widerDeep, .pinned], laidTests := true, laidLooks := .later }
def ParseBackUptoCardSaid : Prop := Claim7.holds Tryz.pinned (.plain (OpenSpec.upto parseBackSpec)) parseBackUptoCard
end Rows
end Go.Proofs.YtijfnnjgcgmnaaaGreatDoor
