/-
  DERIVED. GIVEN WITH THE SEED: THE CARDS: each row of YthlingdlehdlhaaGreatDoorRows.lean that lists a variable, with what it lists TIED to the program's text (the seventh form; the later family's looks); each row that meets fmt, with fmt's text TOLD by the authors' own Lean function (tested against real Go, not proved from fmt's source: count such statements apart). THE CARD IS WHAT COUNTS. Prove the row's statement (the work); the ties are given (YthlingdlehdlhaaGreatDoorTie.lean); close each card by the builder's one call (the guide's Derived/Test/ToyasCard.lean, 'card_holds'). Laid BY PROGRAM, IN A SANDBOX (cutbox-door.mjs). By AI agents, Wed Nov 11 2026. No macro, syntax, notation, axiom, sorry.
-/
import Derived.Test.YthlingdlehdlhaaGreatDoorRows
import GoSem.ClaimSeven
namespace Go.Proofs.YthlingdlehdlhaaGreatDoor
namespace Rows

/-- THE TIED CARD OF 'quadratlaw18.ParseReads'. -/
def parseReadsCard : Claim7 := { stood := { row := parseReadsRow, standIns := [], harness := (true, "d81bfdda99972240b153f9055f427d94bbab0502f0664938fe298c408259ad42"), looks := false }, kinds := [], alts := [], laidByText := true, laidKinds := [.widerDeep, .widerDeep], laidTests := true, laidLooks := .later }
def ParseReadsCardSaid : Prop := Claim7.holds Tryz.pinned (.plain (OpenSpec.ofChange parseReadsSpec)) parseReadsCard

/-- THE TIED CARD OF 'quadratlaw19.PlainPuts'. -/
def plainPutsCard : Claim7 := { stood := { row := plainPutsRow, standIns := [], harness := (true, "d81bfdda99972240b153f9055f427d94bbab0502f0664938fe298c408259ad42"), looks := false }, kinds := [], alts := [], laidByText := true, laidKinds := [.data, .data, .data, .data, .widerDeep, .widerDeep, .pinned], laidTests := true, laidLooks := .later }
def PlainPutsCardSaid : Prop := Claim7.holds Tryz.pinned (.plain (OpenSpec.ofChange plainPutsSpec)) plainPutsCard

/-- THE SECOND FORM's CARD OF 'quadratlaw18.ParseReads'. -/
def parseReadsUptoCard : Claim7 := { stood := { row := parseReadsUptoRow, standIns := [], harness := (true, "d81bfdda99972240b153f9055f427d94bbab0502f0664938fe298c408259ad42"), looks := false }, kinds := [], alts := [], laidByText := true, laidKinds := [.widerDeep, .widerDeep], laidTests := true, laidLooks := .later }
def ParseReadsUptoCardSaid : Prop := Claim7.holds Tryz.pinned (.plain (OpenSpec.upto parseReadsSpec)) parseReadsUptoCard

/-- THE SECOND FORM's CARD OF 'quadratlaw19.PlainPuts'. -/
def plainPutsUptoCard : Claim7 := { stood := { row := plainPutsUptoRow, standIns := [], harness := (true, "d81bfdda99972240b153f9055f427d94bbab0502f0664938fe298c408259ad42"), looks := false }, kinds := [], alts := [], laidByText := true, laidKinds := [.data, .data, .data, .data, .widerDeep, .widerDeep, .pinned], laidTests := true, laidLooks := .later }
def PlainPutsUptoCardSaid : Prop := Claim7.holds Tryz.pinned (.plain (OpenSpec.upto plainPutsSpec)) plainPutsUptoCard
end Rows
end Go.Proofs.YthlingdlehdlhaaGreatDoor
