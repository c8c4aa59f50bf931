/-
  DERIVED. GIVEN WITH THE SEED: THE CARDS: each row of YtjapijkgjgfcnaaGreatDoorRows.lean that lists a variable, with what it lists TIED to the program's text (the seventh form; the later family's looks); each row that meets fmt, with fmt's text TOLD by the authors' own Lean function (tested against real Go, not proved from fmt's source: count such statements apart). THE CARD IS WHAT COUNTS. Prove the row's statement (the work); the ties are given (YtjapijkgjgfcnaaGreatDoorTie.lean); close each card by the builder's one call (the guide's Derived/Test/ToyasCard.lean, 'card_holds'). Laid BY PROGRAM, IN A SANDBOX (cutbox-door.mjs). By AI agents, Wed Nov 11 2026. No macro, syntax, notation, axiom, sorry.
-/
import Derived.Test.YtjapijkgjgfcnaaGreatDoorRows
import GoSem.ClaimSeven
namespace Go.Proofs.YtjapijkgjgfcnaaGreatDoor
namespace Rows

/-- THE TIED CARD OF 'quadratlaw17.LexReads'. -/
def lexReadsCard : Claim7 := { stood := { row := lexReadsRow, standIns := [], harness := (true, "cfeb17d44b0eb7169a3338fe9059b44b548f0edf2ff2a8b4f89cfa6ebd8dca49"), looks := true }, kinds := [], alts := [], laidByText := true, laidKinds := [.data, .data, .data, .data, .sentinel, .sentinel, .pinned], laidTests := true, laidLooks := .later }
def LexReadsCardSaid : Prop := Claim7.holds Tryz.pinned (.plain (OpenSpec.ofChange lexReadsSpec)) lexReadsCard

/-- THE TIED CARD OF 'quadratlaw17.LexPieces'. -/
def lexPiecesCard : Claim7 := { stood := { row := lexPiecesRow, standIns := [], harness := (true, "cfeb17d44b0eb7169a3338fe9059b44b548f0edf2ff2a8b4f89cfa6ebd8dca49"), looks := true }, kinds := [], alts := [], laidByText := true, laidKinds := [.data, .data, .data, .data, .sentinel, .sentinel, .pinned], laidTests := true, laidLooks := .later }
def LexPiecesCardSaid : Prop := Claim7.holds Tryz.pinned (.plain (OpenSpec.ofChange lexPiecesSpec)) lexPiecesCard

/-- THE TIED CARD OF 'quadratlaw17.LexQuoted'. -/
def lexQuotedCard : Claim7 := { stood := { row := lexQuotedRow, standIns := [], harness := (true, "cfeb17d44b0eb7169a3338fe9059b44b548f0edf2ff2a8b4f89cfa6ebd8dca49"), looks := true }, kinds := [], alts := [], laidByText := true, laidKinds := [.data, .data, .data, .data, .sentinel, .sentinel, .pinned], laidTests := true, laidLooks := .later }
def LexQuotedCardSaid : Prop := Claim7.holds Tryz.pinned (.plain (OpenSpec.ofChange lexQuotedSpec)) lexQuotedCard

/-- THE TIED CARD OF 'quadratlaw17.LexShown'. -/
def lexShownCard : Claim7 := { stood := { row := lexShownRow, standIns := [], harness := (true, "cfeb17d44b0eb7169a3338fe9059b44b548f0edf2ff2a8b4f89cfa6ebd8dca49"), looks := true }, kinds := [], alts := [], laidByText := true, laidKinds := [.data, .data, .data, .data, .sentinel, .sentinel, .pinned], laidTests := true, laidLooks := .later }
def LexShownCardSaid : Prop := Claim7.holds Tryz.pinned (.plain (OpenSpec.ofChange lexShownSpec)) lexShownCard

/-- THE TIED CARD OF 'quadratlaw17.LexNames'. -/
def lexNamesCard : Claim7 := { stood := { row := lexNamesRow, standIns := [], harness := (true, "cfeb17d44b0eb7169a3338fe9059b44b548f0edf2ff2a8b4f89cfa6ebd8dca49"), looks := true }, kinds := [], alts := [], laidByText := true, laidKinds := [.data, .data, .data, .data, .sentinel, .sentinel, .pinned], laidTests := true, laidLooks := .later }
def LexNamesCardSaid : Prop := Claim7.holds Tryz.pinned (.plain (OpenSpec.ofChange lexNamesSpec)) lexNamesCard

/-- THE TIED CARD OF 'quadratlaw17.LexBack'. -/
def lexBackCard : Claim7 := { stood := { row := lexBackRow, standIns := [], harness := (true, "cfeb17d44b0eb7169a3338fe9059b44b548f0edf2ff2a8b4f89cfa6ebd8dca49"), looks := true }, kinds := [], alts := [], laidByText := true, laidKinds := [.data, .data, .data, .data, .sentinel, .sentinel, .pinned], laidTests := true, laidLooks := .later }
def LexBackCardSaid : Prop := Claim7.holds Tryz.pinned (.plain (OpenSpec.ofChange lexBackSpec)) lexBackCard

/-- THE SECOND FORM's CARD OF 'quadratlaw17.LexReads'. -/
def lexReadsUptoCard : Claim7 := { stood := { row := lexReadsUptoRow, standIns := [], harness := (true, "cfeb17d44b0eb7169a3338fe9059b44b548f0edf2ff2a8b4f89cfa6ebd8dca49"), looks := true }, kinds := [], alts := [], laidByText := true, laidKinds := [.data, .data, .data, .data, .sentinel, .sentinel, .pinned], laidTests := true, laidLooks := .later }
def LexReadsUptoCardSaid : Prop := Claim7.holds Tryz.pinned (.plain (OpenSpec.upto lexReadsSpec)) lexReadsUptoCard

/-- THE SECOND FORM's CARD OF 'quadratlaw17.LexPieces'. -/
def lexPiecesUptoCard : Claim7 := { stood := { row := lexPiecesUptoRow, standIns := [], harness := (true, "cfeb17d44b0eb7169a3338fe9059b44b548f0edf2ff2a8b4f89cfa6ebd8dca49"), looks := true }, kinds := [], alts := [], laidByText := true, laidKinds := [.data, .data, .data, .data, .sentinel, .sentinel, .pinned], laidTests := true, laidLooks := .later }
def LexPiecesUptoCardSaid : Prop := Claim7.holds Tryz.pinned (.plain (OpenSpec.upto lexPiecesSpec)) lexPiecesUptoCard

/-- THE SECOND FORM's CARD OF 'quadratlaw17.LexQuoted'. -/
def lexQuotedUptoCard : Claim7 := { stood := { row := lexQuotedUptoRow, standIns := [], harness := (true, "cfeb17d44b0eb7169a3338fe9059b44b548f0edf2ff2a8b4f89cfa6ebd8dca49"), looks := true }, kinds := [], alts := [], laidByText := true, laidKinds := [.data, .data, .data, .data, .sentinel, .sentinel, .pinned], laidTests := true, laidLooks := .later }
def LexQuotedUptoCardSaid : Prop := Claim7.holds Tryz.pinned (.plain (OpenSpec.upto lexQuotedSpec)) lexQuotedUptoCard

/-- THE SECOND FORM's CARD OF 'quadratlaw17.LexShown'. -/
def lexShownUptoCard : Claim7 := { stood := { row := lexShownUptoRow, standIns := [], harness := (true, "cfeb17d44b0eb7169a3338fe9059b44b548f0edf2ff2a8b4f89cfa6ebd8dca49"), looks := true }, kinds := [], alts := [], laidByText := true, laidKinds := [.data, .data, .data, .data, .sentinel, .sentinel, .pinned], laidTests := true, laidLooks := .later }
def LexShownUptoCardSaid : Prop := Claim7.holds Tryz.pinned (.plain (OpenSpec.upto lexShownSpec)) lexShownUptoCard

/-- THE SECOND FORM's CARD OF 'quadratlaw17.LexNames'. -/
def lexNamesUptoCard : Claim7 := { stood := { row := lexNamesUptoRow, standIns := [], harness := (true, "cfeb17d44b0eb7169a3338fe9059b44b548f0edf2ff2a8b4f89cfa6ebd8dca49"), looks := true }, kinds := [], alts := [], laidByText := true, laidKinds := [.data, .data, .data, .data, .sentinel, .sentinel, .pinned], laidTests := true, laidLooks := .later }
def LexNamesUptoCardSaid : Prop := Claim7.holds Tryz.pinned (.plain (OpenSpec.upto lexNamesSpec)) lexNamesUptoCard

/-- THE SECOND FORM's CARD OF 'quadratlaw17.LexBack'. -/
def lexBackUptoCard : Claim7 := { stood := { row := lexBackUptoRow, standIns := [], harness := (true, "cfeb17d44b0eb7169a3338fe9059b44b548f0edf2ff2a8b4f89cfa6ebd8dca49"), looks := true }, kinds := [], alts := [], laidByText := true, laidKinds := [.data, .data, .data, .data, .sentinel, .sentinel, .pinned], laidTests := true, laidLooks := .later }
def LexBackUptoCardSaid : Prop := Claim7.holds Tryz.pinned (.plain (OpenSpec.upto lexBackSpec)) lexBackUptoCard
end Rows
end Go.Proofs.YtjapijkgjgfcnaaGreatDoor
