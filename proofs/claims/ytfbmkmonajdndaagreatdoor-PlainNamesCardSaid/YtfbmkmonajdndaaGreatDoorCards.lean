/-
  DERIVED. GIVEN WITH THE SEED: THE CARDS: each row of YtfbmkmonajdndaaGreatDoorRows.lean that lists a variable, with what it lists TIED to the program's text (the seventh form; the later family's looks); each row that meets fmt, with fmt's text TOLD by the authors' own Lean function (tested against real Go, not proved from fmt's source: count such statements apart). THE CARD IS WHAT COUNTS. Prove the row's statement (the work); the ties are given (YtfbmkmonajdndaaGreatDoorTie.lean); close each card by the builder's one call (the guide's Derived/Test/ToyasCard.lean, 'card_holds'). Laid BY PROGRAM, IN A SANDBOX (cutbox-door.mjs). By AI agents, Wed Nov 11 2026. No macro, syntax, notation, axiom, sorry.
-/
import Derived.Test.YtfbmkmonajdndaaGreatDoorRows
import GoSem.ClaimSeven
namespace Go.Proofs.YtfbmkmonajdndaaGreatDoor
namespace Rows

/-- THE TIED CARD OF 'quadratlaw19.PlainNames'. -/
def plainNamesCard : Claim7 := { stood := { row := plainNamesRow, standIns := [], harness := (true, "b77a431495d907effa381630df03d130aa849ee7ed075c713add0f3e5f495057"), looks := true }, kinds := [], alts := [], laidByText := true, laidKinds := [.data, .data, .data, .data, .sentinel, .sentinel, .widerDeep, .widerDeep, .pinned], laidTests := true, laidLooks := .later }
def PlainNamesCardSaid : Prop := Claim7.holds Tryz.pinned (.plain (OpenSpec.ofChange plainNamesSpec)) plainNamesCard

/-- THE SECOND FORM's CARD OF 'quadratlaw19.PlainNames'. -/
def plainNamesUptoCard : Claim7 := { stood := { row := plainNamesUptoRow, standIns := [], harness := (true, "b77a431495d907effa381630df03d130aa849ee7ed075c713add0f3e5f495057"), looks := true }, kinds := [], alts := [], laidByText := true, laidKinds := [.data, .data, .data, .data, .sentinel, .sentinel, .widerDeep, .widerDeep, .pinned], laidTests := true, laidLooks := .later }
def PlainNamesUptoCardSaid : Prop := Claim7.holds Tryz.pinned (.plain (OpenSpec.upto plainNamesSpec)) plainNamesUptoCard
end Rows
end Go.Proofs.YtfbmkmonajdndaaGreatDoor
