/-
  DERIVED. GIVEN WITH THE SEED: THE CARDS: each row of YthlingdlehdlhaaDoorRows.lean that lists a variable, with what it lists TIED to the program's text (the seventh form; the later family's looks); each row that meets fmt, with fmt's text TOLD by the authors' own Lean function (tested against real Go, not proved from fmt's source: count such statements apart). THE CARD IS WHAT COUNTS. Prove the row's statement (the work); the ties are given (YthlingdlehdlhaaDoorTie.lean); close each card by the builder's one call (the guide's Derived/Test/ToyasCard.lean, 'card_holds'). Laid BY PROGRAM, IN A SANDBOX (cutbox-door.mjs). By AI agents, Wed Nov 11 2026. No macro, syntax, notation, axiom, sorry.
-/
import Derived.Test.YthlingdlehdlhaaDoorRows
import GoSem.ClaimSeven
namespace Go.Proofs.YthlingdlehdlhaaDoor
namespace Rows

/-- THE TIED CARD OF 'quadratlaw18.ParseGlyphs'. -/
def parseGlyphsCard : Claim7 := { stood := { row := parseGlyphsRow, standIns := [], harness := (true, "08ebfbee9140d496ffc9e2ff3cadab0b5b1ac7c56f4c067fdd3e366159d0827e"), looks := false }, kinds := [], alts := [], laidByText := true, laidKinds := [.widerDeep, .widerDeep], laidTests := true, laidLooks := .later }
def ParseGlyphsCardSaid : Prop := Claim7.holds Tryd.pinned (.plain (OpenSpec.ofChange parseGlyphsSpec)) parseGlyphsCard

/-- THE SECOND FORM's CARD OF 'quadratlaw18.ParseGlyphs'. -/
def parseGlyphsUptoCard : Claim7 := { stood := { row := parseGlyphsUptoRow, standIns := [], harness := (true, "08ebfbee9140d496ffc9e2ff3cadab0b5b1ac7c56f4c067fdd3e366159d0827e"), looks := false }, kinds := [], alts := [], laidByText := true, laidKinds := [.widerDeep, .widerDeep], laidTests := true, laidLooks := .later }
def ParseGlyphsUptoCardSaid : Prop := Claim7.holds Tryd.pinned (.plain (OpenSpec.upto parseGlyphsSpec)) parseGlyphsUptoCard
end Rows
end Go.Proofs.YthlingdlehdlhaaDoor
