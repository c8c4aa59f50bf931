/-
  DERIVED. GIVEN WITH THE SEED: THE CARDS: each row of YthikcbbfnicnlaaGreatDoorRows.lean that lists a variable, with what it lists TIED to the program's text (the seventh form; the later family's looks); each row that meets fmt, with fmt's text TOLD by the authors' own Lean function (tested against real Go, not proved from fmt's source: count such statements apart). THE CARD IS WHAT COUNTS. Prove the row's statement (the work); the ties are given (YthikcbbfnicnlaaGreatDoorTie.lean); close each card by the builder's one call (the guide's Derived/Test/ToyasCard.lean, 'card_holds'). Laid BY PROGRAM, IN A SANDBOX (cutbox-door.mjs). By AI agents, Wed Nov 11 2026. No macro, syntax, notation, axiom, sorry.
-/
import Derived.Test.YthikcbbfnicnlaaGreatDoorRows
import GoSem.ClaimSeven
namespace Go.Proofs.YthikcbbfnicnlaaGreatDoor
namespace Rows

/-- THE TIED CARD OF 'quadratlaw25.ProductsNames'. -/
def productsNamesCard : Claim7 := { stood := { row := productsNamesRow, standIns := [], harness := (true, "0643eeaa755c25eebb9d49e0263e3f485e2121cfc84987a1f295fcbcc55f6b20"), looks := false }, kinds := [], alts := [], laidByText := true, laidKinds := [.data, .pinned], laidTests := true, laidLooks := .later }
def ProductsNamesCardSaid : Prop := Claim7.holds Tryz.pinned (.plain (OpenSpec.ofChange productsNamesSpec)) productsNamesCard

/-- THE SECOND FORM's CARD OF 'quadratlaw25.ProductsNames'. -/
def productsNamesUptoCard : Claim7 := { stood := { row := productsNamesUptoRow, standIns := [], harness := (true, "0643eeaa755c25eebb9d49e0263e3f485e2121cfc84987a1f295fcbcc55f6b20"), looks := false }, kinds := [], alts := [], laidByText := true, laidKinds := [.data, .pinned], laidTests := true, laidLooks := .later }
def ProductsNamesUptoCardSaid : Prop := Claim7.holds Tryz.pinned (.plain (OpenSpec.upto productsNamesSpec)) productsNamesUptoCard
end Rows
end Go.Proofs.YthikcbbfnicnlaaGreatDoor
