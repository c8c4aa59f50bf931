/-
  DERIVED. GIVEN WITH THE SEED: THE CARDS: each row of YtjapijkgjgfcnaaDoorRows.lean that lists a variable, with what it lists TIED to the program's text (the seventh form; the later family's looks); each row that meets fmt, with fmt's text TOLD by the authors' own Lean function (tested against real Go, not proved from fmt's source: count such statements apart). THE CARD IS WHAT COUNTS. Prove the row's statement (the work); the ties are given (YtjapijkgjgfcnaaDoorTie.lean); close each card by the builder's one call (the guide's Derived/Test/ToyasCard.lean, 'card_holds'). Laid BY PROGRAM, IN A SANDBOX (cutbox-door.mjs). By AI agents, Wed Nov 11 2026. No macro, syntax, notation, axiom, sorry.
-/
import Derived.Test.YtjapijkgjgfcnaaDoorRows
import GoSem.ClaimSeven
namespace Go.Proofs.YtjapijkgjgfcnaaDoor
namespace Rows

/-- THE TIED CARD OF 'quadratlaw11.ArrayRound'. -/
def arrayRoundCard : Claim7 := { stood := { row := arrayRoundRow, standIns := [], harness := (true, "24e3ed7c7d2701f80f598679dd946bc1c019829c349fcf329ecbd15b72fb59db"), looks := false }, kinds := [], alts := [], laidByText := true, laidKinds := [.data, .data, .data, .data, .pinned], laidTests := true, laidLooks := .later }
def ArrayRoundCardSaid : Prop := Claim7.holds Tryd.pinned (.plain (OpenSpec.ofChange arrayRoundSpec)) arrayRoundCard

/-- THE TIED CARD OF 'quadratlaw11.ArrayTexts'. -/
def arrayTextsCard : Claim7 := { stood := { row := arrayTextsRow, standIns := [], harness := (true, "24e3ed7c7d2701f80f598679dd946bc1c019829c349fcf329ecbd15b72fb59db"), looks := false }, kinds := [], alts := [], laidByText := true, laidKinds := [.data, .data, .data, .data, .pinned], laidTests := true, laidLooks := .later }
def ArrayTextsCardSaid : Prop := Claim7.holds Tryd.pinned (.plain (OpenSpec.ofChange arrayTextsSpec)) arrayTextsCard

/-- THE TIED CARD OF 'quadratlaw11.ArrayNames'. -/
def arrayNamesCard : Claim7 := { stood := { row := arrayNamesRow, standIns := [], harness := (true, "24e3ed7c7d2701f80f598679dd946bc1c019829c349fcf329ecbd15b72fb59db"), looks := false }, kinds := [], alts := [], laidByText := true, laidKinds := [.data, .data, .data, .data, .pinned], laidTests := true, laidLooks := .later }
def ArrayNamesCardSaid : Prop := Claim7.holds Tryd.pinned (.plain (OpenSpec.ofChange arrayNamesSpec)) arrayNamesCard

/-- THE TIED CARD OF 'quadratlaw11.ArrayMade'. -/
def arrayMadeCard : Claim7 := { stood := { row := arrayMadeRow, standIns := [], harness := (true, "24e3ed7c7d2701f80f598679dd946bc1c019829c349fcf329ecbd15b72fb59db"), looks := false }, kinds := [], alts := [], laidByText := true, laidKinds := [.data, .data, .data, .data, .pinned], laidTests := true, laidLooks := .later }
def ArrayMadeCardSaid : Prop := Claim7.holds Tryd.pinned (.plain (OpenSpec.ofChange arrayMadeSpec)) arrayMadeCard

/-- THE TIED CARD OF 'quadratlaw17.LexSplits'. -/
def lexSplitsCard : Claim7 := { stood := { row := lexSplitsRow, standIns := [], harness := (true, "24e3ed7c7d2701f80f598679dd946bc1c019829c349fcf329ecbd15b72fb59db"), looks := false }, kinds := [], alts := [], laidByText := true, laidKinds := [.data, .pinned], laidTests := true, laidLooks := .later }
def LexSplitsCardSaid : Prop := Claim7.holds Tryd.pinned (.plain (OpenSpec.ofChange lexSplitsSpec)) lexSplitsCard

/-- THE TIED CARD OF 'quadratlaw17.LexShows'. -/
def lexShowsCard : Claim7 := { stood := { row := lexShowsRow, standIns := [], harness := (true, "24e3ed7c7d2701f80f598679dd946bc1c019829c349fcf329ecbd15b72fb59db"), looks := false }, kinds := [], alts := [], laidByText := true, laidKinds := [.data, .data, .data, .data, .pinned], laidTests := true, laidLooks := .later }
def LexShowsCardSaid : Prop := Claim7.holds Tryd.pinned (.plain (OpenSpec.ofChange lexShowsSpec)) lexShowsCard

/-- THE SECOND FORM's CARD OF 'quadratlaw11.ArrayRound'. -/
def arrayRoundUptoCard : Claim7 := { stood := { row := arrayRoundUptoRow, standIns := [], harness := (true, "24e3ed7c7d2701f80f598679dd946bc1c019829c349fcf329ecbd15b72fb59db"), looks := false }, kinds := [], alts := [], laidByText := true, laidKinds := [.data, .data, .data, .data, .pinned], laidTests := true, laidLooks := .later }
def ArrayRoundUptoCardSaid : Prop := Claim7.holds Tryd.pinned (.plain (OpenSpec.upto arrayRoundSpec)) arrayRoundUptoCard

/-- THE SECOND FORM's CARD OF 'quadratlaw11.ArrayTexts'. -/
def arrayTextsUptoCard : Claim7 := { stood := { row := arrayTextsUptoRow, standIns := [], harness := (true, "24e3ed7c7d2701f80f598679dd946bc1c019829c349fcf329ecbd15b72fb59db"), looks := false }, kinds := [], alts := [], laidByText := true, laidKinds := [.data, .data, .data, .data, .pinned], laidTests := true, laidLooks := .later }
def ArrayTextsUptoCardSaid : Prop := Claim7.holds Tryd.pinned (.plain (OpenSpec.upto arrayTextsSpec)) arrayTextsUptoCard

/-- THE SECOND FORM's CARD OF 'quadratlaw11.ArrayNames'. -/
def arrayNamesUptoCard : Claim7 := { stood := { row := arrayNamesUptoRow, standIns := [], harness := (true, "24e3ed7c7d2701f80f598679dd946bc1c019829c349fcf329ecbd15b72fb59db"), looks := false }, kinds := [], alts := [], laidByText := true, laidKinds := [.data, .data, .data, .data, .pinned], laidTests := true, laidLooks := .later }
def ArrayNamesUptoCardSaid : Prop := Claim7.holds Tryd.pinned (.plain (OpenSpec.upto arrayNamesSpec)) arrayNamesUptoCard

/-- THE SECOND FORM's CARD OF 'quadratlaw11.ArrayMade'. -/
def arrayMadeUptoCard : Claim7 := { stood := { row := arrayMadeUptoRow, standIns := [], harness := (true, "24e3ed7c7d2701f80f598679dd946bc1c019829c349fcf329ecbd15b72fb59db"), looks := false }, kinds := [], alts := [], laidByText := true, laidKinds := [.data, .data, .data, .data, .pinned], laidTests := true, laidLooks := .later }
def ArrayMadeUptoCardSaid : Prop := Claim7.holds Tryd.pinned (.plain (OpenSpec.upto arrayMadeSpec)) arrayMadeUptoCard

/-- THE SECOND FORM's CARD OF 'quadratlaw17.LexSplits'. -/
def lexSplitsUptoCard : Claim7 := { stood := { row := lexSplitsUptoRow, standIns := [], harness := (true, "24e3ed7c7d2701f80f598679dd946bc1c019829c349fcf329ecbd15b72fb59db"), looks := false }, kinds := [], alts := [], laidByText := true, laidKinds := [.data, .pinned], laidTests := true, laidLooks := .later }
def LexSplitsUptoCardSaid : Prop := Claim7.holds Tryd.pinned (.plain (OpenSpec.upto lexSplitsSpec)) lexSplitsUptoCard

/-- THE SECOND FORM's CARD OF 'quadratlaw17.LexShows'. -/
def lexShowsUptoCard : Claim7 := { stood := { row := lexShowsUptoRow, standIns := [], harness := (true, "24e3ed7c7d2701f80f598679dd946bc1c019829c349fcf329ecbd15b72fb59db"), looks := false }, kinds := [], alts := [], laidByText := true, laidKinds := [.data, .data, .data, .data, .pinned], laidTests := true, laidLooks := .later }
def LexShowsUptoCardSaid : Prop := Claim7.holds Tryd.pinned (.plain (OpenSpec.upto lexShowsSpec)) lexShowsUptoCard
end Rows
end Go.Proofs.YtjapijkgjgfcnaaDoor
