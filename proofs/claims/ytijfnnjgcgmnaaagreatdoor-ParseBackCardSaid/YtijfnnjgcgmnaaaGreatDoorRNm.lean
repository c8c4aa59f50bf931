/- The reference's decode; Size.
   The reference's arrays: Ints, Longs, Of, Vector, Runes, Chars; value; Valid.
   The reference's reading: begins, past, number.
   The reference's reading: number. -/
import Derived.Test.YtijfnnjgcgmnaaaGreatDoorTok
import Derived.Test.YtijfnnjgcgmnaaaGreatDoorChars
import Derived.Laws.AppendOwnNone
import Derived.Lib.FieldsU
namespace Go.Proofs.YtijfnnjgcgmnaaaGreatDoor
open Go.RowKit Go.Shelf
set_option linter.unusedVariables false
set_option linter.unusedSimpArgs false

end Go.Proofs.YtijfnnjgcgmnaaaGreatDoor

namespace Go.Proofs.YtijfnnjgcgmnaaaGreatDoor
open Go.RowKit Go.Shelf
set_option linter.unusedVariables false
set_option linter.unusedSimpArgs false

end Go.Proofs.YtijfnnjgcgmnaaaGreatDoor

namespace Go.Proofs.YtijfnnjgcgmnaaaGreatDoor
open Go.RowKit Go.Shelf
open Go.Lib (trimLeftB)
set_option linter.unusedVariables false
set_option linter.unusedSimpArgs false

end Go.Proofs.YtijfnnjgcgmnaaaGreatDoor

namespace Go.Proofs.YtijfnnjgcgmnaaaGreatDoor
open Go.RowKit Go.Shelf
open Go.Lib (trimLeftB)
set_option linter.unusedVariables false
set_option linter.unusedSimpArgs false

end Go.Proofs.YtijfnnjgcgmnaaaGreatDoor
