/- The reference's reading: numbers, chars.
   The reference's reading: chars, isGlyph.
   The reference's tokens: Chars, value. -/
import Derived.Test.YtijfnnjgcgmnaaaGreatDoorRNm
import Derived.Test.YtijfnnjgcgmnaaaGreatDoorRdr
import Derived.Test.YtijfnnjgcgmnaaaGreatDoorLexLaw
namespace Go.Proofs.YtijfnnjgcgmnaaaGreatDoor
open Go.RowKit Go.Shelf
open Go.Lib (trimLeftB)
set_option linter.unusedVariables false
set_option linter.unusedSimpArgs false

end Go.Proofs.YtijfnnjgcgmnaaaGreatDoor

namespace Go.Proofs.YtijfnnjgcgmnaaaGreatDoor
open Go.RowKit Go.Shelf
open Go.Lib (trimLeftB)
set_option linter.unusedVariables false
set_option linter.unusedSimpArgs false

end Go.Proofs.YtijfnnjgcgmnaaaGreatDoor

namespace Go.Proofs.YtijfnnjgcgmnaaaGreatDoor
open Go.RowKit Go.Shelf
set_option linter.unusedVariables false
set_option linter.unusedSimpArgs false

theorem tok_plain {w : World} {base : Nat} {k : Int} {t : List UInt8} : TokOwn w base (.agg #[.int .i64 k, .string (bs t), .int .i64 0, .slice none 0 0, .slice none 0 0]) ⟨k, t, noArr⟩ :=
  ⟨_, _, rfl, World.ownsRow_nil _ _ _ _, World.ownsRow_nil _ _ _ _, fun i hi => by simp [noArr] at hi⟩

end Go.Proofs.YtijfnnjgcgmnaaaGreatDoor
