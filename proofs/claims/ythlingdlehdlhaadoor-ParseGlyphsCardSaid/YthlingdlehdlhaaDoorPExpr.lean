/- parse: expressions, walked. -/
import Derived.Test.YthlingdlehdlhaaDoorPC
import Derived.Deep.Cut
namespace Go.Proofs.YthlingdlehdlhaaDoor.Par
open Go.RowKit Go.Shelf
set_option linter.unusedVariables false
set_option linter.unusedSimpArgs false

/-- What holds ahead of each round: blocks of what is read lie behind the call's beginning, but for the block of x. -/
def XS (n0 X k : Nat) : Prop := n0 < k ∧ k ≠ X
end Go.Proofs.YthlingdlehdlhaaDoor.Par
