/- What the row says of the package variables: the evaluator's start. -/
import Derived.Test.YthikcbbfnicnlaaGreatDoorPrSet
import Derived.Test.YthikcbbfnicnlaaGreatDoorRows
import Derived.ProofKit
import Derived.Shelf.Vars
namespace Go.Proofs.YthikcbbfnicnlaaGreatDoor.Ev
open Go
set_option linter.unusedVariables false
open Proofs (Tryz.prog)
theorem wd_came {w : World} (hsh : w.ShapedOpen Tryz.prog) : Wd w := by
  have hk : (((((begin Tryz.prog (fun _ _ => 0) default).world).heap[2]?).bind Obj.row?).map fun x => x.2) = some 3 := by kernel_rfl
  obtain ⟨⟨zero, t'⟩, h1, h2⟩ := Option.map_eq_some_iff.1 hk
  obtain ⟨cs', h3, -⟩ := hsh.1 2 zero t' (of_decide_eq_true (by kernel_rfl)) h1
  refine ⟨?_⟩
  rcases Nat.lt_or_ge 2 w.heap.size with h | h
  · exact h
  · rw [Array.getElem?_eq_none h] at h3; cases h3
end Go.Proofs.YthikcbbfnicnlaaGreatDoor.Ev
