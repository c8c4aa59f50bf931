/- A world in which the tables hold what the rows say: for the witnesses.
   A world in which the tables, and the errors that are laid, hold what the rows say: for the witnesses. -/
import Derived.Test.YthikcbbfnicnlaaGreatDoorRows
import Derived.ProofKit
namespace Go.Proofs.YthikcbbfnicnlaaGreatDoor

def litCell : DataW Unit → List Value
  | .lit l => [l.value]
  | _ => []
def rowCells : DataW Unit → List Value
  | .agg l => l.flatMap litCell
  | d => litCell d
def tabCells : DataW Unit → Array Value
  | .agg l => (l.flatMap rowCells).toArray
  | d => (rowCells d).toArray
def layOne (c : Array Value) : Obj → Obj
  | .cells _ t frozen => .cells c t frozen
  | o => o
noncomputable def layAll (tabs : List (Nat × DataW Unit)) (h : Array Obj) : Array Obj := tabs.foldl (fun h p => h.modify p.1 (layOne (tabCells p.2))) h
noncomputable def laidWorld (tabs : List (Nat × DataW Unit)) (os : Os) : World :=
  { World.holding Tryz.prog os ⟨#[], #[], []⟩ with heap := layAll tabs (World.holding Tryz.prog os ⟨#[], #[], []⟩).heap }

end Go.Proofs.YthikcbbfnicnlaaGreatDoor

namespace Go.Proofs.YthikcbbfnicnlaaGreatDoor

noncomputable def low : Nat := (World.holding Tryz.prog default ⟨#[], #[], []⟩).heap.size
end Go.Proofs.YthikcbbfnicnlaaGreatDoor
