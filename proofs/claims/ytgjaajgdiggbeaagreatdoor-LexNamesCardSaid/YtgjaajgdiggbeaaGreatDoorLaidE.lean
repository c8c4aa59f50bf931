/- A world in which the tables, and the errors that are laid, hold what the rows say: for the witnesses. -/
import Derived.Test.YtgjaajgdiggbeaaGreatDoorLaid
namespace Go.Proofs.YtgjaajgdiggbeaaGreatDoor

noncomputable def low : Nat := (World.holding Tryz.prog default ⟨#[], #[], []⟩).heap.size
noncomputable def errObjs (l : List (Nat × List UInt8)) : Array Obj := (l.map fun t => Obj.cells #[.string ⟨t.2.toArray⟩] 321).toArray
noncomputable def layErrs : List (Nat × List UInt8) → Nat → Array Obj → Array Obj
  | [], _, h => h
  | (g, _) :: r, k, h => layErrs r (k + 1) (h.modify g (layOne #[.iface 319 (.pointer (some ⟨k, 0, none⟩))]))
noncomputable def laidWorldE (tabs : List (Nat × DataW Unit)) (errs : List (Nat × List UInt8)) (os : Os) : World :=
  { World.holding Tryz.prog os ⟨errObjs errs, #[], []⟩ with heap := layErrs errs low (layAll tabs (World.holding Tryz.prog os ⟨errObjs errs, #[], []⟩).heap) }
end Go.Proofs.YtgjaajgdiggbeaaGreatDoor
