/- The document's disk, made: rounds 0 to 240. -/
import Derived.Test.YthikcbbfnicnlaaGreatDoorPrNw
namespace Go.Proofs.YthikcbbfnicnlaaGreatDoor.Ev
open Go
set_option linter.unusedVariables false
set_option maxRecDepth 100000
theorem n_m_pr_0_0 (w : World) : itChk (baseEn w) nwFi nwL 240 999993 ⟨nwT4 40, []⟩ (nwH3 40) ⟨nwT 40 240, []⟩ (nwH 40 240) = true := by kernel_rfl
end Go.Proofs.YthikcbbfnicnlaaGreatDoor.Ev
