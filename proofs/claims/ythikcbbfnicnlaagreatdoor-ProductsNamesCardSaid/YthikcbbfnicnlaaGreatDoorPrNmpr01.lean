/- The document's disk, made: rounds 240 to 480. -/
import Derived.Test.YthikcbbfnicnlaaGreatDoorPrNw
namespace Go.Proofs.YthikcbbfnicnlaaGreatDoor.Ev
open Go
set_option linter.unusedVariables false
set_option maxRecDepth 100000
theorem n_m_pr_0_1 (w : World) : itChk (baseEn w) nwFi nwL 240 999753 ⟨nwT 40 240, []⟩ (nwH 40 240) ⟨nwT 40 480, []⟩ (nwH 40 480) = true := by kernel_rfl
end Go.Proofs.YthikcbbfnicnlaaGreatDoor.Ev
