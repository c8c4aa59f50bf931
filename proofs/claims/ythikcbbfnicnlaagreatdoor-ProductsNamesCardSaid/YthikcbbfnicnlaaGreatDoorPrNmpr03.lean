/- The document's disk, made: rounds 720 to 960. -/
import Derived.Test.YthikcbbfnicnlaaGreatDoorPrNw
namespace Go.Proofs.YthikcbbfnicnlaaGreatDoor.Ev
open Go
set_option linter.unusedVariables false
set_option maxRecDepth 100000
theorem n_m_pr_0_3 (w : World) : itChk (baseEn w) nwFi nwL 240 999273 ⟨nwT 40 720, []⟩ (nwH 40 720) ⟨nwT 40 960, []⟩ (nwH 40 960) = true := by kernel_rfl
end Go.Proofs.YthikcbbfnicnlaaGreatDoor.Ev
