/- The document's disk, made: rounds 720 to 960. -/
import Derived.Test.YthikcbbfnicnlaaGreatDoorPrNw
namespace Go.Proofs.YthikcbbfnicnlaaGreatDoor.Ev
open Go
set_option linter.unusedVariables false
set_option maxRecDepth 100000
theorem n_m_pr_832_3 (w : World) : itChk (baseEn w) nwFi nwL 240 999273 ⟨nwT 12676 720, []⟩ (nwH 12676 720) ⟨nwT 12676 960, []⟩ (nwH 12676 960) = true := by kernel_rfl
end Go.Proofs.YthikcbbfnicnlaaGreatDoor.Ev
