/- The document's disk, made: rounds 480 to 720. -/
import Derived.Test.YthikcbbfnicnlaaGreatDoorPrNw
namespace Go.Proofs.YthikcbbfnicnlaaGreatDoor.Ev
open Go
set_option linter.unusedVariables false
set_option maxRecDepth 100000
theorem n_m_pr_832_2 (w : World) : itChk (baseEn w) nwFi nwL 240 999513 ⟨nwT 12676 480, []⟩ (nwH 12676 480) ⟨nwT 12676 720, []⟩ (nwH 12676 720) = true := by kernel_rfl
end Go.Proofs.YthikcbbfnicnlaaGreatDoor.Ev
