/- The document's disk, made: rounds 240 to 480. -/
import Derived.Test.YthikcbbfnicnlaaGreatDoorPrNw
namespace Go.Proofs.YthikcbbfnicnlaaGreatDoor.Ev
open Go
set_option linter.unusedVariables false
set_option maxRecDepth 100000
theorem n_m_pr_832_1 (w : World) : itChk (baseEn w) nwFi nwL 240 999753 ⟨nwT 12676 240, []⟩ (nwH 12676 240) ⟨nwT 12676 480, []⟩ (nwH 12676 480) = true := by kernel_rfl
end Go.Proofs.YthikcbbfnicnlaaGreatDoor.Ev
