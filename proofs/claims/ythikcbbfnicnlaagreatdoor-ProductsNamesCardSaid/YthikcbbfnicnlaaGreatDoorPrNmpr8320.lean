/- The document's disk, made: rounds 0 to 240. -/
import Derived.Test.YthikcbbfnicnlaaGreatDoorPrNw
namespace Go.Proofs.YthikcbbfnicnlaaGreatDoor.Ev
open Go
set_option linter.unusedVariables false
set_option maxRecDepth 100000
theorem n_m_pr_832_0 (w : World) : itChk (baseEn w) nwFi nwL 240 999993 ⟨nwT4 12676, []⟩ (nwH3 12676) ⟨nwT 12676 240, []⟩ (nwH 12676 240) = true := by kernel_rfl
end Go.Proofs.YthikcbbfnicnlaaGreatDoor.Ev
