/- The document's disk, made: rounds 960 to 1200. -/
import Derived.Test.YthikcbbfnicnlaaGreatDoorPrNw
namespace Go.Proofs.YthikcbbfnicnlaaGreatDoor.Ev
open Go
set_option linter.unusedVariables false
set_option maxRecDepth 100000
theorem n_m_pr_832_4 (w : World) : itChk (baseEn w) nwFi nwL 240 999033 ⟨nwT 12676 960, []⟩ (nwH 12676 960) ⟨nwT 12676 1200, []⟩ (nwH 12676 1200) = true := by kernel_rfl
end Go.Proofs.YthikcbbfnicnlaaGreatDoor.Ev
