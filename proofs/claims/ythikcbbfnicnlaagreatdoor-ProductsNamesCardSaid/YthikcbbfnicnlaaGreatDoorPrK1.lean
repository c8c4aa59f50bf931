/- What the kernel runs of the law, part 1. -/
import Derived.Test.YthikcbbfnicnlaaGreatDoorPrD1
namespace Go.Proofs.YthikcbbfnicnlaaGreatDoor.Ev
open Go
set_option linter.unusedVariables false
set_option maxRecDepth 100000
theorem k_m_pr_802_r7 (w : World) : memsChk (baseEn w) 1000000 m_pr_802_r7 = true := by kernel_rfl
theorem k_m_pr_1641 (w : World) : mem2Chk (e_m_pr_1641 w) 1000000 m_pr_1641 = true := by kernel_rfl
theorem k_m_pr_1655 (w : World) : mem2Chk (e_m_pr_1655 w) 1000000 m_pr_1655 = true := by kernel_rfl
theorem k_m_pr_1233 (w : World) : mem2Chk (e_m_pr_1233 w) 1000000 m_pr_1233 = true := by kernel_rfl
end Go.Proofs.YthikcbbfnicnlaaGreatDoor.Ev
