/- What the kernel runs of the law, part 6. -/
import Derived.Test.YthikcbbfnicnlaaGreatDoorPrD1
namespace Go.Proofs.YthikcbbfnicnlaaGreatDoor.Ev
open Go
set_option linter.unusedVariables false
set_option maxRecDepth 100000
theorem k_m_pr_802_r3 (w : World) : memsChk (baseEn w) 1000000 m_pr_802_r3 = true := by kernel_rfl
theorem k_m_pr_1647 (w : World) : mem2Chk (e_m_pr_1647 w) 1000000 m_pr_1647 = true := by kernel_rfl
theorem k_m_pr_1666 (w : World) : mem2Chk (e_m_pr_1666 w) 1000000 m_pr_1666 = true := by kernel_rfl
theorem k_m_pr_1233_r4 (w : World) : memsChk (baseEn w) 1000000 m_pr_1233_r4 = true := by kernel_rfl
theorem k_m_pr_1636 (w : World) : mem2Chk (e_m_pr_1636 w) 1000000 m_pr_1636 = true := by kernel_rfl
theorem k_m_pr_1670 (w : World) : mem2Chk (e_m_pr_1670 w) 1000000 m_pr_1670 = true := by kernel_rfl
theorem k_m_pr_1648 (w : World) : mem2Chk (e_m_pr_1648 w) 1000000 m_pr_1648 = true := by kernel_rfl
end Go.Proofs.YthikcbbfnicnlaaGreatDoor.Ev
