/- What the kernel runs of the law, part 13. -/
import Derived.Test.YthikcbbfnicnlaaGreatDoorPrD1
namespace Go.Proofs.YthikcbbfnicnlaaGreatDoor.Ev
open Go
set_option linter.unusedVariables false
set_option maxRecDepth 100000
theorem k_m_pr_1634_r5 (w : World) : memsChk (baseEn w) 1000000 m_pr_1634_r5 = true := by kernel_rfl
theorem k_m_pr_1637 (w : World) : mem2Chk (e_m_pr_1637 w) 1000000 m_pr_1637 = true := by kernel_rfl
theorem k_m_pr_808 (w : World) : mem2Chk (e_m_pr_808 w) 1000000 m_pr_808 = true := by kernel_rfl
theorem k_m_pr_1651 (w : World) : mem2Chk (e_m_pr_1651 w) 1000000 m_pr_1651 = true := by kernel_rfl
theorem k_m_pr_1233_r0 (w : World) : memsChk (baseEn w) 1000000 m_pr_1233_r0 = true := by kernel_rfl
theorem k_m_pr_804 (w : World) : mem2Chk (e_m_pr_804 w) 1000000 m_pr_804 = true := by kernel_rfl
theorem k_m_pr_1654 (w : World) : mem2Chk (e_m_pr_1654 w) 1000000 m_pr_1654 = true := by kernel_rfl
theorem k_m_pr_828 (w : World) : mem2Chk (e_m_pr_828 w) 1000000 m_pr_828 = true := by kernel_rfl
theorem k_m_pr_818 (w : World) : mem2Chk (e_m_pr_818 w) 1000000 m_pr_818 = true := by kernel_rfl
theorem k_m_pr_1650 (w : World) : mem2Chk (e_m_pr_1650 w) 1000000 m_pr_1650 = true := by kernel_rfl
end Go.Proofs.YthikcbbfnicnlaaGreatDoor.Ev
