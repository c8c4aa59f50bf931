/- What the kernel runs of the law, part 9. -/
import Derived.Test.YthikcbbfnicnlaaGreatDoorPrD1
namespace Go.Proofs.YthikcbbfnicnlaaGreatDoor.Ev
open Go
set_option linter.unusedVariables false
set_option maxRecDepth 100000
theorem k_m_pr_1634_r1 (w : World) : memsChk (baseEn w) 1000000 m_pr_1634_r1 = true := by kernel_rfl
theorem k_m_pr_1645 (w : World) : mem2Chk (e_m_pr_1645 w) 1000000 m_pr_1645 = true := by kernel_rfl
theorem k_m_pr_810 (w : World) : mem2Chk (e_m_pr_810 w) 1000000 m_pr_810 = true := by kernel_rfl
theorem k_m_pr_819 (w : World) : mem2Chk (e_m_pr_819 w) 1000000 m_pr_819 = true := by kernel_rfl
theorem k_m_pr_401_r4 (w : World) : memsChk (baseEn w) 1000000 m_pr_401_r4 = true := by kernel_rfl
theorem k_m_pr_1644 (w : World) : mem2Chk (e_m_pr_1644 w) 1000000 m_pr_1644 = true := by kernel_rfl
theorem k_m_pr_822 (w : World) : mem2Chk (e_m_pr_822 w) 1000000 m_pr_822 = true := by kernel_rfl
theorem k_m_pr_1665 (w : World) : mem2Chk (e_m_pr_1665 w) 1000000 m_pr_1665 = true := by kernel_rfl
theorem k_m_pr_1656 (w : World) : mem2Chk (e_m_pr_1656 w) 1000000 m_pr_1656 = true := by kernel_rfl
end Go.Proofs.YthikcbbfnicnlaaGreatDoor.Ev
