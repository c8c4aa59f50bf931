/- What the kernel runs of the law, part 10. -/
import Derived.Test.YthikcbbfnicnlaaGreatDoorPrD1
namespace Go.Proofs.YthikcbbfnicnlaaGreatDoor.Ev
open Go
set_option linter.unusedVariables false
set_option maxRecDepth 100000
theorem k_m_pr_1634_r3 (w : World) : memsChk (baseEn w) 1000000 m_pr_1634_r3 = true := by kernel_rfl
theorem k_m_pr_1639 (w : World) : mem2Chk (e_m_pr_1639 w) 1000000 m_pr_1639 = true := by kernel_rfl
theorem k_m_pr_1642 (w : World) : mem2Chk (e_m_pr_1642 w) 1000000 m_pr_1642 = true := by kernel_rfl
theorem k_m_pr_821 (w : World) : mem2Chk (e_m_pr_821 w) 1000000 m_pr_821 = true := by kernel_rfl
theorem k_m_pr_401_r5 (w : World) : memsChk (baseEn w) 1000000 m_pr_401_r5 = true := by kernel_rfl
theorem k_m_pr_806 (w : World) : mem2Chk (e_m_pr_806 w) 1000000 m_pr_806 = true := by kernel_rfl
theorem k_m_pr_825 (w : World) : mem2Chk (e_m_pr_825 w) 1000000 m_pr_825 = true := by kernel_rfl
theorem k_m_pr_1664 (w : World) : mem2Chk (e_m_pr_1664 w) 1000000 m_pr_1664 = true := by kernel_rfl
theorem k_m_pr_817 (w : World) : mem2Chk (e_m_pr_817 w) 1000000 m_pr_817 = true := by kernel_rfl
end Go.Proofs.YthikcbbfnicnlaaGreatDoor.Ev
