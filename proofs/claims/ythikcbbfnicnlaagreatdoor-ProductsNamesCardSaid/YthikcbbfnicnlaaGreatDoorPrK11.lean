/- What the kernel runs of the law, part 11. -/
import Derived.Test.YthikcbbfnicnlaaGreatDoorPrD1
namespace Go.Proofs.YthikcbbfnicnlaaGreatDoor.Ev
open Go
set_option linter.unusedVariables false
set_option maxRecDepth 100000
theorem k_m_pr_1634_r0 (w : World) : memsChk (baseEn w) 1000000 m_pr_1634_r0 = true := by kernel_rfl
theorem k_m_pr_813 (w : World) : mem2Chk (e_m_pr_813 w) 1000000 m_pr_813 = true := by kernel_rfl
theorem k_m_pr_1661 (w : World) : mem2Chk (e_m_pr_1661 w) 1000000 m_pr_1661 = true := by kernel_rfl
theorem k_m_pr_401_r3 (w : World) : memsChk (baseEn w) 1000000 m_pr_401_r3 = true := by kernel_rfl
theorem k_m_pr_1233_r7 (w : World) : memsChk (baseEn w) 1000000 m_pr_1233_r7 = true := by kernel_rfl
theorem k_m_pr_812 (w : World) : mem2Chk (e_m_pr_812 w) 1000000 m_pr_812 = true := by kernel_rfl
theorem k_m_pr_820 (w : World) : mem2Chk (e_m_pr_820 w) 1000000 m_pr_820 = true := by kernel_rfl
theorem k_m_pr_1662 (w : World) : mem2Chk (e_m_pr_1662 w) 1000000 m_pr_1662 = true := by kernel_rfl
theorem k_m_pr_1649 (w : World) : mem2Chk (e_m_pr_1649 w) 1000000 m_pr_1649 = true := by kernel_rfl
end Go.Proofs.YthikcbbfnicnlaaGreatDoor.Ev
