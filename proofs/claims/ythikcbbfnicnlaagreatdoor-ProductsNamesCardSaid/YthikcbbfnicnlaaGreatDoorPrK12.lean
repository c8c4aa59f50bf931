/- What the kernel runs of the law, part 12. -/
import Derived.Test.YthikcbbfnicnlaaGreatDoorPrD1
namespace Go.Proofs.YthikcbbfnicnlaaGreatDoor.Ev
open Go
set_option linter.unusedVariables false
set_option maxRecDepth 100000
theorem k_m_pr_1634_r4 (w : World) : memsChk (baseEn w) 1000000 m_pr_1634_r4 = true := by kernel_rfl
theorem k_m_pr_805 (w : World) : mem2Chk (e_m_pr_805 w) 1000000 m_pr_805 = true := by kernel_rfl
theorem k_m_pr_1646 (w : World) : mem2Chk (e_m_pr_1646 w) 1000000 m_pr_1646 = true := by kernel_rfl
theorem k_m_pr_827 (w : World) : mem2Chk (e_m_pr_827 w) 1000000 m_pr_827 = true := by kernel_rfl
theorem k_m_pr_401_r7 (w : World) : memsChk (baseEn w) 1000000 m_pr_401_r7 = true := by kernel_rfl
theorem k_m_pr_1638 (w : World) : mem2Chk (e_m_pr_1638 w) 1000000 m_pr_1638 = true := by kernel_rfl
theorem k_m_pr_1652 (w : World) : mem2Chk (e_m_pr_1652 w) 1000000 m_pr_1652 = true := by kernel_rfl
theorem k_m_pr_829 (w : World) : mem2Chk (e_m_pr_829 w) 1000000 m_pr_829 = true := by kernel_rfl
theorem k_m_pr_1658 (w : World) : mem2Chk (e_m_pr_1658 w) 1000000 m_pr_1658 = true := by kernel_rfl
theorem k_m_pr_1668 (w : World) : mem2Chk (e_m_pr_1668 w) 1000000 m_pr_1668 = true := by kernel_rfl
end Go.Proofs.YthikcbbfnicnlaaGreatDoor.Ev
