/- What the kernel runs of the law, part 2. -/
import Derived.Test.YthikcbbfnicnlaaGreatDoorPrD1
namespace Go.Proofs.YthikcbbfnicnlaaGreatDoor.Ev
open Go
set_option linter.unusedVariables false
set_option maxRecDepth 100000
theorem k_m_pr_802_r1 (w : World) : memsChk (baseEn w) 1000000 m_pr_802_r1 = true := by kernel_rfl
theorem k_m_pr_1634_r7 (w : World) : memsChk (baseEn w) 1000000 m_pr_1634_r7 = true := by kernel_rfl
theorem k_m_pr_1640 (w : World) : mem2Chk (e_m_pr_1640 w) 1000000 m_pr_1640 = true := by kernel_rfl
theorem k_m_pr_1653 (w : World) : mem2Chk (e_m_pr_1653 w) 1000000 m_pr_1653 = true := by kernel_rfl
theorem k_m_pr_1233_r1 (w : World) : memsChk (baseEn w) 1000000 m_pr_1233_r1 = true := by kernel_rfl
theorem k_m_pr_802 (w : World) : mem2Chk (e_m_pr_802 w) 1000000 m_pr_802 = true := by kernel_rfl
end Go.Proofs.YthikcbbfnicnlaaGreatDoor.Ev
