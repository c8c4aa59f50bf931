/- What the kernel runs of the law, part 8. -/
import Derived.Test.YthikcbbfnicnlaaGreatDoorPrD1
namespace Go.Proofs.YthikcbbfnicnlaaGreatDoor.Ev
open Go
set_option linter.unusedVariables false
set_option maxRecDepth 100000
theorem k_m_pr_802_r4 (w : World) : memsChk (baseEn w) 1000000 m_pr_802_r4 = true := by kernel_rfl
theorem k_m_pr_809 (w : World) : mem2Chk (e_m_pr_809 w) 1000000 m_pr_809 = true := by kernel_rfl
theorem k_m_pr_1669 (w : World) : mem2Chk (e_m_pr_1669 w) 1000000 m_pr_1669 = true := by kernel_rfl
theorem k_m_pr_401_r1 (w : World) : memsChk (baseEn w) 1000000 m_pr_401_r1 = true := by kernel_rfl
theorem k_m_pr_1233_r5 (w : World) : memsChk (baseEn w) 1000000 m_pr_1233_r5 = true := by kernel_rfl
theorem k_m_pr_830 (w : World) : mem2Chk (e_m_pr_830 w) 1000000 m_pr_830 = true := by kernel_rfl
theorem k_m_pr_1635 (w : World) : mem2Chk (e_m_pr_1635 w) 1000000 m_pr_1635 = true := by kernel_rfl
end Go.Proofs.YthikcbbfnicnlaaGreatDoor.Ev
