/- What the kernel runs of the law, part 5. -/
import Derived.Test.YthikcbbfnicnlaaGreatDoorPrD1
namespace Go.Proofs.YthikcbbfnicnlaaGreatDoor.Ev
open Go
set_option linter.unusedVariables false
set_option maxRecDepth 100000
theorem k_m_pr_802_r2 (w : World) : memsChk (baseEn w) 1000000 m_pr_802_r2 = true := by kernel_rfl
theorem k_m_pr_815 (w : World) : mem2Chk (e_m_pr_815 w) 1000000 m_pr_815 = true := by kernel_rfl
theorem k_m_pr_1663 (w : World) : mem2Chk (e_m_pr_1663 w) 1000000 m_pr_1663 = true := by kernel_rfl
theorem k_m_pr_401_r0 (w : World) : memsChk (baseEn w) 1000000 m_pr_401_r0 = true := by kernel_rfl
theorem k_m_pr_1233_r3 (w : World) : memsChk (baseEn w) 1000000 m_pr_1233_r3 = true := by kernel_rfl
theorem k_m_pr_823 (w : World) : mem2Chk (e_m_pr_823 w) 1000000 m_pr_823 = true := by kernel_rfl
theorem k_m_pr_816 (w : World) : mem2Chk (e_m_pr_816 w) 1000000 m_pr_816 = true := by kernel_rfl
end Go.Proofs.YthikcbbfnicnlaaGreatDoor.Ev
