/- What the kernel runs of the law, part 7. -/
import Derived.Test.YthikcbbfnicnlaaGreatDoorPrD1
namespace Go.Proofs.YthikcbbfnicnlaaGreatDoor.Ev
open Go
set_option linter.unusedVariables false
set_option maxRecDepth 100000
theorem k_m_pr_802_r6 (w : World) : memsChk (baseEn w) 1000000 m_pr_802_r6 = true := by kernel_rfl
theorem k_m_pr_1643 (w : World) : mem2Chk (e_m_pr_1643 w) 1000000 m_pr_1643 = true := by kernel_rfl
theorem k_m_pr_831 (w : World) : mem2Chk (e_m_pr_831 w) 1000000 m_pr_831 = true := by kernel_rfl
theorem k_m_pr_401_r2 (w : World) : memsChk (baseEn w) 1000000 m_pr_401_r2 = true := by kernel_rfl
theorem k_m_pr_1233_r6 (w : World) : memsChk (baseEn w) 1000000 m_pr_1233_r6 = true := by kernel_rfl
theorem k_m_pr_1667 (w : World) : mem2Chk (e_m_pr_1667 w) 1000000 m_pr_1667 = true := by kernel_rfl
theorem k_m_pr_803 (w : World) : mem2Chk (e_m_pr_803 w) 1000000 m_pr_803 = true := by kernel_rfl
end Go.Proofs.YthikcbbfnicnlaaGreatDoor.Ev
