/- What the kernel runs of the law, part 3. -/
import Derived.Test.YthikcbbfnicnlaaGreatDoorPrD1
namespace Go.Proofs.YthikcbbfnicnlaaGreatDoor.Ev
open Go
set_option linter.unusedVariables false
set_option maxRecDepth 100000
theorem k_m_pr_802_r0 (w : World) : memsChk (baseEn w) 1000000 m_pr_802_r0 = true := by kernel_rfl
theorem k_m_pr_1634_r6 (w : World) : memsChk (baseEn w) 1000000 m_pr_1634_r6 = true := by kernel_rfl
theorem k_m_pr_826 (w : World) : mem2Chk (e_m_pr_826 w) 1000000 m_pr_826 = true := by kernel_rfl
theorem k_m_pr_1657 (w : World) : mem2Chk (e_m_pr_1657 w) 1000000 m_pr_1657 = true := by kernel_rfl
theorem k_m_pr_1233_r2 (w : World) : memsChk (baseEn w) 1000000 m_pr_1233_r2 = true := by kernel_rfl
theorem k_m_pr_1634 (w : World) : mem2Chk (e_m_pr_1634 w) 1000000 m_pr_1634 = true := by kernel_rfl
end Go.Proofs.YthikcbbfnicnlaaGreatDoor.Ev
