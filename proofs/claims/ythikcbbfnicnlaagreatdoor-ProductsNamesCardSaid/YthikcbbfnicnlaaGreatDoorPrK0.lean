/- What the kernel runs of the law, part 0. -/
import Derived.Test.YthikcbbfnicnlaaGreatDoorPrD1
namespace Go.Proofs.YthikcbbfnicnlaaGreatDoor.Ev
open Go
set_option linter.unusedVariables false
set_option maxRecDepth 100000
theorem k_m_pr_802_r5 (w : World) : memsChk (baseEn w) 1000000 m_pr_802_r5 = true := by kernel_rfl
theorem k_m_pr_811 (w : World) : mem2Chk (e_m_pr_811 w) 1000000 m_pr_811 = true := by kernel_rfl
theorem k_m_pr_1660 (w : World) : mem2Chk (e_m_pr_1660 w) 1000000 m_pr_1660 = true := by kernel_rfl
theorem k_m_pr_401 (w : World) : mem2Chk (e_m_pr_401 w) 1000000 m_pr_401 = true := by kernel_rfl
end Go.Proofs.YthikcbbfnicnlaaGreatDoor.Ev
