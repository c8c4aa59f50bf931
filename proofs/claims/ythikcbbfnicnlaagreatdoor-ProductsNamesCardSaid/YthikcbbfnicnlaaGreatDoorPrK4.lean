/- What the kernel runs of the law, part 4. -/
import Derived.Test.YthikcbbfnicnlaaGreatDoorPrD1
namespace Go.Proofs.YthikcbbfnicnlaaGreatDoor.Ev
open Go
set_option linter.unusedVariables false
set_option maxRecDepth 100000
theorem k_m_pr_1634_r2 (w : World) : memsChk (baseEn w) 1000000 m_pr_1634_r2 = true := by kernel_rfl
theorem k_m_pr_807 (w : World) : mem2Chk (e_m_pr_807 w) 1000000 m_pr_807 = true := by kernel_rfl
theorem k_m_pr_814 (w : World) : mem2Chk (e_m_pr_814 w) 1000000 m_pr_814 = true := by kernel_rfl
theorem k_m_pr_824 (w : World) : mem2Chk (e_m_pr_824 w) 1000000 m_pr_824 = true := by kernel_rfl
theorem k_m_pr_401_r6 (w : World) : memsChk (baseEn w) 1000000 m_pr_401_r6 = true := by kernel_rfl
theorem k_m_pr_1659 (w : World) : mem2Chk (e_m_pr_1659 w) 1000000 m_pr_1659 = true := by kernel_rfl
theorem k_law_pr (w : World) : lawChk (e_law_pr w) 1000000 3 H0 (.bool true) = true := by kernel_rfl
end Go.Proofs.YthikcbbfnicnlaaGreatDoor.Ev
