/- The document's disk, made: the parts put together. -/
import Derived.Test.YthikcbbfnicnlaaGreatDoorPrNmpr00
import Derived.Test.YthikcbbfnicnlaaGreatDoorPrNmpr01
import Derived.Test.YthikcbbfnicnlaaGreatDoorPrNmpr02
import Derived.Test.YthikcbbfnicnlaaGreatDoorPrNmpr03
import Derived.Test.YthikcbbfnicnlaaGreatDoorPrNmpr04
import Derived.Test.YthikcbbfnicnlaaGreatDoorPrNmpr8320
import Derived.Test.YthikcbbfnicnlaaGreatDoorPrNmpr8321
import Derived.Test.YthikcbbfnicnlaaGreatDoorPrNmpr8322
import Derived.Test.YthikcbbfnicnlaaGreatDoorPrNmpr8323
import Derived.Test.YthikcbbfnicnlaaGreatDoorPrNmpr8324
namespace Go.Proofs.YthikcbbfnicnlaaGreatDoor.Ev
open Go
set_option linter.unusedVariables false
set_option maxRecDepth 100000
theorem n_m_pr_0_c0 (w : World) : cdChk (baseEn w) 999998 (.code nwFi (cL nwB) ⟨Tr.ofList [.int .i64 1200], []⟩) (nwH0 40) isNormal ⟨nwT1, []⟩ (nwH0 40) = true := by kernel_rfl
theorem n_m_pr_0_c1 (w : World) : cdChk (baseEn w) 999997 (.code nwFi (cL (cR nwB)) ⟨nwT1, []⟩) (nwH0 40) isNormal ⟨nwT2, []⟩ (nwH0 40) = true := by kernel_rfl
theorem n_m_pr_0_c2 (w : World) : cdChk (baseEn w) 999996 (.code nwFi (cL (cR (cR nwB))) ⟨nwT2, []⟩) (nwH0 40) isNormal ⟨nwT3 40, []⟩ (nwH3 40) = true := by kernel_rfl
theorem n_m_pr_0_c3 (w : World) : cdChk (baseEn w) 999994 (.code nwFi (cL nwA) ⟨nwT3 40, []⟩) (nwH3 40) isNormal ⟨nwT4 40, []⟩ (nwH3 40) = true := by kernel_rfl
theorem n_m_pr_0_c4 (w : World) : cdChk (baseEn w) 998793 (.rounds nwFi nwL ⟨nwT 40 1200, []⟩) (nwH 40 1200) (xIs 0) ⟨nwT6 40, []⟩ (nwH 40 1200) = true := by kernel_rfl
theorem n_m_pr_0_c5 (w : World) : finChk (baseEn w) 999995 Proofs.Tryz.f25.results.toList (.code nwFi nwEnd ⟨nwT6 40, []⟩) (nwH 40 1200) (.tuple ⟨[nwP 40 0, nwI 0]⟩) (nwH 40 1200) = true := by kernel_rfl
theorem n_m_pr_0_s (w : World) : ev (baseEn w) 999993 (.rounds nwFi nwL ⟨nwT4 40, []⟩) (nwH3 40) = ev (baseEn w) 998793 (.rounds nwFi nwL ⟨nwT 40 1200, []⟩) (nwH 40 1200) := by
  rw [show (999993 : Nat) = 999993 from rfl, itChk_ok (by decide) (n_m_pr_0_0 w)]
  rw [show (999993 - 240 : Nat) = 999753 from rfl, itChk_ok (by decide) (n_m_pr_0_1 w)]
  rw [show (999753 - 240 : Nat) = 999513 from rfl, itChk_ok (by decide) (n_m_pr_0_2 w)]
  rw [show (999513 - 240 : Nat) = 999273 from rfl, itChk_ok (by decide) (n_m_pr_0_3 w)]
  rw [show (999273 - 240 : Nat) = 999033 from rfl, itChk_ok (by decide) (n_m_pr_0_4 w)]
theorem n_m_pr_0_h (w : World) : heOf (baseEn w) 25 [.int .i64 1200] (nwH0 40) = none := by kernel_rfl
theorem n_m_pr_0_end : ba (veq 6 m_pr_0.v (.tuple ⟨[nwP 40 0, nwI 0]⟩)) (ba (Nat.beq (nwH 40 1200).next m_pr_0.next') (ba (hasB (nwH 40 1200) m_pr_0.keep) (hasB (nwH 40 1200) m_pr_0.out))) = true := by kernel_rfl
theorem k_m_pr_0 (w : World) : mem2Chk (e_m_pr_0 w) 1000000 m_pr_0 = true :=
  mem2Chk_of (E := baseEn w) (loop_call (E := baseEn w) (f := 25) (args := [.int .i64 1200]) (H0 := nwH0 40) (n_m_pr_0_h w) Proofs.Tryz.func25 nw_body (by kernel_rfl) nw_parts (n_m_pr_0_c0 w) (n_m_pr_0_c1 w) (n_m_pr_0_c2 w) (n_m_pr_0_c3 w) (n_m_pr_0_s w) (n_m_pr_0_c4 w) (n_m_pr_0_c5 w)) n_m_pr_0_end
theorem n_m_pr_832_c0 (w : World) : cdChk (baseEn w) 999998 (.code nwFi (cL nwB) ⟨Tr.ofList [.int .i64 1200], []⟩) (nwH0 12676) isNormal ⟨nwT1, []⟩ (nwH0 12676) = true := by kernel_rfl
theorem n_m_pr_832_c1 (w : World) : cdChk (baseEn w) 999997 (.code nwFi (cL (cR nwB)) ⟨nwT1, []⟩) (nwH0 12676) isNormal ⟨nwT2, []⟩ (nwH0 12676) = true := by kernel_rfl
theorem n_m_pr_832_c2 (w : World) : cdChk (baseEn w) 999996 (.code nwFi (cL (cR (cR nwB))) ⟨nwT2, []⟩) (nwH0 12676) isNormal ⟨nwT3 12676, []⟩ (nwH3 12676) = true := by kernel_rfl
theorem n_m_pr_832_c3 (w : World) : cdChk (baseEn w) 999994 (.code nwFi (cL nwA) ⟨nwT3 12676, []⟩) (nwH3 12676) isNormal ⟨nwT4 12676, []⟩ (nwH3 12676) = true := by kernel_rfl
theorem n_m_pr_832_c4 (w : World) : cdChk (baseEn w) 998793 (.rounds nwFi nwL ⟨nwT 12676 1200, []⟩) (nwH 12676 1200) (xIs 0) ⟨nwT6 12676, []⟩ (nwH 12676 1200) = true := by kernel_rfl
theorem n_m_pr_832_c5 (w : World) : finChk (baseEn w) 999995 Proofs.Tryz.f25.results.toList (.code nwFi nwEnd ⟨nwT6 12676, []⟩) (nwH 12676 1200) (.tuple ⟨[nwP 12676 0, nwI 0]⟩) (nwH 12676 1200) = true := by kernel_rfl
theorem n_m_pr_832_s (w : World) : ev (baseEn w) 999993 (.rounds nwFi nwL ⟨nwT4 12676, []⟩) (nwH3 12676) = ev (baseEn w) 998793 (.rounds nwFi nwL ⟨nwT 12676 1200, []⟩) (nwH 12676 1200) := by
  rw [show (999993 : Nat) = 999993 from rfl, itChk_ok (by decide) (n_m_pr_832_0 w)]
  rw [show (999993 - 240 : Nat) = 999753 from rfl, itChk_ok (by decide) (n_m_pr_832_1 w)]
  rw [show (999753 - 240 : Nat) = 999513 from rfl, itChk_ok (by decide) (n_m_pr_832_2 w)]
  rw [show (999513 - 240 : Nat) = 999273 from rfl, itChk_ok (by decide) (n_m_pr_832_3 w)]
  rw [show (999273 - 240 : Nat) = 999033 from rfl, itChk_ok (by decide) (n_m_pr_832_4 w)]
theorem n_m_pr_832_h (w : World) : heOf (baseEn w) 25 [.int .i64 1200] (nwH0 12676) = none := by kernel_rfl
theorem n_m_pr_832_end : ba (veq 6 m_pr_832.v (.tuple ⟨[nwP 12676 0, nwI 0]⟩)) (ba (Nat.beq (nwH 12676 1200).next m_pr_832.next') (ba (hasB (nwH 12676 1200) m_pr_832.keep) (hasB (nwH 12676 1200) m_pr_832.out))) = true := by kernel_rfl
theorem k_m_pr_832 (w : World) : mem2Chk (e_m_pr_832 w) 1000000 m_pr_832 = true :=
  mem2Chk_of (E := baseEn w) (loop_call (E := baseEn w) (f := 25) (args := [.int .i64 1200]) (H0 := nwH0 12676) (n_m_pr_832_h w) Proofs.Tryz.func25 nw_body (by kernel_rfl) nw_parts (n_m_pr_832_c0 w) (n_m_pr_832_c1 w) (n_m_pr_832_c2 w) (n_m_pr_832_c3 w) (n_m_pr_832_s w) (n_m_pr_832_c4 w) (n_m_pr_832_c5 w)) n_m_pr_832_end
end Go.Proofs.YthikcbbfnicnlaaGreatDoor.Ev
