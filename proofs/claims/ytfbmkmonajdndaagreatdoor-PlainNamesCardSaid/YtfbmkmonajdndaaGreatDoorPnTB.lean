/- PlainNames: what the kernel runs, part B. -/
import Derived.Test.YtfbmkmonajdndaaGreatDoorPnMem
namespace Go.Proofs.YtfbmkmonajdndaaGreatDoor.Ev
open Go
set_option linter.unusedVariables false
theorem chk_mct (w : World) : memoChk ((Gw w).en l_mcs []) 1000000 mct = true := by kernel_rfl
theorem chk_t3 (w : World) : tabChk ((Gw w).en l_met []) 1000000 H0 t3 = true := by kernel_rfl
theorem chk_t14 (w : World) : tabChk ((Gw w).en l_met []) 1000000 H0 t14 = true := by kernel_rfl
theorem chk_t20 (w : World) : tabChk ((Gw w).en l_met []) 1000000 H0 t20 = true := by kernel_rfl
end Go.Proofs.YtfbmkmonajdndaaGreatDoor.Ev
