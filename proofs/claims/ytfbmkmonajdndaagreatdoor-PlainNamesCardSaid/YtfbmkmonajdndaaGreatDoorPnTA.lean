/- PlainNames: what the kernel runs, part A. -/
import Derived.Test.YtfbmkmonajdndaaGreatDoorPnMem
namespace Go.Proofs.YtfbmkmonajdndaaGreatDoor.Ev
open Go
set_option linter.unusedVariables false
theorem chk_met (w : World) : memoChk ((Gw w).en l_mes []) 1000000 met = true := by kernel_rfl
theorem chk_t4 (w : World) : tabChk ((Gw w).en l_met []) 1000000 H0 t4 = true := by kernel_rfl
theorem chk_t17 (w : World) : tabChk ((Gw w).en l_met []) 1000000 H0 t17 = true := by kernel_rfl
end Go.Proofs.YtfbmkmonajdndaaGreatDoor.Ev
