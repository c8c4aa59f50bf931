/- PlainNames: what the kernel runs, part G. -/
import Derived.Test.YtfbmkmonajdndaaGreatDoorPnMem
namespace Go.Proofs.YtfbmkmonajdndaaGreatDoor.Ev
open Go
set_option linter.unusedVariables false
theorem chk_ml4046 (w : World) : memoChk ((Gw w).en l_ml3107 []) 1000000 ml4046 = true := by kernel_rfl
theorem chk_t1 (w : World) : tabChk ((Gw w).en l_met []) 1000000 H0 t1 = true := by kernel_rfl
theorem chk_t22 (w : World) : tabChk ((Gw w).en l_met []) 1000000 H0 t22 = true := by kernel_rfl
theorem chk_t12 (w : World) : tabChk ((Gw w).en l_met []) 1000000 H0 t12 = true := by kernel_rfl
theorem chk_ml770 (w : World) : memoChk ((Gw w).en l_ml381 []) 1000000 ml770 = true := by kernel_rfl
end Go.Proofs.YtfbmkmonajdndaaGreatDoor.Ev
