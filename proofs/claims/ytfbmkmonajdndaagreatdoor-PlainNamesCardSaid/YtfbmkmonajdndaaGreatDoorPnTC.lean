/- PlainNames: what the kernel runs, part C. -/
import Derived.Test.YtfbmkmonajdndaaGreatDoorPnMem
namespace Go.Proofs.YtfbmkmonajdndaaGreatDoor.Ev
open Go
set_option linter.unusedVariables false
theorem chk_t28 (w : World) : tabChk ((Gw w).en l_met []) 1000000 H0 t28 = true := by kernel_rfl
theorem chk_t29 (w : World) : tabChk ((Gw w).en l_met []) 1000000 H0 t29 = true := by kernel_rfl
theorem chk_t18 (w : World) : tabChk ((Gw w).en l_met []) 1000000 H0 t18 = true := by kernel_rfl
theorem chk_ml881 (w : World) : memoChk ((Gw w).en l_ml770 []) 1000000 ml881 = true := by kernel_rfl
end Go.Proofs.YtfbmkmonajdndaaGreatDoor.Ev
