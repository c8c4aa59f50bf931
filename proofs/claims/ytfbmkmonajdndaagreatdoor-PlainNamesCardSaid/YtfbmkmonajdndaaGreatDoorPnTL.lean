/- PlainNames: what the kernel runs, part L. -/
import Derived.Test.YtfbmkmonajdndaaGreatDoorPnMem
namespace Go.Proofs.YtfbmkmonajdndaaGreatDoor.Ev
open Go
set_option linter.unusedVariables false
theorem chk_ml2595 (w : World) : memoChk ((Gw w).en l_ml1631 []) 1000000 ml2595 = true := by kernel_rfl
theorem chk_ml1119 (w : World) : memoChk ((Gw w).en l_ml881 []) 1000000 ml1119 = true := by kernel_rfl
theorem chk_ml381 (w : World) : memoChk ((Gw w).en l_ml181 []) 1000000 ml381 = true := by kernel_rfl
theorem chk_t25 (w : World) : tabChk ((Gw w).en l_met []) 1000000 H0 t25 = true := by kernel_rfl
theorem chk_t30 (w : World) : tabChk ((Gw w).en l_met []) 1000000 H0 t30 = true := by kernel_rfl
end Go.Proofs.YtfbmkmonajdndaaGreatDoor.Ev
