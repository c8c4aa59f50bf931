/- PlainNames: what the kernel runs, part H. -/
import Derived.Test.YtfbmkmonajdndaaGreatDoorPnMem
namespace Go.Proofs.YtfbmkmonajdndaaGreatDoor.Ev
open Go
set_option linter.unusedVariables false
theorem chk_ml3107 (w : World) : memoChk ((Gw w).en l_ml2595 []) 1000000 ml3107 = true := by kernel_rfl
theorem chk_me11 (w : World) : memoChk ((Gw w).en l_me5 []) 1000000 me11 = true := by kernel_rfl
theorem chk_ml181 (w : World) : memoChk ((Gw w).en l_met []) 1000000 ml181 = true := by kernel_rfl
theorem chk_t13 (w : World) : tabChk ((Gw w).en l_met []) 1000000 H0 t13 = true := by kernel_rfl
theorem chk_t34 (w : World) : tabChk ((Gw w).en l_met []) 1000000 H0 t34 = true := by kernel_rfl
end Go.Proofs.YtfbmkmonajdndaaGreatDoor.Ev
