/- PlainNames: what the kernel runs, part K. -/
import Derived.Test.YtfbmkmonajdndaaGreatDoorPnMem
namespace Go.Proofs.YtfbmkmonajdndaaGreatDoor.Ev
open Go
set_option linter.unusedVariables false
theorem chk_me17 (w : World) : memoChk ((Gw w).en l_me11 []) 1000000 me17 = true := by kernel_rfl
theorem chk_t19 (w : World) : tabChk ((Gw w).en l_met []) 1000000 H0 t19 = true := by kernel_rfl
theorem chk_mc8 (w : World) : memoChk ((Gw w).en l_mc4 []) 1000000 mc8 = true := by kernel_rfl
theorem chk_t8 (w : World) : tabChk ((Gw w).en l_met []) 1000000 H0 t8 = true := by kernel_rfl
theorem chk_t26 (w : World) : tabChk ((Gw w).en l_met []) 1000000 H0 t26 = true := by kernel_rfl
end Go.Proofs.YtfbmkmonajdndaaGreatDoor.Ev
