/- PlainNames: what the kernel runs, part I. -/
import Derived.Test.YtfbmkmonajdndaaGreatDoorPnMem
namespace Go.Proofs.YtfbmkmonajdndaaGreatDoor.Ev
open Go
set_option linter.unusedVariables false
theorem chk_t33 (w : World) : tabChk ((Gw w).en l_met []) 1000000 H0 t33 = true := by kernel_rfl
theorem chk_mc4 (w : World) : memoChk ((Gw w).en [] []) 1000000 mc4 = true := by kernel_rfl
theorem chk_t32 (w : World) : tabChk ((Gw w).en l_met []) 1000000 H0 t32 = true := by kernel_rfl
theorem chk_t16 (w : World) : tabChk ((Gw w).en l_met []) 1000000 H0 t16 = true := by kernel_rfl
theorem chk_t23 (w : World) : tabChk ((Gw w).en l_met []) 1000000 H0 t23 = true := by kernel_rfl
end Go.Proofs.YtfbmkmonajdndaaGreatDoor.Ev
