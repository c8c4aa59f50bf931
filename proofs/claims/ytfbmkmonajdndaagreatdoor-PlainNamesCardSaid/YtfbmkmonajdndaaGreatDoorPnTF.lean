/- PlainNames: what the kernel runs, part F. -/
import Derived.Test.YtfbmkmonajdndaaGreatDoorPnMem
namespace Go.Proofs.YtfbmkmonajdndaaGreatDoor.Ev
open Go
set_option linter.unusedVariables false
theorem chk_ml1631 (w : World) : memoChk ((Gw w).en l_ml1119 []) 1000000 ml1631 = true := by kernel_rfl
theorem chk_t11 (w : World) : tabChk ((Gw w).en l_met []) 1000000 H0 t11 = true := by kernel_rfl
theorem chk_t10 (w : World) : tabChk ((Gw w).en l_met []) 1000000 H0 t10 = true := by kernel_rfl
theorem chk_t2 (w : World) : tabChk ((Gw w).en l_met []) 1000000 H0 t2 = true := by kernel_rfl
theorem chk_t27 (w : World) : tabChk ((Gw w).en l_met []) 1000000 H0 t27 = true := by kernel_rfl
end Go.Proofs.YtfbmkmonajdndaaGreatDoor.Ev
