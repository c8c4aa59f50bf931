/- PlainNames: what the kernel runs, part D. -/
import Derived.Test.YtfbmkmonajdndaaGreatDoorPnMem
namespace Go.Proofs.YtfbmkmonajdndaaGreatDoor.Ev
open Go
set_option linter.unusedVariables false
theorem chk_mcs (w : World) : memoChk ((Gw w).en l_mc8 []) 1000000 mcs = true := by kernel_rfl
theorem chk_t5 (w : World) : tabChk ((Gw w).en l_met []) 1000000 H0 t5 = true := by kernel_rfl
theorem chk_t31 (w : World) : tabChk ((Gw w).en l_met []) 1000000 H0 t31 = true := by kernel_rfl
theorem chk_t7 (w : World) : tabChk ((Gw w).en l_met []) 1000000 H0 t7 = true := by kernel_rfl
end Go.Proofs.YtfbmkmonajdndaaGreatDoor.Ev
