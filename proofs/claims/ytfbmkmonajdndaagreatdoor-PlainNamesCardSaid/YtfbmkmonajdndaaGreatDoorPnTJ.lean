/- PlainNames: what the kernel runs, part J. -/
import Derived.Test.YtfbmkmonajdndaaGreatDoorPnMem
namespace Go.Proofs.YtfbmkmonajdndaaGreatDoor.Ev
open Go
set_option linter.unusedVariables false
theorem chk_me5 (w : World) : memoChk ((Gw w).en l_mct []) 1000000 me5 = true := by kernel_rfl
theorem chk_t0 (w : World) : tabChk ((Gw w).en l_met []) 1000000 H0 t0 = true := by kernel_rfl
theorem chk_t6 (w : World) : tabChk ((Gw w).en l_met []) 1000000 H0 t6 = true := by kernel_rfl
theorem chk_t24 (w : World) : tabChk ((Gw w).en l_met []) 1000000 H0 t24 = true := by kernel_rfl
theorem chk_t21 (w : World) : tabChk ((Gw w).en l_met []) 1000000 H0 t21 = true := by kernel_rfl
end Go.Proofs.YtfbmkmonajdndaaGreatDoor.Ev
