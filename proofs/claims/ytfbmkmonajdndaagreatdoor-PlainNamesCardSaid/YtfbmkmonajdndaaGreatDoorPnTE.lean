/- PlainNames: what the kernel runs, part E. -/
import Derived.Test.YtfbmkmonajdndaaGreatDoorPnMem
namespace Go.Proofs.YtfbmkmonajdndaaGreatDoor.Ev
open Go
set_option linter.unusedVariables false
theorem chk_mes (w : World) : memoChk ((Gw w).en l_me17 []) 1000000 mes = true := by kernel_rfl
theorem chk_law (w : World) : lawChk ((Gw w).en l_ml4046 tabT) 1000000 3 H0 (.bool true) = true := by kernel_rfl
theorem chk_t9 (w : World) : tabChk ((Gw w).en l_met []) 1000000 H0 t9 = true := by kernel_rfl
theorem chk_t15 (w : World) : tabChk ((Gw w).en l_met []) 1000000 H0 t15 = true := by kernel_rfl
end Go.Proofs.YtfbmkmonajdndaaGreatDoor.Ev
