/- PlainNames: the law is run. -/
import Derived.Test.YtfbmkmonajdndaaGreatDoorPnTA
import Derived.Test.YtfbmkmonajdndaaGreatDoorPnTB
import Derived.Test.YtfbmkmonajdndaaGreatDoorPnTC
import Derived.Test.YtfbmkmonajdndaaGreatDoorPnTD
import Derived.Test.YtfbmkmonajdndaaGreatDoorPnTE
import Derived.Test.YtfbmkmonajdndaaGreatDoorPnTF
import Derived.Test.YtfbmkmonajdndaaGreatDoorPnTG
import Derived.Test.YtfbmkmonajdndaaGreatDoorPnTH
import Derived.Test.YtfbmkmonajdndaaGreatDoorPnTI
import Derived.Test.YtfbmkmonajdndaaGreatDoorPnTJ
import Derived.Test.YtfbmkmonajdndaaGreatDoorPnTK
import Derived.Test.YtfbmkmonajdndaaGreatDoorPnTL
namespace Go.Proofs.YtfbmkmonajdndaaGreatDoor.Ev
open Go
set_option linter.unusedVariables false
theorem chain_pn (w : World) : Chain (Gw w) l_ml4046 :=
  .cons (chk_ml4046 w) (by decide +kernel) (.cons (chk_ml3107 w) (by decide +kernel) (.cons (chk_ml2595 w) (by decide +kernel) (.cons (chk_ml1631 w) (by decide +kernel) (.cons (chk_ml1119 w) (by decide +kernel) (.cons (chk_ml881 w) (by decide +kernel) (.cons (chk_ml770 w) (by decide +kernel) (.cons (chk_ml381 w) (by decide +kernel) (.cons (chk_ml181 w) (by decide +kernel) (.cons (chk_met w) (by decide +kernel) (.cons (chk_mes w) (by decide +kernel) (.cons (chk_me17 w) (by decide +kernel) (.cons (chk_me11 w) (by decide +kernel) (.cons (chk_me5 w) (by decide +kernel) (.cons (chk_mct w) (by decide +kernel) (.cons (chk_mcs w) (by decide +kernel) (.cons (chk_mc8 w) (by decide +kernel) (.cons (chk_mc4 w) (by decide +kernel) .nil)))))))))))))))))
theorem chain_ce (w : World) : Chain (Gw w) l_met :=
  .cons (chk_met w) (by decide +kernel) (.cons (chk_mes w) (by decide +kernel) (.cons (chk_me17 w) (by decide +kernel) (.cons (chk_me11 w) (by decide +kernel) (.cons (chk_me5 w) (by decide +kernel) (.cons (chk_mct w) (by decide +kernel) (.cons (chk_mcs w) (by decide +kernel) (.cons (chk_mc8 w) (by decide +kernel) (.cons (chk_mc4 w) (by decide +kernel) .nil))))))))
theorem tab_pn (w : World) : ∀ p ∈ tabT, TabGood (Gw w) (ren1 w) H0 p := by
  intro p hp
  simp only [tabT, List.mem_cons, List.not_mem_nil, or_false] at hp
  rcases hp with rfl | rfl | rfl | rfl | rfl | rfl | rfl | rfl | rfl | rfl | rfl | rfl | rfl | rfl | rfl | rfl | rfl | rfl | rfl | rfl | rfl | rfl | rfl | rfl | rfl | rfl | rfl | rfl | rfl | rfl | rfl | rfl | rfl | rfl | rfl
  · exact tabChk_ok (chain_ce w) (chk_t0 w)
  · exact tabChk_ok (chain_ce w) (chk_t1 w)
  · exact tabChk_ok (chain_ce w) (chk_t2 w)
  · exact tabChk_ok (chain_ce w) (chk_t3 w)
  · exact tabChk_ok (chain_ce w) (chk_t4 w)
  · exact tabChk_ok (chain_ce w) (chk_t5 w)
  · exact tabChk_ok (chain_ce w) (chk_t6 w)
  · exact tabChk_ok (chain_ce w) (chk_t7 w)
  · exact tabChk_ok (chain_ce w) (chk_t8 w)
  · exact tabChk_ok (chain_ce w) (chk_t9 w)
  · exact tabChk_ok (chain_ce w) (chk_t10 w)
  · exact tabChk_ok (chain_ce w) (chk_t11 w)
  · exact tabChk_ok (chain_ce w) (chk_t12 w)
  · exact tabChk_ok (chain_ce w) (chk_t13 w)
  · exact tabChk_ok (chain_ce w) (chk_t14 w)
  · exact tabChk_ok (chain_ce w) (chk_t15 w)
  · exact tabChk_ok (chain_ce w) (chk_t16 w)
  · exact tabChk_ok (chain_ce w) (chk_t17 w)
  · exact tabChk_ok (chain_ce w) (chk_t18 w)
  · exact tabChk_ok (chain_ce w) (chk_t19 w)
  · exact tabChk_ok (chain_ce w) (chk_t20 w)
  · exact tabChk_ok (chain_ce w) (chk_t21 w)
  · exact tabChk_ok (chain_ce w) (chk_t22 w)
  · exact tabChk_ok (chain_ce w) (chk_t23 w)
  · exact tabChk_ok (chain_ce w) (chk_t24 w)
  · exact tabChk_ok (chain_ce w) (chk_t25 w)
  · exact tabChk_ok (chain_ce w) (chk_t26 w)
  · exact tabChk_ok (chain_ce w) (chk_t27 w)
  · exact tabChk_ok (chain_ce w) (chk_t28 w)
  · exact tabChk_ok (chain_ce w) (chk_t29 w)
  · exact tabChk_ok (chain_ce w) (chk_t30 w)
  · exact tabChk_ok (chain_ce w) (chk_t31 w)
  · exact tabChk_ok (chain_ce w) (chk_t32 w)
  · exact tabChk_ok (chain_ce w) (chk_t33 w)
  · exact tabChk_ok (chain_ce w) (chk_t34 w)
theorem plainNames_run (w : World) (hw : Wd w) : Calls Proofs.Tryz.prog 3 #[] w fun e w' => e = .returned (.bool true) ∧ RowKit.Below w.heap.size w w' :=
  law_of hw (chain_pn w) (tab_pn w) (chk_law w) rfl
end Go.Proofs.YtfbmkmonajdndaaGreatDoor.Ev
