/- lex: a name that is told stands in the text. Plain.
   parse: names that are not said. Plain.
   The law ParseUnsaid: names of functions that a text does not say make no difference. -/
import Derived.Test.YtijfnnjgcgmnaaaGreatDoorLexLaw
import Derived.Test.YtijfnnjgcgmnaaaGreatDoorPC
import Derived.Test.YtijfnnjgcgmnaaaGreatDoorPTrees
import Derived.Laws.AppendOwnNone
namespace Go.Proofs.YtijfnnjgcgmnaaaGreatDoor
open Go.RowKit Go.Shelf
set_option linter.unusedVariables false
set_option linter.unusedSimpArgs false

end Go.Proofs.YtijfnnjgcgmnaaaGreatDoor

namespace Go.Proofs.YtijfnnjgcgmnaaaGreatDoor.Par
open Go.RowKit Go.Shelf
set_option linter.unusedVariables false
set_option linter.unusedSimpArgs false

end Go.Proofs.YtijfnnjgcgmnaaaGreatDoor.Par

namespace Go.Proofs.YtijfnnjgcgmnaaaGreatDoor.Par
open Go.RowKit Go.Shelf
set_option linter.unusedVariables false
set_option linter.unusedSimpArgs false

set_option maxRecDepth 100000 in
theorem great18_any (S : ByteArray) (a : Option Addr) (n c : Nat) (w : World) :
    Calls Tryz.prog 8 #[.string S, .slice a n c] w fun e w' => e = .returned (.bool (decide (8000 < S.size) || decide (50 < n))) ∧ Below w.heap.size w w' := by
  obtain ⟨D, hD⟩ : ∃ d, (decide (8000 < S.size) || decide (50 < n)) = d := ⟨_, rfl⟩
  rw [hD]
  have HD := hid hD.symm
  clear hD
  generalize hN : S.size = N at *
  by_cases h1 : 8000 < N
  · have h1' : (8000 : Int) < (N : Int) := by omega
    have HN : Hid (D = true) := hid (by rw [HD.out]; simp [h1])
    clear HD
    go_enter Tryz.func8, Tryz.ntmps8
    go_wp2_with fail
    go_ret
    exact ⟨by rw [HN.out]; rfl, Below.refl _ _⟩
  · have h1' : ¬ (8000 : Int) < (N : Int) := by omega
    by_cases h2 : 50 < n
    · have h2' : (50 : Int) < (n : Int) := by omega
      have HN : Hid (D = true) := hid (by rw [HD.out]; simp [h2])
      clear HD
      go_enter Tryz.func8, Tryz.ntmps8
      go_wp2_with fail
      go_ret
      exact ⟨by rw [HN.out]; simp, Below.refl _ _⟩
    · have h2' : ¬ (50 : Int) < (n : Int) := by omega
      have HN : Hid (D = false) := hid (by rw [HD.out]; simp [h1, h2])
      clear HD
      go_enter Tryz.func8, Tryz.ntmps8
      go_wp2_with fail
      go_ret
      exact ⟨by rw [HN.out]; simp, Below.refl _ _⟩
end Go.Proofs.YtijfnnjgcgmnaaaGreatDoor.Par
