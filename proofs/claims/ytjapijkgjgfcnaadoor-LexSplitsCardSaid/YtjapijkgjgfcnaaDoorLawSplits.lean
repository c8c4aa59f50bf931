/- LexSplits: the walk of the law. -/
import Derived.Test.YtjapijkgjgfcnaaDoorProg
import Derived.Test.YtjapijkgjgfcnaaDoorRSplit
namespace Go.Proofs.YtjapijkgjgfcnaaDoor
open Go.RowKit Go.Shelf
set_option linter.unusedVariables false

set_option maxRecDepth 100000 in
set_option maxHeartbeats 1000000 in
theorem splits_walk (s nm : ByteArray) (w : World) (hs0 : s.size ≤ 9223372036854775807) (hn0 : nm.size ≤ 9223372036854775807) :
    Calls Tryd.prog 7 #[.string s, .string nm] w fun e w' => e = .returned (.bool true) ∧ Below w.heap.size w w' := by
  by_cases hl1 : 20000 < s.size
  · have hd : decide ((20000 : Int) < (s.size : Int)) = true := by simp; omega
    go_enter Tryd.func7, Tryd.ntmps7
    go_wp2_with fail
    go_ret
    exact ⟨rfl, Below.refl _ _⟩
  by_cases hl2 : 1000 < nm.size
  · have hd : decide ((20000 : Int) < (s.size : Int)) = false := by simp; omega
    have hd2 : decide ((1000 : Int) < (nm.size : Int)) = true := by simp; omega
    go_enter Tryd.func7, Tryd.ntmps7
    go_wp2_with fail
    go_ret
    exact ⟨rfl, Below.refl _ _⟩
  have hd : decide ((20000 : Int) < (s.size : Int)) = false := by simp; omega
  have hd2 : decide ((1000 : Int) < (nm.size : Int)) = false := by simp; omega
  go_enter Tryd.func7, Tryd.ntmps7
  go_wp2_with fail
  refine (split_any s _ (by omega)).mono ?_
  rintro e w1 ⟨va, rfl, ho, hb1⟩
  go_wp2_with fail
  refine (rsplit_any s _ (by omega)).mono ?_
  rintro e w2 ⟨vb, rfl, hs, hb2⟩
  have ia : Strs w2 va (splitOf s) := (Strs.of_owns ho).below hb2
  have ib : Strs w2 vb (splitOf s) := Strs.of_owns hs
  have hB2 : Below w.heap.size w w2 := hb1.trans (hb2.mono hb1.size)
  clear ho hs
  go_wp2_with fail
  refine (rtexts_any va vb _ _ _ ia ib).mono ?_
  rintro e w3 ⟨rfl, hq3⟩
  have hB3 : Below w.heap.size w w3 := hB2.trans (hq3.below _)
  have hdec : decide (splitOf s = splitOf s) = true := by simp
  rw [hdec]
  clear hq3 ia ib hB2 hb2 hb1
  go_wp2_with fail
  refine (names_any nm _ (by omega)).mono ?_
  rintro e w4 ⟨rfl, hb4⟩
  have hB4 : Below w.heap.size w w4 := hB3.trans (hb4.mono hB3.size)
  clear hb4 hB3
  generalize hbn : namB nm = b at *
  have Hbn := hid hbn
  clear hbn
  go_wp2_with fail
  refine (rnames_any nm _ (by omega)).mono ?_
  rintro e w5 ⟨rfl, rfl⟩
  rw [Hbn.out]
  have hbb : (b == b) = true := by simp
  go_wp2_with fail
  go_ret
  exact ⟨rfl, hB4⟩

end Go.Proofs.YtjapijkgjgfcnaaDoor
