/- New lists of ints. -/
import Derived.Test.YtjapijkgjgfcnaaDoorProg
import Derived.Test.YtjapijkgjgfcnaaDoorLib
import Derived.WalkKit
namespace Go.Proofs.YtjapijkgjgfcnaaDoor
open Go.RowKit
set_option linter.unusedVariables false

theorem Tryd.infoInt : (Tryd.prog.info? 3).map (fun i => (i.zero, i.size, i.bytes)) = some (some (.int .i64 0), 1, 8) := by kernel_rfl

/-- New ints are handed back. -/
def NewInts (w : World) (xs : List Int) (v : Value) (w' : World) : Prop :=
  w'.ownsRow w.heap.size 3 1 v xs.length (xs.map (.int .i64)) ∧ Below w.heap.size w w'

def RetInts (w : World) (xs : List Int) (e : Ending) (w' : World) : Prop := ∃ v, e = .returned v ∧ NewInts w xs v w'

theorem NewInts.ints {w w' : World} {xs : List Int} {v : Value} (h : NewInts w xs v w') : Ints w' v xs := .of_owns h.1

theorem Lies.newcells {w : World} {ad : Addr} {cs : List Value} (h : Lies w (some ad) cs) : ∀ j u, cs[j]? = some u → w.cell? (ad.add j) = some u := by
  intro j u hj
  obtain ⟨hj', rfl⟩ := List.getElem?_eq_some_iff.1 hj
  obtain ⟨b, o, e, hc⟩ := h j hj'
  obtain rfl : ad = ⟨b, o, none⟩ := by simpa using e
  rw [Addr.add_lit]; exact hc


end Go.Proofs.YtjapijkgjgfcnaaDoor
