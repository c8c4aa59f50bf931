/- The reference's copy of a list of ints: new memory that reads the same. -/
import Derived.Test.YtcfjinbcjdjeaaaProg
import Derived.Test.YtcfjinbcjdjeaaaLib
import Derived.WalkKit
namespace Go.Proofs.Ytcfjinbcjdjeaaa
open Go.RowKit
set_option linter.unusedVariables false

theorem Try.infoInt : (Try.prog.info? 3).map (fun i => (i.zero, i.size, i.bytes)) = some (some (.int .i64 0), 1, 8) := by kernel_rfl

/-- New ints are handed back. -/
def NewInts (w : World) (xs : List Int) (v : Value) (w' : World) : Prop :=
  w'.ownsRow w.heap.size 3 1 v xs.length (xs.map (.int .i64)) ∧ Below w.heap.size w w'

def RetInts (w : World) (xs : List Int) (e : Ending) (w' : World) : Prop := ∃ v, e = .returned v ∧ NewInts w xs v w'

theorem NewInts.ints {w w' : World} {xs : List Int} {v : Value} (h : NewInts w xs v w') : Ints w' v xs := .of_owns h.1

theorem Lies.newcells {w : World} {ad : Addr} {cs : List Value} (h : Lies w (some ad) cs) : ∀ j u, cs[j]? = some u → w.cell? (ad.add j) = some u := by
  intro j u hj
  obtain ⟨hj', rfl⟩ := List.getElem?_eq_some_iff.1 hj
  obtain ⟨b, o, e, hc⟩ := h j hj'
  obtain rfl : ad = ⟨b, o, none⟩ := by simpa using e
  rw [Addr.add_lit]; exact hc

set_option maxHeartbeats 400000 in
theorem rints_any (v : Value) (xs : List Int) (w : World) (hx : Ints w v xs) (hl : xs.length ≤ 1000000000) :
    Calls Try.prog 4 #[v] w (RetInts w xs) := by
  obtain ⟨a, cap, rfl, h1, h2, h3, hc⟩ := hx
  obtain ⟨i0, hi, hz0, hz1, hz2⟩ := info_parts Try.infoInt
  cases a with
  | none =>
    obtain rfl : xs = [] := by
      cases xs with
      | nil => rfl
      | cons x r => obtain ⟨b, o, e, _⟩ := hc 0 (by simp); simp at e
    obtain rfl : cap = 0 := h3 rfl
    go_enter Try.func4, Try.ntmps4
    go_wp2
    go_ret
    exact ⟨_, rfl, World.ownsRow_nil _ _ _ _, Below.refl _ _⟩
  | some ad =>
    have hnew := hc.newcells
    clear h3 hc
    go_enter Try.func4, Try.ntmps4
    go_wp2_with (at_builtin; refine wpList_append_own _ rfl _ _ 22 rfl w.heap.size 3 i0 (.int .i64 0) 1 8 Try.underlying22 hi hz0 hz1 hz2 rfl (by decide) _ _ _ rfl (World.ownsRow_nil _ _ _ _) ad xs.length cap (xs.map (.int .i64)) rfl (by simp) hnew (ints_oneCell _ _) (by simp [maxLen]; omega) (by omega) (Nat.le_refl _) ?_)
    intro v' w' hown hgrow _
    go_wp2
    go_ret
    exact ⟨_, rfl, hown, (Below.refl _ _).grown hgrow (Nat.le_refl _) (fun k e => by simp [Value.ownBlock] at e)⟩

end Go.Proofs.Ytcfjinbcjdjeaaa
