/- The law's program: what a function does. -/
import Derived.Test.YthikcbbfnicnlaaGreatDoorProg
import Derived.WalkKit
import Derived.WalkSmall
import Derived.Shelf.Abstract
import Derived.Deep.Draws
import Derived.Deep.RegionHeld3
import Derived.Laws.Rows
import Derived.RangeFuncNested
import Derived.OwnWalkIn
import Derived.TacticsInMore
import Derived.Deep.QuietTactic
import Derived.BigQuiet
import Derived.StillTailTactics
import Derived.OrdersIn
namespace Go.Proofs
open Go.RowKit
set_option linter.unusedVariables false
set_option linter.unusedSimpArgs false
theorem Tryz.key_w (b o : Nat) (x y : Int) (w : World) (h0 : w.cell? ⟨b, o, none⟩ = some (.int .i64 x)) (h1 : w.cell? ⟨b, o + 1, none⟩ = some (.int .i64 y)) :
    Calls Tryz.prog 180 #[.pointer (some ⟨b, o, none⟩)] w fun e w' => e = .returned (.agg #[.int .i64 x, .int .i64 y]) ∧ Below w.heap.size w w' := by
  have hb := World.block_lt_of_cell? w _ h0
  have hb : b < w.heap.size := hb
  have hne : ¬ (b = w.heap.size) := by omega
  have hne' : ¬ (w.heap.size = b) := by omega
  have hA0 : ∀ O, (w.alloc O).cell? ⟨b, o, none⟩ = some (.int .i64 x) := fun O => ((Below.refl _ w).alloc (Nat.le_refl _) O).cell hb |>.trans h0
  have hA1 : ∀ O, (w.alloc O).cell? ⟨b, o + 1, none⟩ = some (.int .i64 y) := fun O => ((Below.refl _ w).alloc (Nat.le_refl _) O).cell hb |>.trans h1
  have hD0 : ∀ O, (w.alloc O).drew.cell? ⟨b, o, none⟩ = some (.int .i64 x) := hA0
  have hD1 : ∀ O, (w.alloc O).drew.cell? ⟨b, o + 1, none⟩ = some (.int .i64 y) := hA1
  go_enter Tryz.func180, Tryz.ntmps180
  go_wp2_with fail
  go_region
  go_wp2_with fail
  refine bodyPost_ret (results_cell_row rfl _ _ w.heap.size 205 #[.int .i64 x, .int .i64 y] (0, 0) _ rfl (by show (w.heap.push _)[w.heap.size]? = _; simp) Tryz.underlying205 rfl (by kernel_rfl)) rfl ?_
  exact ⟨rfl, ((Below.refl _ w).alloc (Nat.le_refl _) _).drew⟩
set_option maxHeartbeats 1000000 in
theorem Tryz.at1_w (b o c p : Nat) (x y u v : Int) (w : World) (h0 : w.cell? ⟨b, o, none⟩ = some (.int .i64 x)) (h1 : w.cell? ⟨b, o + 1, none⟩ = some (.int .i64 y))
    (h2 : w.cell? ⟨c, p, none⟩ = some (.int .i64 u)) (h3 : w.cell? ⟨c, p + 1, none⟩ = some (.int .i64 v)) :
    Calls Tryz.prog 229 #[.pointer (some ⟨b, o, none⟩), .pointer (some ⟨c, p, none⟩)] w fun e w' => e = .returned (.bool (x == u && y == v)) ∧ Below w.heap.size w w' := by
  have hc := World.block_lt_of_cell? w _ h2
  have hc : c < w.heap.size := hc
  have g2 : ∀ V : World, Below w.heap.size w V → V.cell? ⟨c, p, none⟩ = some (.int .i64 u) := fun V h => (h.cell hc).trans h2
  have g3 : ∀ V : World, Below w.heap.size w V → V.cell? ⟨c, p + 1, none⟩ = some (.int .i64 v) := fun V h => (h.cell hc).trans h3
  cases hx : (x == u) <;> cases hy : (y == v)
  all_goals
    have hx' : (decide (x = u)) = (x == u) := by by_cases h : x = u <;> simp [h]
    have hy' : (decide (y = v)) = (y == v) := by by_cases h : y = v <;> simp [h]
    rw [hx] at hx'
    rw [hy] at hy'
    simp only [decide_eq_true_eq, decide_eq_false_iff_not] at hx' hy'
    go_enter Tryz.func229, Tryz.ntmps229
    go_wp2_with fail
    go_region_held3 (fun w' => w'.cell? ⟨c, p, none⟩ = some (.int .i64 u) ∧ w'.cell? ⟨c, p + 1, none⟩ = some (.int .i64 v))
      (first | exact ⟨h2, h3⟩ | exact ⟨g2 _ hb, g3 _ hb⟩ | exact ⟨g2 _ ((Below.refl _ w).drew.trans hb), g3 _ ((Below.refl _ w).drew.trans hb)⟩ | fail)
      ((go_at_call 180; refine (Tryz.key_w b o x y _ (by exact h0) (by exact h1)).mono ?_; rintro e w' ⟨rfl, hb⟩))
    go_wp2_with fail
    go_ret
    first
      | exact ⟨rfl, hb⟩
      | exact ⟨rfl, (Below.refl _ w).drew.trans hb⟩
end Go.Proofs
