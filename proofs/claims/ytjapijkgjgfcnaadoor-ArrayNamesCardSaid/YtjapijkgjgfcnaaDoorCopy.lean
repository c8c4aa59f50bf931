/- array.Copy, with slices.Clone of ints. -/
import Derived.Test.YtjapijkgjgfcnaaDoorAlive
import Derived.Deep.RegionHeld3
import Derived.Deep.AppendLies
import Derived.Deep.Onto
namespace Go.Proofs.YtjapijkgjgfcnaaDoor
open Go.RowKit Go.Shelf
set_option linter.unusedVariables false

set_option maxRecDepth 100000 in
/-- slices.Clone of ints. -/
theorem clone_ints (v : Value) (xs : List Int) (w : World) (hx : Ints w v xs) (hl : xs.length ≤ 1000000) :
    Calls Tryd.prog 47 #[v] w fun e w' => ∃ v', e = .returned v' ∧ w'.ownsRow w.heap.size 3 1 v' xs.length (xs.map (.int .i64)) ∧ Below w.heap.size w w' := by
  obtain ⟨a, cap, rfl, h1, h2, h3, hc⟩ := hx.parts
  cases a with
  | none =>
    have : xs = [] := List.eq_nil_of_length_eq_zero (by have := h3 rfl; omega)
    subst this
    refine (Tryd.slices_Clone_nil_f47 0 cap w).mono ?_
    rintro e w' ⟨rfl, rfl⟩
    exact ⟨_, rfl, World.ownsRow_nil _ _ _ _, Below.refl _ _⟩
  | some ad =>
    have hinfo : (Tryd.prog.info? 3).map (fun i => (i.zero, i.size, i.bytes)) = some (some (.int .i64 0), 1, 8) := by kernel_rfl
    obtain ⟨i0, hi, hz0, hz1, hz2⟩ := info_parts hinfo
    rcases hc with h0 | ⟨b, o, e, hc⟩
    · subst h0
      have q22 : ∀ (w : World) (a : Option Addr) (n c n' c' : Nat), (binOp .eql 22 (.slice a n c) (.slice none n' c')).run Tryd.prog w = .ok (.bool a.isNone) w := fun w a n c n' c' => Lib.run_eql_slice_nil w _ _ a n c n' c' Tryd.underlying22
      go_enter Tryd.func47, Tryd.ntmps47
      go_wp2_with (at_builtin; refine wpList_append_own _ rfl _ _ 22 rfl w.heap.size 3 i0 (.int .i64 0) 1 8 Tryd.underlying22 hi hz0 hz1 hz2 rfl (by decide) _ _ _ rfl (World.ownsRow_made w #[] 0 (Nat.le_refl _) (Nat.zero_le _) rfl) ad 0 cap [] rfl rfl (by intro j u hj; simp at hj) (by intro u hu; cases hu) (by unfold maxLen; omega) (by omega) (by simp) ?_)
      intro v' w1 hown hgrow hnil
      go_wp2
      go_ret
      exact ⟨v', rfl, by simpa using hown, ((Below.refl _ w).alloc (Nat.le_refl _) _).grown hgrow (by simp) (by intro k hk; simp [Value.ownBlock] at hk; omega)⟩
    obtain rfl : ad = ⟨b, o, none⟩ := by simpa using e
    refine (Tryd.slices_Clone_f47 i0 (.int .i64 0) 1 8 hi hz0 hz1 hz2 rfl (by decide) Tryd.sizeOf3 b o xs.length cap (xs.map (.int .i64)) w (by simp) (by simp [maxLen]; omega) (by omega) (fun j u hj => by
      obtain ⟨hj', rfl⟩ := List.getElem?_eq_some_iff.1 hj
      have hj2 : j < xs.length := by simpa using hj'
      have := hc j hj2
      rw [List.getElem?_eq_getElem hj2, Option.getD_some] at this
      rw [List.getElem_map]; exact this) (by
      intro u hu; obtain ⟨n, _, rfl⟩ := List.mem_map.1 hu; rfl)).mono ?_
    rintro e w' ⟨v', rfl, h, -, hb⟩
    exact ⟨v', rfl, h, hb⟩


theorem box_keep {w' w'' : World} {b : Nat} {v0 v1 v2 : Value} (h : Box3 w' b v0 v1 v2) (hb : Below w'.heap.size w' w'') : Box3 w'' b v0 v1 v2 := h.below hb (World.block_lt_of_cell? w' _ h.1)

theorem own_below {B : Nat} {e : TypeId} {k : Nat} {v : Value} {n : Nat} {xs : List Value} {w w' : World} (h : w.ownsRow B e k v n xs) (hb : Below w.heap.size w w') : w'.ownsRow B e k v n xs :=
  h.kept (row := none) ⟨hb.os, hb.tape, hb.output, hb.size, fun j hj _ => hb.block j hj⟩ (by cases hv : v.ownBlock <;> simp)

theorem own_slice {w : World} {base size n : Nat} {e : TypeId} {v : Value} {xs : List Value} (h : w.ownsRow base e size v n xs) : ∃ a c, v = .slice a n c := by
  rcases h.2 with ⟨hv, h0⟩ | ⟨g, cap, cur, hv, _⟩
  · exact ⟨none, 0, by rw [hv, h0]⟩
  · exact ⟨_, _, hv⟩

theorem zero_facts {w' : World} {R : Nat} {u0 u1 u2 : Value} {T : TypeId} (z : w'.heap[R]? = some (.cells #[u0, u1, u2] T)) :
    w'.cell? ⟨R, 0, none⟩ = some u0 ∧ w'.cell? ⟨R, 1, none⟩ = some u1 ∧ w'.cell? ⟨R, 2, none⟩ = some u2 ∧
      w'.frozen? ⟨R, 0, none⟩ = false ∧ w'.frozen? ⟨R, 1, none⟩ = false ∧ w'.frozen? ⟨R, 2, none⟩ = false :=
  ⟨by rw [Lib.cell_of_heap z]; rfl, by rw [Lib.cell_of_heap z]; rfl, by rw [Lib.cell_of_heap z]; rfl, Lib.frozen_of_heap z 0, Lib.frozen_of_heap z 1, Lib.frozen_of_heap z 2⟩
theorem box_set {w' : World} {b R : Nat} {v0 v1 v2 u0 u1 u2 : Value} (h : Box3 w' b v0 v1 v2) (hne : b ≠ R) :
    Box3 (((w'.setCell ⟨R, 0, none⟩ u0).setCell ⟨R, 1, none⟩ u1).setCell ⟨R, 2, none⟩ u2) b v0 v1 v2 :=
  ⟨by rw [cell_far _ _ _ _ hne, cell_far _ _ _ _ hne, cell_far _ _ _ _ hne]; exact h.1, by rw [cell_far _ _ _ _ hne, cell_far _ _ _ _ hne, cell_far _ _ _ _ hne]; exact h.2.1,
   by rw [cell_far _ _ _ _ hne, cell_far _ _ _ _ hne, cell_far _ _ _ _ hne]; exact h.2.2⟩

/-- What is answered of a copy: both slices own their rows, the elements' behind the shape's. -/
def Copied (w w' : World) (v : Value) (x : Arr) : Prop :=
  ∃ vs ve m, v = .agg #[.int .i64 x.kind, vs, ve] ∧ w.heap.size ≤ m ∧ w'.ownsRow w.heap.size 3 1 vs x.shape.length (x.shape.map (.int .i64)) ∧ (∀ k, vs.ownBlock = some k → k < m) ∧
    w'.ownsRow m 2 1 ve x.elems.length (x.elems.map (.int .i64))

set_option maxRecDepth 100000 in
set_option maxHeartbeats 1000000 in
theorem copy_any (v : Value) (x : Arr) (w : World) (hx : IsArr w v x) (hs4 : x.shape.length ≤ 1000000) (he4 : x.elems.length ≤ 1000000) :
    Calls Tryd.prog 28 #[v] w fun e w' => ∃ v', e = .returned v' ∧ Copied w w' v' x ∧ Below w.heap.size w w' := by
  have hB2 : ∀ o o', Below w.heap.size w ((w.alloc o).alloc o') := fun o o' => ((Below.refl _ w).alloc (Nat.le_refl _) o).alloc (by simp) o'
  obtain ⟨vs, ve, rfl, hs, he, -⟩ := hx
  have gs := fun o o' => hs.below (hB2 o o')
  have ge := fun o o' => he.below (hB2 o o')
  obtain ⟨as_, cs, rfl, s1, s2, s3, -⟩ := hs.parts
  obtain ⟨ae, ce, rfl, e1, e2, e3, -⟩ := he.parts
  clear hs he
  go_enter Tryd.func28, Tryd.ntmps28
  go_wp2_with fail
  go_region_held3 (fun w' => w'.cell? ⟨w.heap.size, 0, none⟩ = some (.int .i64 x.kind) ∧ w'.cell? ⟨w.heap.size, 1, none⟩ = some (.slice as_ x.shape.length cs) ∧ w'.cell? ⟨w.heap.size, 2, none⟩ = some (.slice ae x.elems.length ce))
    (first | exact box_set x2 (by omega) | exact x2 | exact x1 | exact ⟨by go_simp, by go_simp, by go_simp⟩ | fail)
    (first
      | (go_at_call 47; refine (clone_ints _ x.shape _ ((gs _ _).below (below_drewN (Below.refl _ _) _)) hs4).mono ?_; rintro e w1 ⟨u1, rfl, o1, b1⟩; obtain ⟨a1, d1, rfl⟩ := own_slice o1; have x1 := box_keep (b := w.heap.size) (v0 := .int .i64 x.kind) (v1 := .slice as_ x.shape.length cs) (v2 := .slice ae x.elems.length ce) ⟨by go_simp, by go_simp, by go_simp⟩ b1; have z1 := (b1.block (w.heap.size + 1) (by simp)).trans (heap_alloc2_new _ _ _))
      | (go_at_call 48; refine (clone64_any _ x.elems _ (((ge _ _).below (below_drewN (Below.refl _ _) _)).below b1) he4).mono ?_; rintro e w2 ⟨u2, rfl, o2, b2⟩; obtain ⟨a2, d2, rfl⟩ := own_slice o2; have x2 := box_keep x1 b2; have z2 := (b2.block (w.heap.size + 1) (by have := b1.size; simp at this; omega)).trans z1; obtain ⟨k0, k1, k2, k3, k4, k5⟩ := zero_facts z2))
  go_wp2
  have hs1 := b1.size
  have hs2 := b2.size
  simp at hs1
  have hW := heap_set3 z2 (.int .i64 x.kind) (.slice a1 x.shape.length d1) (.slice a2 x.elems.length d2)
  have q1 := ownsRow_setCell_below (ownsRow_setCell_below (ownsRow_setCell_below (own_below o1 b2) (a := ⟨w.heap.size + 1, 0, none⟩) (by simp) (.int .i64 x.kind)) (a := ⟨w.heap.size + 1, 1, none⟩) (by simp) (.slice a1 x.shape.length d1)) (a := ⟨w.heap.size + 1, 2, none⟩) (by simp) (.slice a2 x.elems.length d2)
  have q2 := ownsRow_setCell_below (ownsRow_setCell_below (ownsRow_setCell_below o2 (a := ⟨w.heap.size + 1, 0, none⟩) (by simp; omega) (.int .i64 x.kind)) (a := ⟨w.heap.size + 1, 1, none⟩) (by simp; omega) (.slice a1 x.shape.length d1)) (a := ⟨w.heap.size + 1, 2, none⟩) (by simp; omega) (.slice a2 x.elems.length d2)
  have bw := (below_drewN (hB2 _ _) 1).trans ((b1.trans (b2.mono b1.size)).mono (by simp; omega))
  have qb := ((bw.setCell (p := ⟨w.heap.size + 1, 0, none⟩) (by simp) (.int .i64 x.kind)).setCell (p := ⟨w.heap.size + 1, 1, none⟩) (by simp) (.slice a1 x.shape.length d1)).setCell (p := ⟨w.heap.size + 1, 2, none⟩) (by simp) (.slice a2 x.elems.length d2)
  refine bodyPost_ret (results_cell_row rfl _ _ (w.heap.size + 1) _ _ _ _ rfl hW Tryd.underlying35 rfl (by kernel_rfl)) rfl ?_
  exact ⟨_, rfl, ⟨_, _, w1.heap.size, rfl, by omega, q1.mono (by simp; omega), fun k hk => (o1.lt k hk).2, q2⟩, qb⟩
end Go.Proofs.YtjapijkgjgfcnaaDoor
