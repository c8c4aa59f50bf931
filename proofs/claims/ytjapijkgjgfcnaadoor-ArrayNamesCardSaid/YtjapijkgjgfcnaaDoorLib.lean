/- What a slice of integers reads as; small facts on worlds. No program is named here. -/
import Derived.WalkKit
import Derived.WalkSmall
import Derived.Deep.Draws

namespace Go.Proofs.YtjapijkgjgfcnaaDoor
open Go.RowKit
set_option linter.unusedVariables false

theorem hid {p : Prop} (h : p) : Hid p := h

/-- The cells cs lie at a. -/
def Lies (w : World) (a : Option Addr) (cs : List Value) : Prop :=
  ∀ i (h : i < cs.length), ∃ b o, a = some ⟨b, o, none⟩ ∧ w.cell? ⟨b, o + i, none⟩ = some cs[i]

/-- A slice of ints that reads as a list. -/
def Ints (w : World) (v : Value) (xs : List Int) : Prop :=
  ∃ a cap, v = .slice a xs.length cap ∧ xs.length ≤ cap ∧ cap ≤ 9223372036854775807 ∧ (a = none → cap = 0) ∧ Lies w a (xs.map (.int .i64))

theorem Lies.below {w w' : World} {a : Option Addr} {cs : List Value} (h : Lies w a cs) (hb : Below w.heap.size w w') : Lies w' a cs := by
  intro i hi
  obtain ⟨b, o, e, hc⟩ := h i hi
  exact ⟨b, o, e, (hb.cell (World.block_lt_of_cell? w _ hc)).trans hc⟩

theorem Ints.below {w w' : World} {v : Value} {xs : List Int} (h : Ints w v xs) (hb : Below w.heap.size w w') : Ints w' v xs := by
  obtain ⟨a, cap, e, h1, h2, h3, h4⟩ := h
  exact ⟨a, cap, e, h1, h2, h3, h4.below hb⟩

theorem Ints.nil (w : World) : Ints w (.slice none 0 0) [] :=
  ⟨none, 0, rfl, Nat.le_refl _, by omega, fun _ => rfl, fun i hi => by simp at hi⟩

theorem Ints.cell {w : World} {a : Option Addr} {n cap : Nat} {xs : List Int} (h : Ints w (.slice a n cap) xs) (i : Nat) (hi : i < xs.length) :
    ∃ b o, a = some ⟨b, o, none⟩ ∧ w.cell? ⟨b, o + i, none⟩ = some (.int .i64 (xs[i]?.getD 0)) := by
  obtain ⟨a', cap', e, h1, h2, h3, h4⟩ := h
  obtain ⟨rfl, rfl, rfl⟩ : a = a' ∧ n = xs.length ∧ cap = cap' := by simpa using e
  obtain ⟨b, o, e, hc⟩ := h4 i (by simpa using hi)
  exact ⟨b, o, e, by simpa [hi] using hc⟩

/-- What an Ints says, taken apart. -/
theorem Ints.parts {w : World} {v : Value} {xs : List Int} (h : Ints w v xs) :
    ∃ a cap, v = .slice a xs.length cap ∧ xs.length ≤ cap ∧ cap ≤ 9223372036854775807 ∧ (a = none → cap = 0) ∧
      (xs = [] ∨ ∃ b o, a = some ⟨b, o, none⟩ ∧ ∀ i, i < xs.length → w.cell? ⟨b, o + i, none⟩ = some (.int .i64 (xs[i]?.getD 0))) := by
  obtain ⟨a, cap, e, h1, h2, h3, h4⟩ := h
  refine ⟨a, cap, e, h1, h2, h3, ?_⟩
  cases xs with
  | nil => exact .inl rfl
  | cons x r =>
    obtain ⟨b, o, e', _⟩ := h4 0 (by simp)
    refine .inr ⟨b, o, e', fun i hi => ?_⟩
    obtain ⟨b', o', e'', hc⟩ := h4 i (by simpa using hi)
    obtain ⟨rfl, rfl⟩ : b = b' ∧ o = o' := by rw [e'] at e''; simpa using e''
    rw [hc, List.getElem_map, List.getElem?_eq_getElem hi, Option.getD_some]

theorem Ints.of_owns {w : World} {base e : Nat} {v : Value} {xs : List Int} (h : w.ownsRow base e 1 v xs.length (xs.map (.int .i64))) : Ints w v xs := by
  obtain ⟨h1, ⟨rfl, h2⟩ | ⟨g, cap, cur, rfl, h3, h4, h5, h6, h7, h8⟩⟩ := h
  · obtain rfl : xs = [] := List.eq_nil_of_length_eq_zero h2
    exact .nil w
  · refine ⟨some ⟨g, 0, none⟩, cap, rfl, h5, by simpa [maxLen] using h6, by simp, fun i hi => ⟨g, 0, rfl, ?_⟩⟩
    have hi' : i < xs.length := by simpa using hi
    have hh : cur.toList[i]? = some (.int .i64 xs[i]) := by
      have : (cur.toList.take (xs.length * 1))[i]? = some (.int .i64 xs[i]) := by rw [h8]; simp [hi']
      rw [List.getElem?_take] at this
      rw [if_pos (by omega)] at this
      exact this
    simp only [World.cell?, h4]
    simpa using hh

theorem Ints.of_row {w : World} {x : Addr} {len cap : Nat} {zs : List Int} (hl : len ≤ cap) (hm : cap ≤ 9223372036854775807) (hz : zs.length = cap) (hc : ∀ i, i < zs.length → w.cell? (x.add i) = some (.int .i64 (zs.getD i 0))) :
    Ints w (.slice (some x) len cap) (zs.take len) := by
  have hlen : (zs.take len).length = len := by rw [List.length_take]; omega
  refine ⟨some x, cap, by rw [hlen], by omega, hm, by simp, fun i hi => ?_⟩
  have hi' : i < len := by rw [List.length_map, hlen] at hi; exact hi
  have h0 := hc i (by omega)
  obtain ⟨b, o, sp⟩ := x
  have hsp : sp = none := by
    cases sp with
    | none => rfl
    | some s =>
      have h00 := hc 0 (by omega)
      rw [show (Addr.add ⟨b, o, some s⟩ 0) = ⟨b, o, some s⟩ from rfl, World.cell?] at h00
      split at h00 <;> simp at h00
  subst hsp
  refine ⟨b, o, rfl, ?_⟩
  rw [Addr.add_lit] at h0
  rw [h0, List.getElem_map, List.getElem_take]
  simp [List.getD, show i < zs.length by omega]

theorem cell_alloc {w : World} {a : Addr} {v : Value} (o : Obj) (h : w.cell? a = some v) : (w.alloc o).cell? a = some v :=
  (((Below.refl _ w).alloc (Nat.le_refl _) o).cell (World.block_lt_of_cell? w _ h)).trans h

theorem one_new (w : World) (x : Value) (t : TypeId) : ∀ (j : Nat) (u : Value), [x][j]? = some u → (w.alloc (.cells #[x] t)).cell? ((⟨w.heap.size, 0, none⟩ : Addr).add j) = some u := by
  intro j u hj
  match j, hj with
  | 0, hj =>
    obtain rfl : x = u := by simpa using hj
    rw [show (Addr.add ⟨w.heap.size, 0, none⟩ 0) = ⟨w.heap.size, 0, none⟩ from rfl, World.cell?, heap_alloc_new w (.cells #[x] t)]
    rfl
  | j + 1, hj => simp at hj

/-- Some draws, nothing else. -/
def Quiet (w w' : World) : Prop := ∃ n, w' = w.drewN n

theorem Quiet.refl (w : World) : Quiet w w := ⟨0, rfl⟩
theorem Quiet.mk (w : World) (n : Nat) : Quiet w (w.drewN n) := ⟨n, rfl⟩
theorem Quiet.trans {a b c : World} (h : Quiet a b) (k : Quiet b c) : Quiet a c := by
  obtain ⟨n, rfl⟩ := h
  obtain ⟨m, rfl⟩ := k
  exact ⟨n + m, by simp⟩
theorem Quiet.below {w w' : World} (h : Quiet w w') (B : Nat) : Below B w w' := by
  obtain ⟨n, rfl⟩ := h
  exact below_drewN (Below.refl _ _) n
theorem Ints.drewN {w : World} {v : Value} {xs : List Int} (h : Ints w v xs) (n : Nat) : Ints (w.drewN n) v xs := h.below ((Quiet.mk w n).below _)
theorem Ints.quiet {w w' : World} {v : Value} {xs : List Int} (h : Ints w v xs) (k : Quiet w w') : Ints w' v xs := h.below (k.below _)

end Go.Proofs.YtjapijkgjgfcnaaDoor
