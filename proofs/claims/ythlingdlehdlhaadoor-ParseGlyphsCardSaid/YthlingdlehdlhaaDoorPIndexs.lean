/- parse: an operand with an index: its plain law, where its walk stands.
   parse: an operand with an index, walked. -/
import Derived.Test.YthlingdlehdlhaaDoorPOper
import Derived.Test.YthlingdlehdlhaaDoorPLines
namespace Go.Proofs.YthlingdlehdlhaaDoor.Par
open Go.RowKit Go.Shelf
set_option linter.unusedVariables false
set_option linter.unusedSimpArgs false

/-- Expressions ahead of others. -/
def appE (xs : List Ex) (t : Tr) : Tr := xs.foldr Ex.cons t
theorem appE_nil (xs : List Ex) : appE xs .nil = chainE xs := by
  induction xs with
  | nil => rfl
  | cons y r ih => show y.cons (appE r .nil) = y.cons (chainE r); rw [ih]
theorem appE_snoc (xs : List Ex) (y : Ex) (t : Tr) : appE (xs ++ [y]) t = appE xs (y.cons t) := by unfold appE; rw [List.foldr_append]; rfl
theorem chainE_len (xs : List Ex) : (chainE xs).len = xs.length := by
  induction xs with
  | nil => rfl
  | cons y r ih => show (chainE r).len + 1 = r.length + 1; rw [ih]
theorem Cells.inv_ex {Sb : Nat → Prop} {w : World} {z : Ex} {t : Tr} {us : List (List Value)} (h : Cells Sb w (z.cons t) us) : ∃ vs ve vb vc us', us = exL z vs ve vb vc :: us' ∧ Fresh Sb w (Ints · vs z.val.shape) ∧ Fresh Sb w (Ints · ve z.val.elems) ∧ Rng z.val.elems ∧ Fresh Sb w (IsTs · vb z.fn.body) ∧ Fresh Sb w (IsTs · vc z.kids) ∧ Cells Sb w t us' := by
  generalize ht : z.cons t = s at h
  cases h with
  | nil => cases ht
  | ln => unfold Ln.cons Ex.cons at ht; cases ht
  | ex y vs ve vb vc r us' i1 i2 i3 j1 j2 c =>
    unfold Ex.cons at ht
    obtain ⟨k, n, v, ⟨fk, ff, fg, fn, fb⟩, ks⟩ := z
    obtain ⟨k', n', v', ⟨fk', ff', fg', fn', fb'⟩, ks'⟩ := y
    simp only [Tr.ex.injEq] at ht
    obtain ⟨rfl, rfl, rfl, rfl, rfl, rfl, rfl, rfl, rfl, rfl⟩ := ht
    exact ⟨vs, ve, vb, vc, us', rfl, i1, i2, i3, j1, j2, c⟩
theorem Cells.snocE {Sb : Nat → Prop} {w : World} {xs : List Ex} {us : List (List Value)} (h : Cells Sb w (chainE xs) us) {y : Ex} {vs ve vb vc : Value} (i1 : Fresh Sb w (Ints · vs y.val.shape)) (i2 : Fresh Sb w (Ints · ve y.val.elems)) (i3 : Rng y.val.elems) (j1 : Fresh Sb w (IsTs · vb y.fn.body)) (j2 : Fresh Sb w (IsTs · vc y.kids)) : Cells Sb w (chainE (xs ++ [y])) (us ++ [exL y vs ve vb vc]) := by
  induction xs generalizing us with
  | nil =>
    have : us = [] := by have := h.len; exact List.eq_nil_of_length_eq_zero this
    subst this
    exact .ex y vs ve vb vc .nil [] i1 i2 i3 j1 j2 .nil
  | cons z r ih =>
    obtain ⟨vs', ve', vb', vc', us', rfl, k1, k2, k3, l1, l2, c⟩ := Cells.inv_ex (z := z) (t := chainE r) h
    exact .ex _ _ _ _ _ _ _ k1 k2 k3 l1 l2 (ih c)
def axisF (F : List (List UInt8)) (k : Nat) (ins : Bool) (a : List Tok) : Option Ex := if a = [] then some ⟨8, [], noArr, noFn, .nil⟩ else exprF F k ins a
/-- Where the reading of axes stands. -/
def AxesSt (F : List (List UInt8)) (n : Nat) (ins bad0 : Bool) (lawA : Option Tr) (bo : Bool) (xs : List Ex) (rest : List (List Tok)) : Prop :=
  (bo = true ∧ (bad0 = true ∨ lawA = none)) ∨ (bo = false ∧ bad0 = false ∧ ∃ k, 8 * need rest + 1 ≤ k ∧ k ≤ n ∧ lawA = (axesF F k ins rest).map (appE xs))
theorem AxesSt.start (F : List (List UInt8)) (n : Nat) (ins bad0 : Bool) (ls : List (List Tok)) (h : 8 * need ls + 1 ≤ n) : AxesSt F n ins bad0 (axesF F n ins ls) bad0 [] ls := by
  cases bad0 with
  | true => exact .inl ⟨rfl, .inl rfl⟩
  | false => exact .inr ⟨rfl, rfl, n, h, Nat.le_refl _, by cases axesF F n ins ls <;> rfl⟩
theorem AxesSt.fuel {F : List (List UInt8)} {n : Nat} {ins bad0 : Bool} {lawA : Option Tr} {bo : Bool} {xs : List Ex} {a : List Tok} {rest : List (List Tok)} (h : AxesSt F n ins bad0 lawA bo xs (a :: rest)) (hn : 8 * a.length + 3 ≤ n) :
    ∃ k, 8 * a.length + 3 ≤ k ∧ k ≤ n ∧ ∀ bo2 x, Res bo bo2 (axisF F k ins a) x → AxesSt F n ins bad0 lawA bo2 (xs ++ [x]) rest := by
  rcases h with ⟨rfl, h⟩ | ⟨rfl, rfl, k, h1, h2, h3⟩
  · refine ⟨n, hn, Nat.le_refl _, fun bo2 x hr => .inl ⟨?_, h⟩⟩
    have := hr.1; simpa using this
  · obtain ⟨k, rfl⟩ : ∃ j, k = j + 1 := ⟨k - 1, by omega⟩
    rw [need_cons] at h1
    refine ⟨k, by omega, by omega, fun bo2 x hr => ?_⟩
    rw [axesF] at h3
    change lawA = Option.map (appE xs) (match axisF F k ins a with | none => none | some x => match axesF F k ins rest with | none => none | some k => some (x.cons k)) at h3
    cases bo2 with
    | true =>
      rcases hr.bad with h | h
      · cases h
      · exact .inl ⟨rfl, .inr (by rw [h3, h]; rfl)⟩
    | false =>
      rw [hr.good.2] at h3
      refine .inr ⟨rfl, rfl, k, by omega, by omega, ?_⟩
      rw [h3]
      simp only
      cases axesF F k ins rest with
      | none => rfl
      | some t => simp only [Option.map_some, appE_snoc]
theorem AxesSt.done {F : List (List UInt8)} {n : Nat} {ins bad0 : Bool} {lawA : Option Tr} {bo : Bool} {xs : List Ex} (h : AxesSt F n ins bad0 lawA bo xs []) : Res bad0 bo lawA (chainE xs) := by
  rcases h with ⟨rfl, h | h⟩ | ⟨rfl, rfl, k, h1, h2, h3⟩
  · subst h; exact ⟨by simp, fun h => by cases h⟩
  · exact Res.none h _ _
  · obtain ⟨k, rfl⟩ : ∃ j, k = j + 1 := ⟨k - 1, by omega⟩
    rw [axesF] at h3
    exact Res.some (by rw [h3]; simp [appE_nil]) false
structure IdxC (w w5 : World) (rb K s4 : Nat) : Prop where
  a : rb < w.heap.size
  b : w.heap.size < K
  c : K + 1 < s4
  d : s4 ≤ w5.heap.size
theorem parts_count (s : List UInt8) (l : List Tok) : (partsF l s).length ≤ l.length + 1 := by
  rw [← need_parts s l]
  unfold need
  generalize partsF l s = Q
  induction Q with
  | nil => simp
  | cons q Q ih => simp only [List.map_cons, List.sum_cons, List.length_cons]; omega
end Go.Proofs.YthlingdlehdlhaaDoor.Par

namespace Go.Proofs.YthlingdlehdlhaaDoor.Par
open Go.RowKit Go.Shelf
set_option linter.unusedVariables false
set_option linter.unusedSimpArgs false

end Go.Proofs.YthlingdlehdlhaaDoor.Par
