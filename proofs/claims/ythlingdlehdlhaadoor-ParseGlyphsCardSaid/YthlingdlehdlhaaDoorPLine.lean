/- parse: a function's lines: one line, walked. -/
import Derived.Test.YthlingdlehdlhaaDoorPC
import Derived.Test.YthlingdlehdlhaaDoorPD
import Derived.Deep.Cut
namespace Go.Proofs.YthlingdlehdlhaaDoor.Par
open Go.RowKit Go.Shelf
set_option linter.unusedVariables false
set_option linter.unusedSimpArgs false

theorem noLn_fresh (base : Nat → Prop) (w : World) : Fresh base w (IsLn · (.agg #[.int .i64 0, .string ⟨#[]⟩, .slice none 0 0]) ⟨0, [], .nil⟩) := Fresh.mkLn (y := ⟨0, [], .nil⟩) (Fresh.nil _ _)
/-- Expressions that lie in a row of the call's own. -/
theorem kids1 {Sb : Nat → Prop} {w : World} {x : Ex} {vs ve vb vc : Value} (i1 : Fresh Sb w (Ints · vs x.val.shape)) (i2 : Fresh Sb w (Ints · ve x.val.elems)) (i3 : Rng x.val.elems) (j1 : Fresh Sb w (IsTs · vb x.fn.body)) (j2 : Fresh Sb w (IsTs · vc x.kids))
    {g : Nat} {cur : Array Value} (hg : Sb g) (hrow : w.heap[g]? = some (.cells cur 39)) (hc : cur = (exL x vs ve vb vc).toArray) : Fresh Sb w (IsTs · (.slice (some ⟨g, 0, none⟩) 1 1) (x.cons .nil)) :=
  (Cells.ex x vs ve vb vc .nil [] i1 i2 i3 j1 j2 .nil).row hg hrow rfl (Nat.le_refl _) (by omega) (by intro i u hu; subst hc; simpa using hu)
theorem kids2 {Sb : Nat → Prop} {w : World} {x y : Ex} {vs ve vb vc vs' ve' vb' vc' : Value} (i1 : Fresh Sb w (Ints · vs x.val.shape)) (i2 : Fresh Sb w (Ints · ve x.val.elems)) (i3 : Rng x.val.elems) (j1 : Fresh Sb w (IsTs · vb x.fn.body)) (j2 : Fresh Sb w (IsTs · vc x.kids))
    (k1 : Fresh Sb w (Ints · vs' y.val.shape)) (k2 : Fresh Sb w (Ints · ve' y.val.elems)) (k3 : Rng y.val.elems) (l1 : Fresh Sb w (IsTs · vb' y.fn.body)) (l2 : Fresh Sb w (IsTs · vc' y.kids))
    {g : Nat} {cur : Array Value} (hg : Sb g) (hrow : w.heap[g]? = some (.cells cur 39)) (hc : cur = (exL x vs ve vb vc ++ exL y vs' ve' vb' vc').toArray) : Fresh Sb w (IsTs · (.slice (some ⟨g, 0, none⟩) 2 2) (x.cons (y.cons .nil))) :=
  (Cells.ex x vs ve vb vc _ _ i1 i2 i3 j1 j2 (Cells.ex y vs' ve' vb' vc' .nil [] k1 k2 k3 l1 l2 .nil)).row hg hrow rfl (Nat.le_refl _) (by omega) (by intro i u hu; subst hc; simpa using hu)
theorem rows_at {w : World} {v : Value} {ls : List (List Tok)} (h : IsRows w v ls) : ∃ a c, v = .slice a ls.length c ∧ ∀ k l, ls[k]? = some l → ∃ b o x, a = some ⟨b, o, none⟩ ∧ w.cell? ⟨b, o + k, none⟩ = some x ∧ IsToks w x l := by
  obtain ⟨a, c, e, -, -, h⟩ := h; exact ⟨a, c, e, h⟩
end Go.Proofs.YthlingdlehdlhaaDoor.Par
