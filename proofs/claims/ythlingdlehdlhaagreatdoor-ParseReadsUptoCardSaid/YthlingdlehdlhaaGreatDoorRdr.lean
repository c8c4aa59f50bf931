/- lex's reader: numbers.
   lex's reader: chars.
   The package variables that the reading reads. -/
import Derived.Test.YthlingdlehdlhaaGreatDoorTok
import Derived.Test.YthlingdlehdlhaaGreatDoorChars
import Derived.Test.YthlingdlehdlhaaGreatDoorArrB
namespace Go.Proofs.YthlingdlehdlhaaGreatDoor
open Go.RowKit Go.Shelf
set_option linter.unusedVariables false
set_option linter.unusedSimpArgs false

/-- A token whose array lies in memory of its own. -/
def TokOwn (w : World) (base : Nat) (v : Value) (t : Tok) : Prop := ∃ vs ve, v = .agg #[.int .i64 t.kind, .string (bs t.txt), .int .i64 t.val.kind, vs, ve] ∧
  w.ownsRow base 3 1 vs t.val.shape.length (t.val.shape.map (.int .i64)) ∧ w.ownsRow base 2 1 ve t.val.elems.length (t.val.elems.map (.int .i64)) ∧ Rng t.val.elems
theorem TokOwn.below {w w' : World} {base : Nat} {v : Value} {x : Tok} (h : TokOwn w base v x) (hb : Below w.heap.size w w') : TokOwn w' base v x :=
  let ⟨vs, ve, e, h1, h2, h3⟩ := h
  ⟨vs, ve, e, owns_below h1 hb, owns_below h2 hb, h3⟩
theorem TokOwn.mono {w : World} {base base' : Nat} {v : Value} {x : Tok} (h : TokOwn w base v x) (hb : base' ≤ base) : TokOwn w base' v x :=
  let ⟨vs, ve, e, h1, h2, h3⟩ := h
  ⟨vs, ve, e, owns_mono h1 hb, owns_mono h2 hb, h3⟩
def sliceLen : Value → Nat
  | .slice _ n _ => n
  | _ => 0

theorem rng_snoc {xs : List Int} {r : Int} (h : Rng xs) (hr : -9223372036854775808 ≤ r ∧ r ≤ 9223372036854775807) : Rng (xs ++ [r]) := by
  intro i hi
  by_cases h1 : i < xs.length
  · rw [List.getElem?_append_left h1]; exact h i h1
  · obtain rfl : i = xs.length := by simp at hi; omega
    simpa using hr

theorem owns_put5 {A : World} {R base e size n : Nat} {v : Value} {xs : List Value} (h : A.ownsRow base e size v n xs) (hR : R < base) (a0 a1 a2 a3 a4 : Value) :
    (((((A.setCell ⟨R, 0, none⟩ a0).setCell ⟨R, 1, none⟩ a1).setCell ⟨R, 2, none⟩ a2).setCell ⟨R, 3, none⟩ a3).setCell ⟨R, 4, none⟩ a4).ownsRow base e size v n xs :=
  ownsRow_setCell_below (ownsRow_setCell_below (ownsRow_setCell_below (ownsRow_setCell_below (ownsRow_setCell_below h hR _) hR _) hR _) hR _) hR _
abbrev zeroTok : Array Value := #[.int .i64 0, .string ⟨#[]⟩, .int .i64 0, .slice none 0 0, .slice none 0 0]

end Go.Proofs.YthlingdlehdlhaaGreatDoor

namespace Go.Proofs.YthlingdlehdlhaaGreatDoor
open Go.RowKit Go.Shelf
set_option linter.unusedVariables false
set_option linter.unusedSimpArgs false

theorem quoted_len1 (l : List UInt8) : (quoted l).1.length ≤ l.length := by
  induction h : l.length using Nat.strongRecOn generalizing l with
  | _ n ih =>
    subst h
    cases l with
    | nil => simp [quoted_nil]
    | cons c r =>
      rw [quoted_cons]
      split
      · cases r with
        | nil => simp
        | cons d r' =>
          simp only
          split
          · have := ih r'.length (by simp; omega) r' rfl
            simp only [List.length_cons]; omega
          · simp
      · have := ih r.length (by simp) r rfl
        simp only [List.length_cons]; omega

end Go.Proofs.YthlingdlehdlhaaGreatDoor

namespace Go.Proofs.YthlingdlehdlhaaGreatDoor
open Go.RowKit Go.Shelf
set_option linter.unusedVariables false

end Go.Proofs.YthlingdlehdlhaaGreatDoor
