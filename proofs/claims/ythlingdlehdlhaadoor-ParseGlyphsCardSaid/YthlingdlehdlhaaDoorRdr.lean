/- lex's reader: numbers.
   lex's reader: chars.
   The package variables that the reading reads. -/
import Derived.Test.YthlingdlehdlhaaDoorTok
import Derived.Test.YthlingdlehdlhaaDoorChars
import Derived.Test.YthlingdlehdlhaaDoorArrB
namespace Go.Proofs.YthlingdlehdlhaaDoor
open Go.RowKit Go.Shelf
set_option linter.unusedVariables false
set_option linter.unusedSimpArgs false

/-- A token whose array lies in memory of its own. -/
def TokOwn (w : World) (base : Nat) (v : Value) (t : Tok) : Prop := ∃ vs ve, v = .agg #[.int .i64 t.kind, .string (bs t.txt), .int .i64 t.val.kind, vs, ve] ∧
  w.ownsRow base 3 1 vs t.val.shape.length (t.val.shape.map (.int .i64)) ∧ w.ownsRow base 2 1 ve t.val.elems.length (t.val.elems.map (.int .i64)) ∧ Rng t.val.elems
theorem TokOwn.below {w w' : World} {base : Nat} {v : Value} {x : Tok} (h : TokOwn w base v x) (hb : Below w.heap.size w w') : TokOwn w' base v x :=
  let ⟨vs, ve, e, h1, h2, h3⟩ := h
  ⟨vs, ve, e, owns_below h1 hb, owns_below h2 hb, h3⟩
theorem TokOwn.mono {w : World} {base base' : Nat} {v : Value} {x : Tok} (h : TokOwn w base v x) (hb : base' ≤ base) : TokOwn w base' v x :=
  let ⟨vs, ve, e, h1, h2, h3⟩ := h
  ⟨vs, ve, e, owns_mono h1 hb, owns_mono h2 hb, h3⟩
theorem owns_grown {A B : World} {b base e size : Nat} {v : Value} {n : Nat} {xs : List Value} (h : A.ownsRow base e size v n xs) (hg : A.grownBy B (some b)) (hb : b < base) : B.ownsRow base e size v n xs := by
  obtain ⟨h1, h2 | ⟨g, cap, cur, hv, h3, h4, h5⟩⟩ := h
  · exact ⟨h1, .inl h2⟩
  · exact ⟨h1, .inr ⟨g, cap, cur, hv, h3, (hg.block g (Array.getElem?_eq_some_iff.1 h4).1 (by simp; omega)).trans h4, h5⟩⟩
theorem TokOwn.grown {w w' : World} {base b : Nat} {v : Value} {x : Tok} (h : TokOwn w base v x) (hg : w.grownBy w' (some b)) (hb : b < base) : TokOwn w' base v x :=
  let ⟨vs, ve, e, h1, h2, h3⟩ := h
  ⟨vs, ve, e, owns_grown h1 hg hb, owns_grown h2 hg hb, h3⟩
def sliceLen : Value → Nat
  | .slice _ n _ => n
  | _ => 0

theorem numVal_rng (l : List UInt8) : -9223372036854775808 ≤ numVal l ∧ numVal l ≤ 9223372036854775807 := by
  unfold numVal
  split
  · rename_i v h
    have := Lib.parseIntB_bounds h
    omega
  · unfold Lib.intSat
    split <;> omega
  · omega

theorem rng_snoc {xs : List Int} {r : Int} (h : Rng xs) (hr : -9223372036854775808 ≤ r ∧ r ≤ 9223372036854775807) : Rng (xs ++ [r]) := by
  intro i hi
  by_cases h1 : i < xs.length
  · rw [List.getElem?_append_left h1]; exact h i h1
  · obtain rfl : i = xs.length := by simp at hi; omega
    simpa using hr

theorem grown_own {w A C : World} {b : Nat} {r : Option Nat} (h : w.grownBy A (some b)) (k : A.grownBy C r) (hr : ∀ q, r = some q → w.heap.size ≤ q) : w.grownBy C (some b) :=
  ⟨k.os.trans h.os, k.tape.trans h.tape, k.output.trans h.output, Nat.le_trans h.size k.size, fun j hj hne => (k.block j (Nat.lt_of_lt_of_le hj h.size) (fun e => by have := hr j e.symm; omega)).trans (h.block j hj hne)⟩
theorem grown_alloc {w A : World} {b : Nat} (h : w.grownBy A (some b)) (o : Obj) : w.grownBy (A.alloc o) (some b) :=
  grown_below h ((Below.refl _ _).alloc (Nat.le_refl _) o)

theorem owns_put5 {A : World} {R base e size n : Nat} {v : Value} {xs : List Value} (h : A.ownsRow base e size v n xs) (hR : R < base) (a0 a1 a2 a3 a4 : Value) :
    (((((A.setCell ⟨R, 0, none⟩ a0).setCell ⟨R, 1, none⟩ a1).setCell ⟨R, 2, none⟩ a2).setCell ⟨R, 3, none⟩ a3).setCell ⟨R, 4, none⟩ a4).ownsRow base e size v n xs :=
  ownsRow_setCell_below (ownsRow_setCell_below (ownsRow_setCell_below (ownsRow_setCell_below (ownsRow_setCell_below h hR _) hR _) hR _) hR _) hR _
theorem grown_put5 {w A : World} {R b : Nat} (h : w.grownBy A (some b)) (hR : w.heap.size ≤ R) (a0 a1 a2 a3 a4 : Value) :
    w.grownBy (((((A.setCell ⟨R, 0, none⟩ a0).setCell ⟨R, 1, none⟩ a1).setCell ⟨R, 2, none⟩ a2).setCell ⟨R, 3, none⟩ a3).setCell ⟨R, 4, none⟩ a4) (some b) :=
  grown_put (grown_put (grown_put (grown_put (grown_put h (.inr hR)) (.inr hR)) (.inr hR)) (.inr hR)) (.inr hR)
abbrev zeroTok : Array Value := #[.int .i64 0, .string ⟨#[]⟩, .int .i64 0, .slice none 0 0, .slice none 0 0]

end Go.Proofs.YthlingdlehdlhaaDoor

namespace Go.Proofs.YthlingdlehdlhaaDoor
open Go.RowKit Go.Shelf
set_option linter.unusedVariables false
set_option linter.unusedSimpArgs false

def rdLen (w : World) (b : Nat) : Nat := match (w.heap[b]? : Option Obj) with
  | some (.cells cs _ _) => (match (cs[0]? : Option Value) with | some (Value.string s) => s.size | _ => 0)
  | _ => 0
theorem strCells_bs (l : List UInt8) : Lib.strCells (bs l) = Lib.byteCells l := rfl
theorem byteCells_append (a b : List UInt8) : Lib.byteCells a ++ Lib.byteCells b = Lib.byteCells (a ++ b) := by simp [Lib.byteCells]

theorem grown_belowB {w A C : World} {b B : Nat} (h : w.grownBy A (some b)) (hb : Below B A C) (hB : w.heap.size ≤ B) : w.grownBy C (some b) :=
  ⟨hb.os.trans h.os, hb.tape.trans h.tape, hb.output.trans h.output, Nat.le_trans h.size hb.size, fun j hj hne => (hb.block j (Nat.lt_of_lt_of_le hj hB)).trans (h.block j hj hne)⟩
theorem builderAt_grown {T e : TypeId} {B c b : Nat} {p : Value} {xs : List Value} {A C : World} (h : Lib.BuilderAtF T e B c p xs A) (hg : A.grownBy C (some b)) (hb : b < B) : Lib.BuilderAtF T e B c p xs C := by
  obtain ⟨h1, v, h2, ⟨h3, h4⟩, h5⟩ := h
  refine ⟨h1, v, (hg.block c (Array.getElem?_eq_some_iff.1 h2).1 (by simp; omega)).trans h2, ⟨h3, ?_⟩, h5⟩
  rcases h4 with h4 | ⟨g, cap, cur, fz, e1, e2, e3, e4⟩
  · exact .inl h4
  · exact .inr ⟨g, cap, cur, fz, e1, e2, (hg.block g (Array.getElem?_eq_some_iff.1 e3).1 (by simp; omega)).trans e3, e4⟩
theorem builder_grown {T e : TypeId} {B c b : Nat} {xs : List Value} {A C : World} (h : Lib.IsBuilderF T e B c xs A) (hg : A.grownBy C (some b)) (hb : b < B) : Lib.IsBuilderF T e B c xs C :=
  h.imp (fun h => builderAt_grown h hg hb) (fun h => builderAt_grown h hg hb)
theorem grown_self (A : World) (b i : Nat) (v : Value) : A.grownBy (A.setCell ⟨b, i, none⟩ v) (some b) :=
  ⟨rfl, rfl, rfl, by simp [World.setCell], fun j _ hne => Below.heap_setCell A ⟨b, i, none⟩ v j (fun e => hne (by rw [e]))⟩
theorem _root_.Go.Lib.IsBuilderF.set_other {T e : TypeId} {B c : Nat} {xs : List Value} {A : World} (h : Lib.IsBuilderF T e B c xs A) (b i : Nat) (v : Value) (hb : b < B) : Lib.IsBuilderF T e B c xs (A.setCell ⟨b, i, none⟩ v) :=
  builder_grown h (grown_self A b i v) hb
theorem quoted_len1 (l : List UInt8) : (quoted l).1.length ≤ l.length := by
  induction h : l.length using Nat.strongRecOn generalizing l with
  | _ n ih =>
    subst h
    cases l with
    | nil => simp [quoted_nil]
    | cons c r =>
      rw [quoted_cons]
      split
      · cases r with
        | nil => simp
        | cons d r' =>
          simp only
          split
          · have := ih r'.length (by simp; omega) r' rfl
            simp only [List.length_cons]; omega
          · simp
      · have := ih r.length (by simp) r rfl
        simp only [List.length_cons]; omega

end Go.Proofs.YthlingdlehdlhaaDoor

namespace Go.Proofs.YthlingdlehdlhaaDoor
open Go.RowKit Go.Shelf
set_option linter.unusedVariables false

end Go.Proofs.YthlingdlehdlhaaDoor
