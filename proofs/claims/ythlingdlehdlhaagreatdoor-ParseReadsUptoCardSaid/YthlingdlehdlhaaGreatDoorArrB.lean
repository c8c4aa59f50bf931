/- array.Check: arrays, characters.
   An array's text: plain laws.
   A strings.Builder of the call's own: copyCheck, WriteRune. The two walks follow the shelf's (Shelf/Strings/Builder1, BuilderRune), over this program.
   A strings.Builder of the call's own: WriteString. The walk follows the shelf's (Shelf/Strings/BuilderK), over this program. -/
import Derived.Test.YthlingdlehdlhaaGreatDoorShelf
import Derived.Test.YthlingdlehdlhaaGreatDoorBase
import Derived.Test.YthlingdlehdlhaaGreatDoorCnt
import Derived.Lib.ReplaceLaws
import Derived.Lib.ItoaLen
import Derived.Lib.Join
import Derived.Lib.RuneBytes
namespace Go.Proofs.YthlingdlehdlhaaGreatDoor
open Go.RowKit Go.Shelf
set_option linter.unusedVariables false

structure Arr where
  kind : Int
  shape : List Int
  elems : List Int
deriving DecidableEq

def Rng (xs : List Int) : Prop := ∀ i, i < xs.length → -9223372036854775808 ≤ xs[i]?.getD 0 ∧ xs[i]?.getD 0 ≤ 9223372036854775807

/-- A value that reads as an array. -/
def IsArr (w : World) (v : Value) (x : Arr) : Prop := ∃ vs ve, v = .agg #[.int .i64 x.kind, vs, ve] ∧ Ints w vs x.shape ∧ Ints w ve x.elems ∧ Rng x.elems

theorem IsArr.below {w w' : World} {v : Value} {x : Arr} (h : IsArr w v x) (hb : Below w.heap.size w w') : IsArr w' v x := by
  obtain ⟨vs, ve, e, h1, h2, h3⟩ := h
  exact ⟨vs, ve, e, h1.below hb, h2.below hb, h3⟩

def isChar (n : Int) : Bool := decide (0 ≤ n) && (decide (n ≤ 1114111) && Lib.validRune n)
def hasOdd (xs : List Int) : Bool := xs.any fun n => !isChar n

/-- An array that may be. -/
def okArr (x : Arr) : Bool := decide (count x.shape = some (x.elems.length : Int)) && (decide (x.kind = 1) || (decide (x.kind = 2) && !hasOdd x.elems))

end Go.Proofs.YthlingdlehdlhaaGreatDoor

namespace Go.Proofs.YthlingdlehdlhaaGreatDoor
open Go.Lib
set_option linter.unusedVariables false

/-- Each c becomes new. -/
def subst (c : UInt8) (new : List UInt8) (s : List UInt8) : List UInt8 := s.flatMap fun b => if b = c then new else [b]

/-- A number's text. -/
def dig (n : Int) : List UInt8 := if n < 0 then 194 :: 175 :: decDigits n.natAbs else decDigits n.toNat

/-- The elements' text. -/
def encs (xs : List Int) : List UInt8 := xs.flatMap encodeRune
def elemText (x : Arr) : List UInt8 :=
  if x.kind = 2 then 39 :: (subst 39 [39, 39] (encs x.elems) ++ [39])
  else if x.elems = [] then [48] else Lib.join (x.elems.map dig) [32]
/-- Is the shape left out? -/
def bare (x : Arr) : Bool := decide (x.shape.length = 0) || (decide (x.shape.length = 1) && decide (1 < x.elems.length)) || (decide (x.shape.length = 1) && decide (x.elems.length = 0) && decide (x.kind = 2))
def textOf (x : Arr) : List UInt8 :=
  if bare x = true then elemText x else Lib.join (x.shape.map itoa) [32] ++ [226, 141, 180] ++ elemText x

end Go.Proofs.YthlingdlehdlhaaGreatDoor

namespace Go.Proofs.YthlingdlehdlhaaGreatDoor
open Go.RowKit Go.Shelf
set_option linter.unusedVariables false

end Go.Proofs.YthlingdlehdlhaaGreatDoor

namespace Go.Proofs.YthlingdlehdlhaaGreatDoor
open Go.RowKit Go.Shelf
set_option linter.unusedVariables false

end Go.Proofs.YthlingdlehdlhaaGreatDoor
