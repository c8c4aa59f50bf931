/- The reference's Encode, Check, Digits.
   lex's reader: what it holds; take, blanks, numeric.
   lex's reader: number.
   lex's reader: glyph.
   lex's reader: which reading comes next. -/
import Derived.Test.YthlingdlehdlhaaGreatDoorTextA
import Derived.Laws.BytesArg
import Derived.Test.YthlingdlehdlhaaGreatDoorLx
import Derived.Test.YthlingdlehdlhaaGreatDoorShelf
import Derived.Lib.SmallJoins
import Derived.Deep.AppendLies
import Derived.BigQuiet
namespace Go.Proofs.YthlingdlehdlhaaGreatDoor
open Go.RowKit Go.Shelf
set_option linter.unusedVariables false

theorem bs_append (a b : List UInt8) : bs a ++ bs b = bs (a ++ b) := by
  apply ByteArray.ext; simp [bs]

end Go.Proofs.YthlingdlehdlhaaGreatDoor

namespace Go.Proofs.YthlingdlehdlhaaGreatDoor
open Go.RowKit Go.Shelf
set_option linter.unusedVariables false

/-- A number stands here. -/
def numB (l : List UInt8) : Bool := match Lib.trimPrefix l [194, 175] with | [] => false | c :: _ => digB c

theorem five_facts {w' : World} {R : Nat} {u0 u1 u2 u3 u4 : Value} {T : TypeId} (z : w'.heap[R]? = some (.cells #[u0, u1, u2, u3, u4] T)) :
    w'.cell? ⟨R, 0, none⟩ = some u0 ∧ w'.cell? ⟨R, 1, none⟩ = some u1 ∧ w'.cell? ⟨R, 2, none⟩ = some u2 ∧ w'.cell? ⟨R, 3, none⟩ = some u3 ∧ w'.cell? ⟨R, 4, none⟩ = some u4 ∧
      w'.frozen? ⟨R, 0, none⟩ = false ∧ w'.frozen? ⟨R, 1, none⟩ = false ∧ w'.frozen? ⟨R, 2, none⟩ = false ∧ w'.frozen? ⟨R, 3, none⟩ = false ∧ w'.frozen? ⟨R, 4, none⟩ = false :=
  ⟨by rw [Lib.cell_of_heap z]; rfl, by rw [Lib.cell_of_heap z]; rfl, by rw [Lib.cell_of_heap z]; rfl, by rw [Lib.cell_of_heap z]; rfl, by rw [Lib.cell_of_heap z]; rfl,
   Lib.frozen_of_heap z 0, Lib.frozen_of_heap z 1, Lib.frozen_of_heap z 2, Lib.frozen_of_heap z 3, Lib.frozen_of_heap z 4⟩
theorem set_one {w : World} {b i : Nat} {cs : Array Value} {T : TypeId} {fr : Nat × Nat} (hb : w.heap[b]? = some (.cells cs T fr)) (v : Value) :
    (w.setCell ⟨b, i, none⟩ v).heap[b]? = some (.cells (cs.setIfInBounds i v) T fr) := by
  simp [World.setCell, Array.getElem?_modify, hb]
theorem set5 {w : World} {b : Nat} {t : TypeId} {u0 u1 u2 u3 u4 : Value} (h : w.heap[b]? = some (.cells #[u0, u1, u2, u3, u4] t)) (a0 a1 a2 a3 a4 : Value) :
    (((((w.setCell ⟨b, 0, none⟩ a0).setCell ⟨b, 1, none⟩ a1).setCell ⟨b, 2, none⟩ a2).setCell ⟨b, 3, none⟩ a3).setCell ⟨b, 4, none⟩ a4).heap[b]? = some (.cells #[a0, a1, a2, a3, a4] t) :=
  set_one (i := 4) (set_one (i := 3) (set_one (i := 2) (set_one (i := 1) (set_one (i := 0) h a0) a1) a2) a3) a4

/-- A name, read: what is left; whether it is too long. -/
def nameLen (l : List UInt8) : Nat := (l.takeWhile innB).length

end Go.Proofs.YthlingdlehdlhaaGreatDoor

namespace Go.Proofs.YthlingdlehdlhaaGreatDoor
open Go.RowKit Go.Shelf
set_option linter.unusedVariables false
set_option linter.unusedSimpArgs false

def minusB (l : List UInt8) : Bool := Lib.hasPrefix l [194, 175]
def numBody (l : List UInt8) : List UInt8 := if minusB l = true then l.drop 2 else l
def digLen (l : List UInt8) : Nat := (l.takeWhile digB).length
def numTxt (l : List UInt8) : List UInt8 := (if minusB l = true then [45] else []) ++ (numBody l).take (digLen (numBody l))
def numLeft (l : List UInt8) : List UInt8 := (numBody l).drop (digLen (numBody l))
def numVal (l : List UInt8) : Int := match Lib.parseIntB 64 (numTxt l) with | .ok v => v | .range => Lib.intSat 64 (numTxt l) | .«syntax» => 0
def numBad (l : List UInt8) : Bool := match Lib.parseIntB 64 (numTxt l) with | .ok _ => false | _ => true

end Go.Proofs.YthlingdlehdlhaaGreatDoor

namespace Go.Proofs.YthlingdlehdlhaaGreatDoor
open Go.RowKit Go.Shelf
set_option linter.unusedVariables false

def glyphsL : List UInt8 := [43, 45, 195, 151, 195, 183, 124, 226, 140, 138, 226, 140, 136, 42, 61, 226, 137, 160, 60, 226, 137, 164, 226, 137, 165, 62, 226, 136, 167, 226, 136, 168, 126, 226, 141, 180, 44, 226, 140, 189, 226, 141, 137, 226, 141, 179, 226, 137, 162, 226, 141, 139, 226, 141, 146, 226, 134, 145, 226, 134, 147, 226, 136, 138, 47, 92, 226, 136, 152, 46, 226, 134, 144, 40, 41, 91, 93, 123, 125, 59, 58, 226, 141, 186, 226, 141, 181, 226, 136, 135, 226, 139, 132]
/-- How many bytes the first character has. -/
def chLen (l : List UInt8) : Nat := (Lib.decodeGo (bs l)).2
def glyTxt (l : List UInt8) : List UInt8 := if l.take (chLen l) = [10] then [226, 139, 132] else l.take (chLen l)

end Go.Proofs.YthlingdlehdlhaaGreatDoor

namespace Go.Proofs.YthlingdlehdlhaaGreatDoor
open Go.RowKit Go.Shelf
set_option linter.unusedVariables false

end Go.Proofs.YthlingdlehdlhaaGreatDoor
