/- The reference's Encode, Check, Digits.
   lex's reader: what it holds; take, blanks, numeric.
   lex's reader: number.
   lex's reader: glyph.
   lex's reader: which reading comes next. -/
import Derived.Test.YthlingdlehdlhaaDoorTextA
import Derived.Laws.BytesArg
import Derived.Test.YthlingdlehdlhaaDoorLx
import Derived.Test.YthlingdlehdlhaaDoorShelf
import Derived.Lib.SmallJoins
import Derived.Deep.AppendLies
import Derived.BigQuiet
namespace Go.Proofs.YthlingdlehdlhaaDoor
open Go.RowKit Go.Shelf
set_option linter.unusedVariables false


theorem enc_str {n : Int} {xs : List Int} (h : Lib.encodeRuneZ n = xs) : strOfNums xs = bs (Lib.encodeRune n) := by
  subst h; rfl


/-- What a round of Digits keeps. -/
def DigInv (U k v : Nat) (t : List UInt8) : Prop := v = U / 10 ^ k ∧ ((k = 0 ∨ 0 < v) → Lib.decDigits v ++ t = Lib.decDigits U) ∧ (¬ (k = 0 ∨ 0 < v) → t = Lib.decDigits U)
theorem DigInv.step {U k v : Nat} {t : List UInt8} (h : DigInv U k v t) (hgo : k = 0 ∨ 0 < v) : DigInv U (k + 1) (v / 10) (UInt8.ofNat (48 + v % 10) :: t) := by
  obtain ⟨h1, h2, -⟩ := h
  have h2 := h2 hgo
  refine ⟨by rw [h1, Nat.pow_succ, Nat.div_div_eq_div_mul], fun hc => ?_, fun hc => ?_⟩
  · have hv : ¬ v < 10 := by omega
    rw [← h2]
    conv => rhs; rw [Lib.decDigits, dif_neg hv]
    simp
  · have hv : v < 10 := by omega
    rw [← h2, Lib.decDigits, dif_pos hv, show v % 10 = v by omega]
    rfl
theorem DigInv.ends {U k v : Nat} {t : List UInt8} (h : DigInv U k v t) (hU : U ≤ 18446744073709551615) (hk : k ≤ 20) (hgo : ¬ (k < 20 ∧ (k = 0 ∨ 0 < v))) : t = Lib.decDigits U := by
  obtain ⟨h1, h2, h3⟩ := h
  by_cases hc : k = 0 ∨ 0 < v
  · have : k = 20 := by omega
    subst this
    have : U / 10 ^ 20 = 0 := Nat.div_eq_of_lt (by omega)
    omega
  · exact h3 hc
theorem str_dig (v : Nat) (t : List UInt8) : strOfNums [48 + (v : Int) % 10] ++ bs t = bs (UInt8.ofNat (48 + v % 10) :: t) := by
  apply ByteArray.ext
  have : (48 + (v : Int) % 10).toNat = 48 + v % 10 := by omega
  simp [strOfNums, bs, this]
theorem bs_append (a b : List UInt8) : bs a ++ bs b = bs (a ++ b) := by
  apply ByteArray.ext; simp [bs]

end Go.Proofs.YthlingdlehdlhaaDoor

namespace Go.Proofs.YthlingdlehdlhaaDoor
open Go.RowKit Go.Shelf
set_option linter.unusedVariables false




theorem grown_set0 (w : World) (b i : Nat) (v : Value) : w.grownBy (w.setCell ⟨b, i, none⟩ v) (some b) :=
  ⟨rfl, rfl, rfl, by simp [World.setCell], fun j _ hne => Below.heap_setCell w ⟨b, i, none⟩ v j (fun e => hne (by rw [e]))⟩



/-- A number stands here. -/
def numB (l : List UInt8) : Bool := match Lib.trimPrefix l [194, 175] with | [] => false | c :: _ => digB c


theorem five_facts {w' : World} {R : Nat} {u0 u1 u2 u3 u4 : Value} {T : TypeId} (z : w'.heap[R]? = some (.cells #[u0, u1, u2, u3, u4] T)) :
    w'.cell? ⟨R, 0, none⟩ = some u0 ∧ w'.cell? ⟨R, 1, none⟩ = some u1 ∧ w'.cell? ⟨R, 2, none⟩ = some u2 ∧ w'.cell? ⟨R, 3, none⟩ = some u3 ∧ w'.cell? ⟨R, 4, none⟩ = some u4 ∧
      w'.frozen? ⟨R, 0, none⟩ = false ∧ w'.frozen? ⟨R, 1, none⟩ = false ∧ w'.frozen? ⟨R, 2, none⟩ = false ∧ w'.frozen? ⟨R, 3, none⟩ = false ∧ w'.frozen? ⟨R, 4, none⟩ = false :=
  ⟨by rw [Lib.cell_of_heap z]; rfl, by rw [Lib.cell_of_heap z]; rfl, by rw [Lib.cell_of_heap z]; rfl, by rw [Lib.cell_of_heap z]; rfl, by rw [Lib.cell_of_heap z]; rfl,
   Lib.frozen_of_heap z 0, Lib.frozen_of_heap z 1, Lib.frozen_of_heap z 2, Lib.frozen_of_heap z 3, Lib.frozen_of_heap z 4⟩
theorem set_one {w : World} {b i : Nat} {cs : Array Value} {T : TypeId} {fr : Nat × Nat} (hb : w.heap[b]? = some (.cells cs T fr)) (v : Value) :
    (w.setCell ⟨b, i, none⟩ v).heap[b]? = some (.cells (cs.setIfInBounds i v) T fr) := by
  simp [World.setCell, Array.getElem?_modify, hb]
theorem set5 {w : World} {b : Nat} {t : TypeId} {u0 u1 u2 u3 u4 : Value} (h : w.heap[b]? = some (.cells #[u0, u1, u2, u3, u4] t)) (a0 a1 a2 a3 a4 : Value) :
    (((((w.setCell ⟨b, 0, none⟩ a0).setCell ⟨b, 1, none⟩ a1).setCell ⟨b, 2, none⟩ a2).setCell ⟨b, 3, none⟩ a3).setCell ⟨b, 4, none⟩ a4).heap[b]? = some (.cells #[a0, a1, a2, a3, a4] t) :=
  set_one (i := 4) (set_one (i := 3) (set_one (i := 2) (set_one (i := 1) (set_one (i := 0) h a0) a1) a2) a3) a4
theorem grown_put {w w2 : World} {b : Nat} {p : Addr} {v : Value} (hg : w.grownBy w2 (some b)) (h : p.block = b ∨ w.heap.size ≤ p.block) : w.grownBy (w2.setCell p v) (some b) :=
  ⟨hg.os, hg.tape, hg.output, by have := hg.size; simp [World.setCell]; exact this, fun j hj hne => (Below.heap_setCell w2 p v j (fun e => by rcases h with h | h <;> first | exact hne (by rw [e, h]) | omega)).trans (hg.block j hj hne)⟩

/-- A name, read: what is left; whether it is too long. -/
def nameLen (l : List UInt8) : Nat := (l.takeWhile innB).length

end Go.Proofs.YthlingdlehdlhaaDoor

namespace Go.Proofs.YthlingdlehdlhaaDoor
open Go.RowKit Go.Shelf
set_option linter.unusedVariables false
set_option linter.unusedSimpArgs false

theorem grown_trans {w w1 w2 : World} {b : Nat} (h : w.grownBy w1 (some b)) (h' : w1.grownBy w2 (some b)) : w.grownBy w2 (some b) :=
  ⟨h'.os.trans h.os, h'.tape.trans h.tape, h'.output.trans h.output, Nat.le_trans h.size h'.size, fun j hj hne => (h'.block j (Nat.lt_of_lt_of_le hj h.size) hne).trans (h.block j hj hne)⟩
theorem grown_below {w w1 w2 : World} {b : Nat} (h : w.grownBy w1 (some b)) (h' : Below w1.heap.size w1 w2) : w.grownBy w2 (some b) :=
  ⟨h'.os.trans h.os, h'.tape.trans h.tape, h'.output.trans h.output, Nat.le_trans h.size h'.size, fun j hj hne => (h'.block j (Nat.lt_of_lt_of_le hj h.size)).trans (h.block j hj hne)⟩
theorem grown_refl (w : World) (b : Nat) : w.grownBy w (some b) := ⟨rfl, rfl, rfl, Nat.le_refl _, fun _ _ _ => rfl⟩

def minusB (l : List UInt8) : Bool := Lib.hasPrefix l [194, 175]
def numBody (l : List UInt8) : List UInt8 := if minusB l = true then l.drop 2 else l
def digLen (l : List UInt8) : Nat := (l.takeWhile digB).length
def numTxt (l : List UInt8) : List UInt8 := (if minusB l = true then [45] else []) ++ (numBody l).take (digLen (numBody l))
def numLeft (l : List UInt8) : List UInt8 := (numBody l).drop (digLen (numBody l))
def numVal (l : List UInt8) : Int := match Lib.parseIntB 64 (numTxt l) with | .ok v => v | .range => Lib.intSat 64 (numTxt l) | .«syntax» => 0
def numBad (l : List UInt8) : Bool := match Lib.parseIntB 64 (numTxt l) with | .ok _ => false | _ => true

theorem numTxt_len (l : List UInt8) : (numTxt l).length ≤ 1 + l.length := by
  have h4 : (numBody l).length ≤ l.length := by unfold numBody; split <;> simp
  unfold numTxt
  rw [List.length_append, List.length_take]
  split <;> simp only [List.length_cons, List.length_nil] <;> omega

/-- The library's two errors are some errors. -/
def ErrVars (w : World) : Prop := (∃ tp p, w.var? Tryd.prog "strconv.ErrSyntax" = some #[.iface tp p]) ∧ (∃ tp p, w.var? Tryd.prog "strconv.ErrRange" = some #[.iface tp p])



end Go.Proofs.YthlingdlehdlhaaDoor

namespace Go.Proofs.YthlingdlehdlhaaDoor
open Go.RowKit Go.Shelf
set_option linter.unusedVariables false

def glyphsL : List UInt8 := [43, 45, 195, 151, 195, 183, 124, 226, 140, 138, 226, 140, 136, 42, 61, 226, 137, 160, 60, 226, 137, 164, 226, 137, 165, 62, 226, 136, 167, 226, 136, 168, 126, 226, 141, 180, 44, 226, 140, 189, 226, 141, 137, 226, 141, 179, 226, 137, 162, 226, 141, 139, 226, 141, 146, 226, 134, 145, 226, 134, 147, 226, 136, 138, 47, 92, 226, 136, 152, 46, 226, 134, 144, 40, 41, 91, 93, 123, 125, 59, 58, 226, 141, 186, 226, 141, 181, 226, 136, 135, 226, 139, 132]
/-- How many bytes the first character has. -/
def chLen (l : List UInt8) : Nat := (Lib.decodeGo (bs l)).2
def glyTxt (l : List UInt8) : List UInt8 := if l.take (chLen l) = [10] then [226, 139, 132] else l.take (chLen l)

end Go.Proofs.YthlingdlehdlhaaDoor

namespace Go.Proofs.YthlingdlehdlhaaDoor
open Go.RowKit Go.Shelf
set_option linter.unusedVariables false


end Go.Proofs.YthlingdlehdlhaaDoor
