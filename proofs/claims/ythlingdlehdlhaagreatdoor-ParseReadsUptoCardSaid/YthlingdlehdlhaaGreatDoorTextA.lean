/- array.Text: digits, elements, Text.
   array.Text: the elements of numbers; Text.
   array.Text.
   Two arrays that may be have one text just if they are the same: plain lists. -/
import Derived.Test.YthlingdlehdlhaaGreatDoorArrB
import Derived.Test.YthlingdlehdlhaaGreatDoorLx
import Derived.Test.YthlingdlehdlhaaGreatDoorCnt
namespace Go.Proofs.YthlingdlehdlhaaGreatDoor
open Go.RowKit Go.Shelf
open Go.Sort (grow)
set_option linter.unusedVariables false

theorem okArr_parts {x : Arr} (h : okArr x = true) : count x.shape = some (x.elems.length : Int) ∧ (x.kind = 1 ∨ (x.kind = 2 ∧ hasOdd x.elems = false)) := by
  unfold okArr at h
  rw [Bool.and_eq_true, decide_eq_true_eq, Bool.or_eq_true, Bool.and_eq_true, decide_eq_true_eq, decide_eq_true_eq, Bool.not_eq_true'] at h
  exact h

theorem countFold_le (xs : List Int) (a n : Int) (h : countFold xs a = some n) : n ≤ 4096 := by
  induction xs generalizing a with
  | nil => unfold countFold at h; split at h <;> simp at h; omega
  | cons l r ih =>
    unfold countFold at h
    split at h
    · simp at h
    · exact ih _ h

theorem count_le (xs : List Int) (n : Int) (h : count xs = some n) : n ≤ 4096 := by
  unfold count at h
  split at h
  · simp at h
  · exact countFold_le _ _ _ h

end Go.Proofs.YthlingdlehdlhaaGreatDoor

namespace Go.Proofs.YthlingdlehdlhaaGreatDoor
open Go.RowKit Go.Shelf
set_option linter.unusedVariables false

def bs (l : List UInt8) : ByteArray := ⟨l.toArray⟩
theorem bs_list (l : List UInt8) : (bs l).data.toList = l := by simp [bs]
theorem bs_size (l : List UInt8) : (bs l).size = l.length := by simp [bs, ByteArray.size]

end Go.Proofs.YthlingdlehdlhaaGreatDoor

namespace Go.Proofs.YthlingdlehdlhaaGreatDoor
open Go.RowKit Go.Shelf
set_option linter.unusedVariables false

/-- Three cells of a box. -/
def Box3 (w : World) (b : Nat) (v0 v1 v2 : Value) : Prop := w.cell? ⟨b, 0, none⟩ = some v0 ∧ w.cell? ⟨b, 1, none⟩ = some v1 ∧ w.cell? ⟨b, 2, none⟩ = some v2
theorem Box3.below {B : Nat} {w w' : World} {b : Nat} {v0 v1 v2 : Value} (h : Box3 w b v0 v1 v2) (hb : Below B w w') (hB : b < B) : Box3 w' b v0 v1 v2 :=
  ⟨(hb.cell (p := ⟨b, 0, none⟩) hB).trans h.1, (hb.cell (p := ⟨b, 1, none⟩) hB).trans h.2.1, (hb.cell (p := ⟨b, 2, none⟩) hB).trans h.2.2⟩

end Go.Proofs.YthlingdlehdlhaaGreatDoor

namespace Go.Proofs.YthlingdlehdlhaaGreatDoor
open Go.Lib
set_option linter.unusedVariables false

/-! ### Digits -/

/-! ### Put together with blanks -/

/-! ### Characters -/

theorem isChar_cases {n : Int} (h : isChar n = true) : 0 ≤ n ∧ n ≤ 1114111 ∧ ¬ (55296 ≤ n ∧ n ≤ 57343) := by
  unfold isChar at h
  simp only [Bool.and_eq_true, decide_eq_true_eq] at h
  refine ⟨h.1, h.2.1, fun hs => ?_⟩
  have := h.2.2
  simp [Lib.validRune] at this
  omega

theorem enc_forms {n : Int} (h : isChar n = true) :
    (0 ≤ n ∧ n ≤ 127 ∧ encodeRuneZ n = [n]) ∨ (128 ≤ n ∧ n ≤ 2047 ∧ encodeRuneZ n = [192 + n / 64, 128 + n % 64]) ∨
    (2048 ≤ n ∧ n ≤ 65535 ∧ encodeRuneZ n = [224 + n / 4096, 128 + n / 64 % 64, 128 + n % 64]) ∨
    (65536 ≤ n ∧ n ≤ 1114111 ∧ encodeRuneZ n = [240 + n / 262144, 128 + n / 4096 % 64, 128 + n / 64 % 64, 128 + n % 64]) := by
  obtain ⟨h0, h1, h2⟩ := isChar_cases h
  by_cases a : n ≤ 127
  · exact .inl ⟨h0, a, encodeRuneZ_one h0 a⟩
  · by_cases b : n ≤ 2047
    · exact .inr (.inl ⟨by omega, b, encodeRuneZ_two (by omega) b⟩)
    · by_cases c : n ≤ 65535
      · exact .inr (.inr (.inl ⟨by omega, c, encodeRuneZ_three (by omega)⟩))
      · exact .inr (.inr (.inr ⟨by omega, h1, encodeRuneZ_four (by omega) h1⟩))

theorem enc_ne (n : Int) : encodeRune n ≠ [] := by
  intro h
  have := (encodeRuneZ_length n).1
  have h2 : (encodeRune n).length = (encodeRuneZ n).length := by simp [encodeRune]
  rw [h] at h2
  simp at h2
  omega

/-! ### The whole text -/

theorem hasOdd_all {xs : List Int} (h : hasOdd xs = false) : ∀ n ∈ xs, isChar n = true := by
  intro n hn
  unfold hasOdd at h
  rw [List.any_eq_false] at h
  simpa using h n hn

theorem count_one (n : Int) : count [n] = if n < 0 ∨ n > 4096 then none else some n := by
  rw [count, if_neg (by simp)]
  by_cases h : n < 0 ∨ n > 4096
  · rw [countFold, if_pos h, if_pos h]
  · rw [countFold, if_neg h, if_neg h, countFold, if_neg (by omega)]; simp

end Go.Proofs.YthlingdlehdlhaaGreatDoor
