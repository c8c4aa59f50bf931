/- The reference's reading: numbers, chars.
   The reference's reading: chars, isGlyph.
   The reference's tokens: Chars, value. -/
import Derived.Test.YtijfnnjgcgmnaaaGreatDoorRNm
import Derived.Test.YtijfnnjgcgmnaaaGreatDoorRdr
import Derived.Test.YtijfnnjgcgmnaaaGreatDoorLexLaw
namespace Go.Proofs.YtijfnnjgcgmnaaaGreatDoor
open Go.RowKit Go.Shelf
open Go.Lib (trimLeftB)
set_option linter.unusedVariables false
set_option linter.unusedSimpArgs false

theorem refVal_rng (f : Bool) (s : Bool × Nat) : -9223372036854775808 ≤ refVal f s ∧ refVal f s ≤ 9223372036854775807 := by
  unfold refVal wrap64
  split <;> omega

/-- What has been read of the numbers that stand at L: where the reading is (l1: behind the blanks), the end of the last one, whether all were fine. -/
def RefNums (l L : List UInt8) (l1 : List UInt8) (acc : List Int) (fine : Bool) (e : Int) : Prop :=
  (fine && !(numsFrom l1.length l1).2.2) = !(numsFrom L.length L).2.2 ∧ ((numsFrom L.length L).2.2 = false → acc ++ (numsFrom l1.length l1).1 = (numsFrom L.length L).1) ∧
  (numsFrom l1.length l1).2.1 = (numsFrom L.length L).2.1 ∧ ((e = -1 ∧ acc = [] ∧ l1 = L) ∨ (numB L = true ∧ ∃ q : Nat, e = q ∧ q ≤ l.length ∧ trimLeftB (l.drop q) 32 = l1 ∧ acc ≠ []))

theorem numsFrom_len (l : List UInt8) (h : numB l = true) : numsFrom l.length l = (numVal l :: (numsFrom (trimLeftB (numLeft l) 32).length (trimLeftB (numLeft l) 32)).1, (numsFrom (trimLeftB (numLeft l) 32).length (trimLeftB (numLeft l) 32)).2.1, numBad l || (numsFrom (trimLeftB (numLeft l) 32).length (trimLeftB (numLeft l) 32)).2.2) := by
  have h1 := numLeft_lt h
  have h2 := trimLeft_len (numLeft l) 32
  obtain ⟨n, hn⟩ : ∃ n, l.length = n + 1 := ⟨l.length - 1, by omega⟩
  have e := numsFrom_more n (trimLeftB (numLeft l) 32).length (trimLeftB (numLeft l) 32) (by omega) (Nat.le_refl _)
  rw [hn, numsFrom, if_pos h]
  simp only [e]
theorem numsFrom_none (l : List UInt8) (f : Nat) (h : numB l = false) : numsFrom f l = ([], l, false) := by
  cases f <;> simp [numsFrom, h]

theorem RefNums.start (l L : List UInt8) : RefNums l L L [] true (-1) := ⟨by simp, fun _ => rfl, rfl, .inl ⟨rfl, rfl, rfl⟩⟩
theorem RefNums.step {l L l1 : List UInt8} {acc : List Int} {fine : Bool} {e : Int} (h : RefNums l L l1 acc fine e) (hn : numB l1 = true) (q : Nat) (hq : q ≤ l.length) (hd : l.drop q = numLeft l1) :
    RefNums l L (trimLeftB (numLeft l1) 32) (acc ++ [refVal (minusB l1) (refNum (numDigs l1))]) (fine && refFits (minusB l1) (refNum (numDigs l1))) (q : Int) := by
  obtain ⟨h1, h2, h3, h4⟩ := h
  obtain ⟨s1, s2⟩ := num_same hn
  have hl := numsFrom_len l1 hn
  rw [hl] at h1 h2 h3
  simp only at h1 h2 h3
  refine ⟨?_, ?_, h3, .inr ⟨?_, q, rfl, hq, by rw [hd], by simp⟩⟩
  · rw [← h1, s1]; cases fine <;> cases refFits (minusB l1) (refNum (numDigs l1)) <;> simp
  · intro hb
    rw [hb] at h1
    have hnb : numBad l1 = false := by
      cases hx : numBad l1
      · rfl
      · rw [hx] at h1; simp at h1
    rw [← h2 hb, List.append_assoc, ← s2 hnb]; rfl
  · rcases h4 with ⟨_, _, rfl⟩ | ⟨h4, _⟩
    · exact hn
    · exact h4

end Go.Proofs.YtijfnnjgcgmnaaaGreatDoor

namespace Go.Proofs.YtijfnnjgcgmnaaaGreatDoor
open Go.RowKit Go.Shelf
open Go.Lib (trimLeftB)
set_option linter.unusedVariables false
set_option linter.unusedSimpArgs false

theorem one_more (l acc : List UInt8) (k : Nat) (h : k < l.length) : bs acc ++ (bs l).extract k (k + 1) = bs (acc ++ [bt (bs l) k]) := by
  rw [← bs_append]
  congr 1
  apply ByteArray.ext
  rw [← Array.toList_inj, slice_list, bs_list, drop_bt l k h]
  rfl

/-- Where the place behind the quoted characters is. -/
def EndAt (l : List UInt8) (o : Option (List UInt8)) (q : Int) : Prop := (o = none ∧ q = -1) ∨ ∃ k : Nat, q = k ∧ k ≤ l.length ∧ o = some (l.drop k)


theorem glys : ∀ k : Nat, k < 45 → (Utf8.decode ⟨glyphsL.toArray⟩ (glyChars.take k).flatten.length).2 = (glyChars.getD k []).length ∧ (glyphsL.drop (glyChars.take k).flatten.length).take (glyChars.getD k []).length = glyChars.getD k [] ∧
    (glyChars.take k).flatten.length + (glyChars.getD k []).length = (glyChars.take (k + 1)).flatten.length ∧ (glyChars.take k).flatten.length + (glyChars.getD k []).length ≤ 93 := by decide +kernel
theorem glys_end : (glyChars.take 45).flatten.length = 93 ∧ glyphsL.length = 93 ∧ glyChars.length = 45 := by decide +kernel


end Go.Proofs.YtijfnnjgcgmnaaaGreatDoor

namespace Go.Proofs.YtijfnnjgcgmnaaaGreatDoor
open Go.RowKit Go.Shelf
set_option linter.unusedVariables false
set_option linter.unusedSimpArgs false

theorem tok_plain {w : World} {base : Nat} {k : Int} {t : List UInt8} : TokOwn w base (.agg #[.int .i64 k, .string (bs t), .int .i64 0, .slice none 0 0, .slice none 0 0]) ⟨k, t, noArr⟩ :=
  ⟨_, _, rfl, World.ownsRow_nil _ _ _ _, World.ownsRow_nil _ _ _ _, fun i hi => by simp [noArr] at hi⟩

theorem runes_len (s : ByteArray) (f p : Nat) : (runesFrom s f p).length ≤ f := by
  induction f generalizing p with
  | zero => simp [runesFrom]
  | succ f ih =>
    rw [runesFrom]
    split
    · have := ih (p + (Utf8.decode s p).2); simp only [List.length_cons]; omega
    · simp
theorem runesOf_len (s : ByteArray) : (runesOf s).length ≤ s.size := runes_len s s.size 0
theorem runes_rng (s : ByteArray) : Rng (runesOf s) := by
  have key : ∀ f p, ∀ x ∈ runesFrom s f p, 0 ≤ x ∧ x ≤ 2147483647 := by
    intro f
    induction f with
    | zero => intro p x hx; cases hx
    | succ f ih =>
      intro p x hx
      rw [runesFrom] at hx
      split at hx
      · rcases List.mem_cons.1 hx with rfl | h
        · have := decode_le s p; omega
        · exact ih _ x h
      · cases hx
  intro i hi
  have := key s.size 0 ((runesOf s)[i]?.getD 0) (by rw [List.getElem?_eq_getElem hi, Option.getD_some]; exact List.getElem_mem _)
  omega


theorem below_put5 {B : Nat} {w A : World} {R : Nat} (h : Below B w A) (hR : B ≤ R) (a0 a1 a2 a3 a4 : Value) :
    Below B w (((((A.setCell ⟨R, 0, none⟩ a0).setCell ⟨R, 1, none⟩ a1).setCell ⟨R, 2, none⟩ a2).setCell ⟨R, 3, none⟩ a3).setCell ⟨R, 4, none⟩ a4) :=
  ((((h.setCell hR a0).setCell hR a1).setCell hR a2).setCell hR a3).setCell hR a4
/-- An array as a token's value: a scalar if there is one element. -/
def valArr (x : Arr) : Arr := ⟨x.kind, if x.elems.length = 1 then [] else x.shape, x.elems⟩

end Go.Proofs.YtijfnnjgcgmnaaaGreatDoor
