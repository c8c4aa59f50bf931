/- How a program is split: where it is cut; plain lists of bytes, no program named. -/
import Derived.Test.YtjapijkgjgfcnaaDoorLib
import Derived.Lib.Strings
namespace Go.Proofs.YtjapijkgjgfcnaaDoor
open Go.RowKit
set_option linter.unusedVariables false

/-- The byte at a place. -/
def bt (s : ByteArray) (i : Nat) : UInt8 := s.data.toList[i]?.getD 0

theorem bt_get (s : ByteArray) (i : Nat) (h : i < s.size) : s[i] = bt s i := by
  have h' : i < s.data.toList.length := by simpa using h
  unfold bt
  rw [List.getElem?_eq_getElem h']
  simp
  rfl

def stepSt (c : UInt8) (q : Bool) (d : Nat) : Bool × Nat :=
  if c = 39 then (!q, d) else if q = true then (q, d) else if c = 123 then (q, d + 1) else if c = 125 then (q, d - 1) else (q, d)

/-- Quoted? How deep? ahead of byte i. -/
def stAt (s : ByteArray) : Nat → Bool × Nat
  | 0 => (false, 0)
  | i + 1 => stepSt (bt s i) (stAt s i).1 (stAt s i).2

def dia : List UInt8 := [226, 139, 132]

/-- Does a diamond begin at byte i? -/
def diaAt (s : ByteArray) (i : Nat) : Bool := Lib.hasPrefix (s.data.toList.drop i) dia

/-- How many bytes are cut out at byte i. -/
def cutAt (s : ByteArray) (i : Nat) : Nat :=
  if (stAt s i).1 = true ∨ (stAt s i).2 ≠ 0 then 0 else if bt s i = 10 then 1 else if diaAt s i = true then 3 else 0

def cutsTo (s : ByteArray) : Nat → List (Nat × Nat)
  | 0 => []
  | i + 1 => cutsTo s i ++ if cutAt s i = 0 then [] else [(i, i + cutAt s i)]

def allCuts (s : ByteArray) : List (Nat × Nat) := cutsTo s s.size ++ [(s.size, s.size)]

/-- Where the piece behind the last cut begins. -/
def endOf (l : List (Nat × Nat)) : Nat := (l.getLast?.map (·.2)).getD 0

theorem endOf_nil : endOf [] = 0 := rfl
theorem endOf_snoc (l : List (Nat × Nat)) (c : Nat × Nat) : endOf (l ++ [c]) = c.2 := by simp [endOf]

/-- Nothing but blanks? -/
def blankB (p : ByteArray) : Bool := p.data.toList.all (· == 32)

/-- The pieces that are no blanks. -/
def outOf (s : ByteArray) : List (Nat × Nat) → Nat → List ByteArray
  | [], _ => []
  | (p, nx) :: r, f => (if blankB (s.extract f p) = true then [] else [s.extract f p]) ++ outOf s r nx

theorem outOf_snoc (s : ByteArray) (l : List (Nat × Nat)) (c : Nat × Nat) (f : Nat) :
    outOf s (l ++ [c]) f = outOf s l f ++ if blankB (s.extract ((l.getLast?.map (·.2)).getD f) c.1) = true then [] else [s.extract ((l.getLast?.map (·.2)).getD f) c.1] := by
  induction l generalizing f with
  | nil =>
    simp only [outOf, List.nil_append, List.append_nil, List.getLast?_nil, Option.map_none, Option.getD_none]
    rfl
  | cons x r ih =>
    obtain ⟨p, nx⟩ := x
    simp only [List.cons_append, outOf, ih]
    rw [List.append_assoc]
    cases r with
    | nil =>
      simp only [outOf, List.nil_append, List.getLast?_nil, Option.map_none, Option.getD_none, List.getLast?_singleton, Option.map_some, Option.getD_some]
      rfl
    | cons y r' =>
      have : ((p, nx) :: y :: r').getLast? = (y :: r').getLast? := by simp [List.getLast?_cons]
      rw [this]
      have h2 : ∃ z, (y :: r').getLast? = some z := ⟨_, List.getLast?_eq_some_getLast (by simp)⟩
      obtain ⟨z, hz⟩ := h2
      simp [hz]

theorem outOf_snoc' (s : ByteArray) (l : List (Nat × Nat)) (c : Nat × Nat) :
    outOf s (l ++ [c]) 0 = outOf s l 0 ++ if blankB (s.extract (endOf l) c.1) = true then [] else [s.extract (endOf l) c.1] := outOf_snoc s l c 0

/-- A program's statements. -/
def splitOf (s : ByteArray) : List ByteArray := outOf s (allCuts s) 0

theorem dia_bytes (s : ByteArray) (i : Nat) (h : diaAt s i = true) : i + 3 ≤ s.size ∧ bt s i = 226 ∧ bt s (i + 1) = 139 ∧ bt s (i + 2) = 132 := by
  unfold diaAt Lib.hasPrefix dia at h
  rw [List.isPrefixOf_iff_prefix] at h
  obtain ⟨t, ht⟩ := h
  have hl := congrArg List.length ht
  simp only [List.length_append, List.length_cons, List.length_nil, List.length_drop] at hl
  have hs : s.data.toList.length = s.size := by rw [Array.length_toList]; rfl
  have g : ∀ j, j < 3 → s.data.toList[i + j]? = ([226, 139, 132] : List UInt8)[j]? := by
    intro j hj
    have e := congrArg (fun l => l[j]?) ht
    simp only [List.getElem?_drop] at e
    rw [← e, List.getElem?_append_left (by simpa using hj)]
  refine ⟨by omega, ?_, ?_, ?_⟩
  · have := g 0 (by omega); simp only [Nat.add_zero] at this; unfold bt; rw [this]; rfl
  · have := g 1 (by omega); unfold bt; rw [this]; rfl
  · have := g 2 (by omega); unfold bt; rw [this]; rfl

theorem cut_three (s : ByteArray) (i : Nat) (h : cutAt s i = 3) : diaAt s i = true := by
  unfold cutAt at h
  split at h
  · omega
  · split at h
    · omega
    · split at h
      · assumption
      · omega

theorem cut_cases (s : ByteArray) (i : Nat) : cutAt s i = 0 ∨ cutAt s i = 1 ∨ cutAt s i = 3 := by
  unfold cutAt
  split
  · exact .inl rfl
  · split
    · exact .inr (.inl rfl)
    · split
      · exact .inr (.inr rfl)
      · exact .inl rfl

theorem cut_zero_of (s : ByteArray) (i : Nat) (h : bt s i = 139 ∨ bt s i = 132) : cutAt s i = 0 := by
  rcases cut_cases s i with e | e | e
  · exact e
  · exfalso
    unfold cutAt at e
    split at e
    · omega
    · split at e
      · rename_i h1; rw [h1] at h; revert h; decide
      · split at e <;> omega
  · exfalso
    have := (dia_bytes s i (cut_three s i e)).2.1
    rw [this] at h; revert h; decide

/-- What has come is behind: the end of the last cut lies at or ahead of byte i, or byte i lies in a diamond. -/
theorem end_le (s : ByteArray) (i : Nat) : endOf (cutsTo s i) ≤ i ∨ ((endOf (cutsTo s i) = i + 1 ∧ bt s i = 132 ∧ i + 1 ≤ s.size) ∨ (endOf (cutsTo s i) = i + 2 ∧ bt s i = 139 ∧ bt s (i + 1) = 132 ∧ i + 2 ≤ s.size)) := by
  induction i with
  | zero => exact .inl (by simp [cutsTo, endOf])
  | succ i ih =>
    rcases cut_cases s i with e | e | e
    · have hc : cutsTo s (i + 1) = cutsTo s i := by simp [cutsTo, e]
      rw [hc]
      rcases ih with h | ⟨h, _⟩ | ⟨h1, h2, h3, h4⟩
      · exact .inl (by omega)
      · exact .inl (by omega)
      · exact .inr (.inl ⟨by omega, h3, by omega⟩)
    · have hc : cutsTo s (i + 1) = cutsTo s i ++ [(i, i + 1)] := by simp [cutsTo, e]
      rw [hc, endOf_snoc]
      exact .inl (by simp)
    · have hc : cutsTo s (i + 1) = cutsTo s i ++ [(i, i + 3)] := by simp [cutsTo, e]
      rw [hc, endOf_snoc]
      have hd := dia_bytes s i (cut_three s i e)
      exact .inr (.inr ⟨by simp, hd.2.2.1, hd.2.2.2, by omega⟩)

theorem end_le_cut (s : ByteArray) (i : Nat) (h : cutAt s i ≠ 0) : endOf (cutsTo s i) ≤ i := by
  rcases end_le s i with h1 | ⟨_, h2, _⟩ | ⟨_, h2, _⟩
  · exact h1
  · exact absurd (cut_zero_of s i (.inr h2)) h
  · exact absurd (cut_zero_of s i (.inl h2)) h

theorem end_le_size (s : ByteArray) : endOf (cutsTo s s.size) ≤ s.size := by
  rcases end_le s s.size with h1 | ⟨_, _, h2⟩ | ⟨_, _, _, h2⟩ <;> omega

theorem cutsTo_take (s : ByteArray) (i j : Nat) (h : i ≤ j) : ∃ t, cutsTo s j = cutsTo s i ++ t := by
  induction j with
  | zero => obtain rfl : i = 0 := by omega
            exact ⟨[], by simp⟩
  | succ j ih =>
    by_cases e : i = j + 1
    · subst e; exact ⟨[], by simp⟩
    · obtain ⟨t, ht⟩ := ih (by omega)
      exact ⟨t ++ if cutAt s j = 0 then [] else [(j, j + cutAt s j)], by rw [cutsTo, ht, List.append_assoc]⟩

/-- Cut number k, with what lies ahead of it. -/
theorem cut_nth (s : ByteArray) (k : Nat) (h : k < (allCuts s).length) : ∃ p nx, (allCuts s)[k]? = some (p, nx) ∧ endOf ((allCuts s).take k) ≤ p ∧ p ≤ s.size ∧ nx ≤ s.size ∧ p ≤ nx := by
  by_cases hk : k < (cutsTo s s.size).length
  · -- the byte at which it is cut
    have key : ∀ n, k < (cutsTo s n).length → ∃ i, i < n ∧ (cutsTo s i).length = k ∧ cutAt s i ≠ 0 := by
      intro n
      induction n with
      | zero => intro h; simp [cutsTo] at h
      | succ n ih =>
        intro h
        by_cases h1 : k < (cutsTo s n).length
        · obtain ⟨i, a, b, c⟩ := ih h1; exact ⟨i, by omega, b, c⟩
        · rw [cutsTo] at h
          by_cases e : cutAt s n = 0
          · simp [e] at h; omega
          · simp [e] at h; exact ⟨n, by omega, by omega, e⟩
    obtain ⟨i, hi, hl, hc⟩ := key _ hk
    obtain ⟨t, ht⟩ := cutsTo_take s (i + 1) s.size (by omega)
    have ha : allCuts s = cutsTo s i ++ ((i, i + cutAt s i) :: (t ++ [(s.size, s.size)])) := by
      unfold allCuts; rw [ht, cutsTo, if_neg hc]; simp
    refine ⟨i, i + cutAt s i, ?_, ?_, by omega, ?_, by omega⟩
    · rw [ha, List.getElem?_append_right (by omega), hl]; simp
    · rw [ha, List.take_append_of_le_length (by omega), List.take_of_length_le (by omega)]
      exact end_le_cut s i hc
    · rcases cut_cases s i with e | e | e
      · exact absurd e hc
      · omega
      · have := (dia_bytes s i (cut_three s i e)).1; omega
  · have hk' : k = (cutsTo s s.size).length := by simp [allCuts] at h; omega
    subst hk'
    refine ⟨s.size, s.size, by simp [allCuts], ?_, Nat.le_refl _, Nat.le_refl _, Nat.le_refl _⟩
    rw [allCuts, List.take_append_of_le_length (Nat.le_refl _), List.take_of_length_le (Nat.le_refl _)]
    exact end_le_size s

theorem cutsTo_length_le (s : ByteArray) (i : Nat) : (cutsTo s i).length ≤ i := by
  induction i with
  | zero => simp [cutsTo]
  | succ i ih => rw [cutsTo]; split <;> simp <;> omega

theorem allCuts_length_le (s : ByteArray) : (allCuts s).length ≤ s.size + 1 := by
  have := cutsTo_length_le s s.size
  simp [allCuts]; omega

theorem stepSt_plain (c : UInt8) (q : Bool) (d : Nat) (h : c ≠ 39 ∧ c ≠ 123 ∧ c ≠ 125) : stepSt c q d = (q, d) := by
  unfold stepSt
  rw [if_neg h.1, if_neg h.2.1, if_neg h.2.2]
  split <;> rfl

/-- Behind a diamond all is as ahead of it. -/
theorem st_dia (s : ByteArray) (i : Nat) (h : diaAt s i = true) : stAt s (i + 3) = stAt s i := by
  obtain ⟨_, h1, h2, h3⟩ := dia_bytes s i h
  have e1 : stAt s (i + 1) = stAt s i := by rw [stAt, h1, stepSt_plain _ _ _ (by decide)]
  have e2 : stAt s (i + 2) = stAt s i := by rw [stAt, h2, stepSt_plain _ _ _ (by decide)]; exact e1
  rw [stAt, h3, stepSt_plain _ _ _ (by decide)]; exact e2

theorem cuts_dia (s : ByteArray) (i : Nat) (h : cutAt s i = 3) : cutsTo s (i + 3) = cutsTo s i ++ [(i, i + 3)] := by
  obtain ⟨_, h1, h2, h3⟩ := dia_bytes s i (cut_three s i h)
  rw [cutsTo, cut_zero_of s (i + 2) (.inr h3), if_pos rfl, List.append_nil, cutsTo, cut_zero_of s (i + 1) (.inl h2), if_pos rfl, List.append_nil, cutsTo, h]
  simp

theorem extract_snoc (s : ByteArray) (f i : Nat) (hf : f ≤ i) (hi : i < s.size) : s.extract f i ++ s.extract i (i + 1) = s.extract f (i + 1) := by
  apply ByteArray.ext
  simp only [ByteArray.data_append, ByteArray.data_extract]
  rw [Array.extract_append_extract]
  congr 1 <;> omega

theorem extract_self (s : ByteArray) (i : Nat) : s.extract i i = ByteArray.empty := by
  apply ByteArray.ext
  simp

end Go.Proofs.YtjapijkgjgfcnaaDoor
