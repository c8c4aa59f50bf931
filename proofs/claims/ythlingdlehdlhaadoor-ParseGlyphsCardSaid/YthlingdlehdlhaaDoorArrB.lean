/- array.Check: arrays, characters.
   An array's text: plain laws.
   A strings.Builder of the call's own: copyCheck, WriteRune. The two walks follow the shelf's (Shelf/Strings/Builder1, BuilderRune), over this program.
   A strings.Builder of the call's own: WriteString. The walk follows the shelf's (Shelf/Strings/BuilderK), over this program. -/
import Derived.Test.YthlingdlehdlhaaDoorShelf
import Derived.Test.YthlingdlehdlhaaDoorBase
import Derived.Test.YthlingdlehdlhaaDoorCnt
import Derived.Lib.ReplaceLaws
import Derived.Lib.ItoaLen
import Derived.Lib.Join
import Derived.Lib.RuneBytes
namespace Go.Proofs.YthlingdlehdlhaaDoor
open Go.RowKit Go.Shelf
set_option linter.unusedVariables false

structure Arr where
  kind : Int
  shape : List Int
  elems : List Int
deriving DecidableEq

def Rng (xs : List Int) : Prop := ∀ i, i < xs.length → -9223372036854775808 ≤ xs[i]?.getD 0 ∧ xs[i]?.getD 0 ≤ 9223372036854775807

/-- A value that reads as an array. -/
def IsArr (w : World) (v : Value) (x : Arr) : Prop := ∃ vs ve, v = .agg #[.int .i64 x.kind, vs, ve] ∧ Ints w vs x.shape ∧ Ints w ve x.elems ∧ Rng x.elems

theorem IsArr.below {w w' : World} {v : Value} {x : Arr} (h : IsArr w v x) (hb : Below w.heap.size w w') : IsArr w' v x := by
  obtain ⟨vs, ve, e, h1, h2, h3⟩ := h
  exact ⟨vs, ve, e, h1.below hb, h2.below hb, h3⟩

def isChar (n : Int) : Bool := decide (0 ≤ n) && (decide (n ≤ 1114111) && Lib.validRune n)
def hasOdd (xs : List Int) : Bool := xs.any fun n => !isChar n





/-- An array that may be. -/
def okArr (x : Arr) : Bool := decide (count x.shape = some (x.elems.length : Int)) && (decide (x.kind = 1) || (decide (x.kind = 2) && !hasOdd x.elems))
def chk (x : Arr) : Int := if okArr x = true then 0 else 110


end Go.Proofs.YthlingdlehdlhaaDoor

namespace Go.Proofs.YthlingdlehdlhaaDoor
open Go.Lib
set_option linter.unusedVariables false

/-- Each c becomes new. -/
def subst (c : UInt8) (new : List UInt8) (s : List UInt8) : List UInt8 := s.flatMap fun b => if b = c then new else [b]

theorem index_head (c : UInt8) (s : List UInt8) : Lib.index (c :: s) [c] = 0 := by simp [Lib.index]
theorem index_skip (b c : UInt8) (s : List UInt8) (h : b ≠ c) : Lib.index (b :: s) [c] = if Lib.index s [c] == -1 then -1 else Lib.index s [c] + 1 := by
  have : ([c] : List UInt8).isPrefixOf (b :: s) = false := by simp [List.isPrefixOf, Ne.symm h]
  rw [Lib.index, this]; rfl

theorem replaceK_one (c : UInt8) (new : List UInt8) : ∀ s, Lib.replaceK [c] new (Lib.count s [c]) s = subst c new s
  | [] => by
    rw [Lib.count_miss (by rfl)]; rfl
  | b :: s => by
    have ih := replaceK_one c new s
    by_cases hb : b = c
    · subst hb
      rw [Lib.count_hit (i := 0) (by simp) (index_head b s), Nat.add_comm, Lib.replaceK_hit _ _ _ _ 0 (index_head b s)]
      simp only [List.take_zero, List.nil_append, List.length_singleton, Nat.zero_add, List.drop_succ_cons, List.drop_zero]
      rw [ih]; simp [subst]
    · have hs := index_skip b c s hb
      have hge := Lib.index_ge s [c]
      by_cases hi : Lib.index s [c] = -1
      · rw [hi] at hs
        have hc : Lib.count s [c] = 0 := Lib.count_miss hi
        rw [Lib.count_miss (by rw [hs]; rfl)]
        rw [hc] at ih
        have : subst c new (b :: s) = b :: subst c new s := by simp [subst, hb]
        rw [this, ← ih]; rfl
      · obtain ⟨i, hi'⟩ : ∃ i : Nat, Lib.index s [c] = i := ⟨(Lib.index s [c]).toNat, by omega⟩
        have hs' : Lib.index (b :: s) [c] = ((i + 1 : Nat) : Int) := by
          rw [hs, hi', if_neg (by simp)]; rfl
        have hcount : Lib.count (b :: s) [c] = Lib.count s [c] := by
          rw [Lib.count_hit (by simp) hs', Lib.count_hit (by simp) hi']
          simp
        obtain ⟨k, hk⟩ : ∃ k, Lib.count s [c] = k + 1 := ⟨Lib.count (s.drop (i + 1)) [c], by rw [Lib.count_hit (by simp) hi', Nat.add_comm]; rfl⟩
        rw [hcount, hk, Lib.replaceK_hit _ _ _ _ _ hs']
        rw [hk, Lib.replaceK_hit _ _ _ _ _ hi'] at ih
        have : subst c new (b :: s) = b :: subst c new s := by simp [subst, hb]
        rw [this, ← ih]
        simp

theorem replaceAll_one (c : UInt8) (new s : List UInt8) (hne : [c] ≠ new) : Lib.replaceAll s [c] new = subst c new s := by
  unfold Lib.replaceAll Lib.replace
  rw [if_neg (by simpa using hne)]
  rw [show Lib.replaceNum s [c] (-1) = Lib.count s [c] by simp [Lib.replaceNum]]
  exact replaceK_one c new s

theorem dec_digit (u : Nat) : ∀ b ∈ decDigits u, 48 ≤ b.toNat ∧ b.toNat ≤ 57 := by
  induction u using Nat.strongRecOn with
  | _ u ih =>
    intro b hb
    rw [decDigits] at hb
    split at hb
    · rw [List.mem_singleton] at hb; subst hb
      rw [UInt8.toNat_ofNat']; omega
    · rcases List.mem_append.1 hb with h | h
      · exact ih (u / 10) (by omega) b h
      · rw [List.mem_singleton] at h; subst h
        rw [UInt8.toNat_ofNat']; omega

/-- A number's text. -/
def dig (n : Int) : List UInt8 := if n < 0 then 194 :: 175 :: decDigits n.natAbs else decDigits n.toNat

theorem index_absent (c : UInt8) : ∀ s : List UInt8, c ∉ s → Lib.index s [c] = -1
  | [], _ => rfl
  | b :: s, h => by
    have h1 : b ≠ c := fun e => h (by simp [e])
    rw [index_skip b c s h1, index_absent c s (fun e => h (by simp [e]))]; rfl

theorem replace_dig (n : Int) : Lib.replace (itoa n) [45] [194, 175] 1 = dig n := by
  unfold Lib.replace dig itoa
  rw [if_neg (by decide)]
  by_cases h : n < 0
  · rw [if_pos h, if_pos h]
    have h1 : Lib.replaceNum (45 :: decDigits n.natAbs) [45] 1 = 1 := by
      unfold Lib.replaceNum
      have hc := Lib.count_hit (s := 45 :: decDigits n.natAbs) (sub := [45]) (i := 0) (by simp) (index_head 45 _)
      rw [hc]
      split
      · omega
      · rfl
    rw [h1, Lib.replaceK_hit _ _ 0 _ 0 (index_head 45 _)]
    simp [Lib.replaceK]
  · rw [if_neg h, if_neg h]
    have h0 : (45 : UInt8) ∉ decDigits n.toNat := fun hm => by have := (dec_digit _ _ hm).1; exact absurd this (by decide)
    have h1 : Lib.replaceNum (decDigits n.toNat) [45] 1 = 0 := by
      unfold Lib.replaceNum
      rw [Lib.count_miss (index_absent 45 _ h0), if_pos (by omega)]
    rw [h1]; rfl

theorem dig_length (n : Int) (h0 : -9223372036854775808 ≤ n) (h1 : n ≤ 9223372036854775807) : (dig n).length ≤ 22 := by
  have := itoa_length_le n h0 h1
  unfold itoa at this
  unfold dig
  by_cases h : n < 0
  · rw [if_pos h] at this ⊢; simp only [List.length_cons] at this ⊢; omega
  · rw [if_neg h] at this ⊢; omega

theorem lens_le (D : Nat) (xs : List (List UInt8)) (h : ∀ x ∈ xs, x.length ≤ D) : lens xs ≤ xs.length * D := by
  induction xs with
  | nil => simp [lens]
  | cons x r ih =>
    have h1 := h x (by simp)
    have h2 := ih (fun y hy => h y (by simp [hy]))
    unfold lens at *
    simp only [List.map_cons, List.sum_cons, List.length_cons, Nat.add_mul, Nat.one_mul]
    omega

theorem join_le (D : Nat) (xs : List (List UInt8)) (sep : List UInt8) (h : ∀ x ∈ xs, x.length ≤ D) : (Lib.join xs sep).length ≤ xs.length * D + sep.length * xs.length := by
  cases xs with
  | nil => simp [join_nil]
  | cons x r =>
    rw [join_length]
    have := lens_le D (x :: r) h
    have h2 : sep.length * r.length ≤ sep.length * (x :: r).length := Nat.mul_le_mul_left _ (by simp)
    omega

/-- The elements' text. -/
def encs (xs : List Int) : List UInt8 := xs.flatMap encodeRune
def elemText (x : Arr) : List UInt8 :=
  if x.kind = 2 then 39 :: (subst 39 [39, 39] (encs x.elems) ++ [39])
  else if x.elems = [] then [48] else Lib.join (x.elems.map dig) [32]
/-- Is the shape left out? -/
def bare (x : Arr) : Bool := decide (x.shape.length = 0) || (decide (x.shape.length = 1) && decide (1 < x.elems.length)) || (decide (x.shape.length = 1) && decide (x.elems.length = 0) && decide (x.kind = 2))
def textOf (x : Arr) : List UInt8 :=
  if bare x = true then elemText x else Lib.join (x.shape.map itoa) [32] ++ [226, 141, 180] ++ elemText x

theorem encs_length (xs : List Int) : (encs xs).length ≤ 4 * xs.length := by
  induction xs with
  | nil => simp [encs]
  | cons x r ih =>
    have h := (encodeRuneZ_length x).2
    unfold encs at *
    rw [List.flatMap_cons, List.length_append, List.length_cons]
    have : (encodeRune x).length = (encodeRuneZ x).length := by simp [encodeRune]
    omega

end Go.Proofs.YthlingdlehdlhaaDoor

namespace Go.Proofs.YthlingdlehdlhaaDoor
open Go.RowKit Go.Shelf
set_option linter.unusedVariables false






end Go.Proofs.YthlingdlehdlhaaDoor

namespace Go.Proofs.YthlingdlehdlhaaDoor
open Go.RowKit Go.Shelf
set_option linter.unusedVariables false

end Go.Proofs.YthlingdlehdlhaaDoor
