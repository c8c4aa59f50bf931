/- array.Text: digits, elements, Text.
   array.Text: the elements of numbers; Text.
   array.Text.
   Two arrays that may be have one text just if they are the same: plain lists. -/
import Derived.Test.YthlingdlehdlhaaDoorArrB
import Derived.Test.YthlingdlehdlhaaDoorLx
import Derived.Test.YthlingdlehdlhaaDoorCnt
namespace Go.Proofs.YthlingdlehdlhaaDoor
open Go.RowKit Go.Shelf
open Go.Sort (grow)
set_option linter.unusedVariables false


theorem tabIs_below {n : String} {g : Nat} {k : IntKind} {zs : List Int} {w w' : World} (hg : Tryd.prog.globalNamed n = some g) (h : Lib.TabIs Tryd.prog w n k zs) (hb : Below w.heap.size w w') : Lib.TabIs Tryd.prog w' n k zs := by
  unfold Lib.TabIs World.var? at h ⊢
  rw [hg] at h ⊢
  simp only [Option.bind_some] at h ⊢
  have hlt : g < w.heap.size := by
    rcases Nat.lt_or_ge g w.heap.size with h' | h'
    · exact h'
    · rw [Array.getElem?_eq_none h'] at h; cases h
  rw [hb.block g hlt]
  exact h


theorem below_grew {w w' : World} (h : ∃ k os, w' = grow (w.drewN k) os) : Below w.heap.size w w' := by
  obtain ⟨k, os, rfl⟩ := h
  refine ⟨rfl, rfl, rfl, by simp [grow], fun b hb => ?_⟩
  simp [grow, Array.getElem?_append_left hb]

theorem mk_toArray (l : List UInt8) : (ByteArray.mk l.toArray).data.toList = l := by simp
theorem mk_size (l : List UInt8) : (ByteArray.mk l.toArray).size = l.length := by simp [ByteArray.size]


theorem okArr_parts {x : Arr} (h : okArr x = true) : count x.shape = some (x.elems.length : Int) ∧ (x.kind = 1 ∨ (x.kind = 2 ∧ hasOdd x.elems = false)) := by
  unfold okArr at h
  rw [Bool.and_eq_true, decide_eq_true_eq, Bool.or_eq_true, Bool.and_eq_true, decide_eq_true_eq, decide_eq_true_eq, Bool.not_eq_true'] at h
  exact h

theorem countFold_le (xs : List Int) (a n : Int) (h : countFold xs a = some n) : n ≤ 4096 := by
  induction xs generalizing a with
  | nil => unfold countFold at h; split at h <;> simp at h; omega
  | cons l r ih =>
    unfold countFold at h
    split at h
    · simp at h
    · exact ih _ h

theorem count_le (xs : List Int) (n : Int) (h : count xs = some n) : n ≤ 4096 := by
  unfold count at h
  split at h
  · simp at h
  · exact countFold_le _ _ _ h

theorem hasOdd_get {xs : List Int} (h : hasOdd xs = false) (i : Nat) (hi : i < xs.length) : 0 ≤ xs[i]?.getD 0 ∧ xs[i]?.getD 0 ≤ 1114111 := by
  unfold hasOdd at h
  rw [List.any_eq_false] at h
  have := h (xs[i]?.getD 0) (by rw [List.getElem?_eq_getElem hi, Option.getD_some]; exact List.getElem_mem hi)
  simp [isChar] at this
  exact ⟨this.1, this.2.1⟩

theorem subst_length (c d : UInt8) (s : List UInt8) : (subst c [d, d] s).length ≤ 2 * s.length := by
  induction s with
  | nil => simp [subst]
  | cons b r ih =>
    unfold subst at *
    rw [List.flatMap_cons, List.length_append, List.length_cons]
    split <;> simp only [List.length_cons, List.length_nil] <;> omega
theorem encs_snoc (xs : List Int) (n : Int) : encs (xs ++ [n]) = encs xs ++ Lib.encodeRune n := by simp [encs]
theorem byteCells_snoc (a b : List UInt8) : Lib.byteCells (a ++ b) = Lib.byteCells a ++ Lib.byteCells b := by simp [Lib.byteCells]

theorem str_app (a b : List UInt8) : ByteArray.mk a.toArray ++ ByteArray.mk b.toArray = ⟨(a ++ b).toArray⟩ := by
  apply ByteArray.ext; simp
theorem str_app3 (t : List UInt8) : ByteArray.mk #[39] ++ ⟨t.toArray⟩ ++ ByteArray.mk #[39] = ⟨(39 :: (t ++ [39])).toArray⟩ := by
  apply ByteArray.ext; simp



end Go.Proofs.YthlingdlehdlhaaDoor

namespace Go.Proofs.YthlingdlehdlhaaDoor
open Go.RowKit Go.Shelf
set_option linter.unusedVariables false

def bs (l : List UInt8) : ByteArray := ⟨l.toArray⟩
theorem bs_list (l : List UInt8) : (bs l).data.toList = l := by simp [bs]
theorem bs_size (l : List UInt8) : (bs l).size = l.length := by simp [bs, ByteArray.size]


def digVals (xs : List Int) : List Value := xs.map fun n => .string (bs (dig n))


end Go.Proofs.YthlingdlehdlhaaDoor

namespace Go.Proofs.YthlingdlehdlhaaDoor
open Go.RowKit Go.Shelf
set_option linter.unusedVariables false


def textRes (x : Arr) : List UInt8 := if okArr x = true then textOf x else []
def itoaVals (xs : List Int) : List Value := xs.map fun n => .string (bs (Lib.itoa n))

theorem elemText_len (x : Arr) (ho : okArr x = true) (hr : Rng x.elems) : (elemText x).length ≤ 500000 := by
  have hl := count_le _ _ (okArr_parts ho).1
  unfold elemText
  split
  · have h1 := subst_length 39 39 (encs x.elems)
    have h2 := encs_length x.elems
    simp only [List.length_cons, List.length_append, List.length_nil]
    omega
  · split
    · simp
    · have := join_le 22 (x.elems.map dig) [32] (by
        intro y hy
        obtain ⟨n, hn, rfl⟩ := List.mem_map.1 hy
        obtain ⟨j, hj, rfl⟩ := List.getElem_of_mem hn
        have := hr j hj
        rw [List.getElem?_eq_getElem hj, Option.getD_some] at this
        exact dig_length _ this.1 this.2)
      simp only [List.length_map, List.length_cons, List.length_nil] at this
      omega

theorem bare_cases (x : Arr) :
    (bare x = true ∧ ((x.shape.length : Int) == 0) = true) ∨
    (bare x = true ∧ ((x.shape.length : Int) == 0) = false ∧ ((x.shape.length : Int) == 1) = true ∧ decide (1 < (x.elems.length : Int)) = true) ∨
    (bare x = true ∧ ((x.shape.length : Int) == 0) = false ∧ ((x.shape.length : Int) == 1) = true ∧ decide (1 < (x.elems.length : Int)) = false ∧ ((x.elems.length : Int) == 0) = true ∧ (x.kind == 2) = true) ∨
    (bare x = false ∧ ((x.shape.length : Int) == 0) = false ∧ ((x.shape.length : Int) == 1) = true ∧ decide (1 < (x.elems.length : Int)) = false ∧ ((x.elems.length : Int) == 0) = true ∧ (x.kind == 2) = false) ∨
    (bare x = false ∧ ((x.shape.length : Int) == 0) = false ∧ ((x.shape.length : Int) == 1) = true ∧ decide (1 < (x.elems.length : Int)) = false ∧ ((x.elems.length : Int) == 0) = false) ∨
    (bare x = false ∧ ((x.shape.length : Int) == 0) = false ∧ ((x.shape.length : Int) == 1) = false) := by
  unfold bare
  generalize x.shape.length = n
  generalize x.elems.length = m
  generalize x.kind = k
  have e0 : ((n : Int) == 0) = decide (n = 0) := by rw [Bool.eq_iff_iff, beq_iff_eq, decide_eq_true_eq]; omega
  have e1 : ((n : Int) == 1) = decide (n = 1) := by rw [Bool.eq_iff_iff, beq_iff_eq, decide_eq_true_eq]; omega
  have e2 : decide (1 < (m : Int)) = decide (1 < m) := by rw [Bool.eq_iff_iff, decide_eq_true_eq, decide_eq_true_eq]; omega
  have e3 : ((m : Int) == 0) = decide (m = 0) := by rw [Bool.eq_iff_iff, beq_iff_eq, decide_eq_true_eq]; omega
  have e4 : (k == 2) = decide (k = 2) := by rw [Bool.eq_iff_iff, beq_iff_eq, decide_eq_true_eq]
  rw [e0, e1, e2, e3, e4]
  cases decide (n = 0) <;> cases decide (n = 1) <;> cases decide (1 < m) <;> cases decide (m = 0) <;> cases decide (k = 2) <;> simp

/-- Three cells of a box. -/
def Box3 (w : World) (b : Nat) (v0 v1 v2 : Value) : Prop := w.cell? ⟨b, 0, none⟩ = some v0 ∧ w.cell? ⟨b, 1, none⟩ = some v1 ∧ w.cell? ⟨b, 2, none⟩ = some v2
theorem Box3.below {B : Nat} {w w' : World} {b : Nat} {v0 v1 v2 : Value} (h : Box3 w b v0 v1 v2) (hb : Below B w w') (hB : b < B) : Box3 w' b v0 v1 v2 :=
  ⟨(hb.cell (p := ⟨b, 0, none⟩) hB).trans h.1, (hb.cell (p := ⟨b, 1, none⟩) hB).trans h.2.1, (hb.cell (p := ⟨b, 2, none⟩) hB).trans h.2.2⟩


end Go.Proofs.YthlingdlehdlhaaDoor

namespace Go.Proofs.YthlingdlehdlhaaDoor
open Go.Lib
set_option linter.unusedVariables false

/-! ### Digits -/

def decVal (l : List UInt8) : Nat := l.foldl (fun a b => a * 10 + (b.toNat - 48)) 0
theorem decVal_dec (u : Nat) : decVal (decDigits u) = u := by
  induction u using Nat.strongRecOn with
  | _ u ih =>
    rw [decDigits]
    split
    · simp only [decVal, List.foldl_cons, List.foldl_nil]; rw [UInt8.toNat_ofNat']; omega
    · have h := ih (u / 10) (by omega)
      unfold decVal at h ⊢
      rw [List.foldl_append, h]
      simp only [List.foldl_cons, List.foldl_nil]
      rw [UInt8.toNat_ofNat']; omega

theorem dec_inj {u v : Nat} (h : decDigits u = decDigits v) : u = v := by rw [← decVal_dec u, h, decVal_dec]
theorem dec_ne (u : Nat) : decDigits u ≠ [] := by rw [decDigits]; split <;> simp
theorem dec_head (u : Nat) (b : UInt8) (s : List UInt8) (h : decDigits u = b :: s) : 48 ≤ b.toNat ∧ b.toNat ≤ 57 := dec_digit u b (by rw [h]; simp)

theorem dig_inj {n m : Int} (h : dig n = dig m) : n = m := by
  unfold dig at h
  split at h <;> split at h
  · have := dec_inj (by simpa using h); omega
  · exfalso
    have := dec_head _ _ _ h.symm
    exact absurd this.2 (by decide)
  · exfalso
    have := dec_head _ _ _ h
    exact absurd this.2 (by decide)
  · have := dec_inj h; omega

theorem dig_ne (n : Int) : dig n ≠ [] := by unfold dig; split; · simp
                                            · exact dec_ne _
theorem dig_no32 (n : Int) : (32 : UInt8) ∉ dig n := by
  intro h
  have h1 : ∀ u, (32 : UInt8) ∉ decDigits u := fun u hm => absurd (dec_digit u _ hm).1 (by decide)
  unfold dig at h
  split at h
  · simp only [List.mem_cons] at h
    rcases h with h | h | h
    · exact absurd h (by decide)
    · exact absurd h (by decide)
    · exact h1 _ h
  · exact h1 _ h

theorem itoa_nat {n : Int} (h : 0 ≤ n) : itoa n = decDigits n.toNat := by unfold itoa; rw [if_neg (by omega)]
theorem itoa_dig {n : Int} (h : 0 ≤ n) : itoa n = dig n := by unfold itoa dig; rw [if_neg (by omega), if_neg (by omega)]

/-! ### Put together with blanks -/

theorem split_at {c : UInt8} {a b s t : List UInt8} (ha : c ∉ a) (hb : c ∉ b) (h : a ++ c :: s = b ++ c :: t) : a = b ∧ s = t := by
  induction a generalizing b with
  | nil =>
    cases b with
    | nil => exact ⟨rfl, by simpa using h⟩
    | cons y b => exfalso; simp only [List.nil_append, List.cons_append, List.cons.injEq] at h; exact hb (by simp [h.1])
  | cons x a ih =>
    cases b with
    | nil => exfalso; simp only [List.nil_append, List.cons_append, List.cons.injEq] at h; exact ha (by simp [h.1])
    | cons y b =>
      simp only [List.cons_append, List.cons.injEq] at h
      obtain ⟨rfl, h⟩ := h
      obtain ⟨rfl, rfl⟩ := ih (fun e => ha (by simp [e])) (fun e => hb (by simp [e])) h
      exact ⟨rfl, rfl⟩

theorem join_cons2 (x y : List UInt8) (r : List (List UInt8)) : join (x :: y :: r) [32] = x ++ 32 :: join (y :: r) [32] := by
  rw [join_cons, join_cons]
  simp [joinTail]

theorem join_inj {f : Int → List UInt8} (hf : ∀ n m, f n = f m → n = m) (h32 : ∀ n, (32 : UInt8) ∉ f n) : ∀ (xs ys : List Int), xs ≠ [] → ys ≠ [] → join (xs.map f) [32] = join (ys.map f) [32] → xs = ys
  | [], _, h, _, _ => absurd rfl h
  | _ :: _, [], _, h, _ => absurd rfl h
  | [x], [y], _, _, h => by simp only [List.map_cons, List.map_nil, join_one] at h; rw [hf _ _ h]
  | [x], y :: y2 :: r, _, _, h => by
    exfalso
    simp only [List.map_cons, List.map_nil, join_one] at h
    rw [join_cons2] at h
    exact h32 x (by rw [h]; simp)
  | x :: x2 :: r, [y], _, _, h => by
    exfalso
    simp only [List.map_cons, List.map_nil, join_one] at h
    rw [join_cons2] at h
    exact h32 y (by rw [← h]; simp)
  | x :: x2 :: r, y :: y2 :: s, _, _, h => by
    simp only [List.map_cons] at h
    rw [join_cons2, join_cons2] at h
    obtain ⟨h1, h2⟩ := split_at (h32 x) (h32 y) h
    have := join_inj hf h32 (x2 :: r) (y2 :: s) (by simp) (by simp) (by simpa using h2)
    rw [hf _ _ h1, this]

/-! ### Characters -/

theorem u8_nat {x y : Int} (hx : 0 ≤ x ∧ x < 256) (hy : 0 ≤ y ∧ y < 256) (h : x.toNat.toUInt8 = y.toNat.toUInt8) : x = y := by
  have := congrArg UInt8.toNat h
  simp only [Nat.toUInt8, UInt8.toNat_ofNat'] at this
  omega

theorem isChar_cases {n : Int} (h : isChar n = true) : 0 ≤ n ∧ n ≤ 1114111 ∧ ¬ (55296 ≤ n ∧ n ≤ 57343) := by
  unfold isChar at h
  simp only [Bool.and_eq_true, decide_eq_true_eq] at h
  refine ⟨h.1, h.2.1, fun hs => ?_⟩
  have := h.2.2
  simp [Lib.validRune] at this
  omega

theorem enc_forms {n : Int} (h : isChar n = true) :
    (0 ≤ n ∧ n ≤ 127 ∧ encodeRuneZ n = [n]) ∨ (128 ≤ n ∧ n ≤ 2047 ∧ encodeRuneZ n = [192 + n / 64, 128 + n % 64]) ∨
    (2048 ≤ n ∧ n ≤ 65535 ∧ encodeRuneZ n = [224 + n / 4096, 128 + n / 64 % 64, 128 + n % 64]) ∨
    (65536 ≤ n ∧ n ≤ 1114111 ∧ encodeRuneZ n = [240 + n / 262144, 128 + n / 4096 % 64, 128 + n / 64 % 64, 128 + n % 64]) := by
  obtain ⟨h0, h1, h2⟩ := isChar_cases h
  by_cases a : n ≤ 127
  · exact .inl ⟨h0, a, encodeRuneZ_one h0 a⟩
  · by_cases b : n ≤ 2047
    · exact .inr (.inl ⟨by omega, b, encodeRuneZ_two (by omega) b⟩)
    · by_cases c : n ≤ 65535
      · exact .inr (.inr (.inl ⟨by omega, c, encodeRuneZ_three (by omega)⟩))
      · exact .inr (.inr (.inr ⟨by omega, h1, encodeRuneZ_four (by omega) h1⟩))

theorem enc_inj {n m : Int} {s t : List UInt8} (hn : isChar n = true) (hm : isChar m = true) (h : encodeRune n ++ s = encodeRune m ++ t) : n = m ∧ s = t := by
  unfold encodeRune at h
  rcases enc_forms hn with ⟨a1, a2, a3⟩ | ⟨a1, a2, a3⟩ | ⟨a1, a2, a3⟩ | ⟨a1, a2, a3⟩ <;> rcases enc_forms hm with ⟨b1, b2, b3⟩ | ⟨b1, b2, b3⟩ | ⟨b1, b2, b3⟩ | ⟨b1, b2, b3⟩ <;>
    rw [a3, b3] at h <;> simp only [List.map_cons, List.map_nil, List.cons_append, List.nil_append, List.cons.injEq] at h
  · have := u8_nat (by omega) (by omega) h.1; exact ⟨this, h.2⟩
  · have := u8_nat (by omega) (by omega) h.1; omega
  · have := u8_nat (by omega) (by omega) h.1; omega
  · have := u8_nat (by omega) (by omega) h.1; omega
  · have := u8_nat (by omega) (by omega) h.1; omega
  · have h1 := u8_nat (by omega) (by omega) h.1
    have h2 := u8_nat (by omega) (by omega) h.2.1
    exact ⟨by omega, h.2.2⟩
  · have := u8_nat (by omega) (by omega) h.1; omega
  · have := u8_nat (by omega) (by omega) h.1; omega
  · have := u8_nat (by omega) (by omega) h.1; omega
  · have := u8_nat (by omega) (by omega) h.1; omega
  · have h1 := u8_nat (by omega) (by omega) h.1
    have h2 := u8_nat (by omega) (by omega) h.2.1
    have h3 := u8_nat (by omega) (by omega) h.2.2.1
    exact ⟨by omega, h.2.2.2⟩
  · have := u8_nat (by omega) (by omega) h.1; omega
  · have := u8_nat (by omega) (by omega) h.1; omega
  · have := u8_nat (by omega) (by omega) h.1; omega
  · have := u8_nat (by omega) (by omega) h.1; omega
  · have h1 := u8_nat (by omega) (by omega) h.1
    have h2 := u8_nat (by omega) (by omega) h.2.1
    have h3 := u8_nat (by omega) (by omega) h.2.2.1
    have h4 := u8_nat (by omega) (by omega) h.2.2.2.1
    exact ⟨by omega, h.2.2.2.2⟩

theorem enc_ne (n : Int) : encodeRune n ≠ [] := by
  intro h
  have := (encodeRuneZ_length n).1
  have h2 : (encodeRune n).length = (encodeRuneZ n).length := by simp [encodeRune]
  rw [h] at h2
  simp at h2
  omega

theorem encs_inj : ∀ (xs ys : List Int), (∀ n ∈ xs, isChar n = true) → (∀ n ∈ ys, isChar n = true) → encs xs = encs ys → xs = ys
  | [], [], _, _, _ => rfl
  | [], y :: s, _, _, h => by
    exfalso
    simp only [encs, List.flatMap_nil, List.flatMap_cons] at h
    exact enc_ne y (List.append_eq_nil_iff.1 h.symm).1
  | x :: r, [], _, _, h => by
    exfalso
    simp only [encs, List.flatMap_nil, List.flatMap_cons] at h
    exact enc_ne x (List.append_eq_nil_iff.1 h).1
  | x :: r, y :: s, hx, hy, h => by
    simp only [encs, List.flatMap_cons] at h
    obtain ⟨rfl, h2⟩ := enc_inj (hx x (by simp)) (hy y (by simp)) h
    rw [encs_inj r s (fun n hn => hx n (by simp [hn])) (fun n hn => hy n (by simp [hn])) h2]

theorem subst_inj (c : UInt8) : ∀ s t : List UInt8, subst c [c, c] s = subst c [c, c] t → s = t
  | [], [], _ => rfl
  | [], b :: t, h => by
    exfalso
    simp only [subst, List.flatMap_nil, List.flatMap_cons] at h
    split at h <;> simp at h
  | b :: t, [], h => by
    exfalso
    simp only [subst, List.flatMap_nil, List.flatMap_cons] at h
    split at h <;> simp at h
  | a :: s, b :: t, h => by
    have ih := subst_inj c s t
    simp only [subst, List.flatMap_cons] at h ih
    by_cases ha : a = c <;> by_cases hb : b = c
    · subst ha; subst hb
      simp only [if_pos, List.cons_append, List.nil_append, List.cons.injEq, true_and] at h
      rw [ih h]
    · subst ha
      rw [if_pos rfl, if_neg hb] at h
      simp only [List.cons_append, List.nil_append, List.cons.injEq] at h
      exact absurd h.1.symm hb
    · subst hb
      rw [if_pos rfl, if_neg ha] at h
      simp only [List.cons_append, List.nil_append, List.cons.injEq] at h
      exact absurd h.1 ha
    · rw [if_neg ha, if_neg hb] at h
      simp only [List.cons_append, List.nil_append, List.cons.injEq] at h
      rw [h.1, ih h.2]

/-! ### The whole text -/

def numByte (b : UInt8) : Bool := (decide (48 ≤ b.toNat) && decide (b.toNat ≤ 57)) || decide (b = 32)

theorem join_mem (f : Int → List UInt8) (xs : List Int) : ∀ b ∈ join (xs.map f) [32], b = 32 ∨ ∃ x ∈ xs, b ∈ f x := by
  intro b hb
  cases xs with
  | nil => simp [join_nil] at hb
  | cons x r =>
    rw [List.map_cons, join_cons, List.mem_append] at hb
    rcases hb with h | h
    · exact .inr ⟨x, by simp, h⟩
    · simp only [joinTail, List.map_map, List.mem_flatten, List.mem_map, Function.comp] at h
      obtain ⟨l, ⟨y, hy, rfl⟩, hl⟩ := h
      simp only [List.cons_append, List.nil_append, List.mem_cons] at hl
      rcases hl with h | h
      · exact .inl h
      · exact .inr ⟨y, by simp [hy], h⟩

theorem count_nonneg {xs : List Int} {n : Int} (h : count xs = some n) : ∀ x ∈ xs, 0 ≤ x := by
  unfold count at h
  split at h
  · simp at h
  · generalize (1 : Int) = a at h
    induction xs generalizing a with
    | nil => simp
    | cons x r ih =>
      rename_i hl
      rw [countFold] at h
      split at h
      · simp at h
      · intro y hy
        rcases List.mem_cons.1 hy with rfl | hy
        · omega
        · exact ih (by simp only [List.length_cons] at hl; omega) _ h y hy

theorem head_num (xs : List Int) (h : ∀ x ∈ xs, 0 ≤ x) : ∀ b ∈ join (xs.map itoa) [32], numByte b = true := by
  intro b hb
  rcases join_mem _ _ b hb with rfl | ⟨x, hx, h1⟩
  · decide
  · rw [itoa_nat (h x hx)] at h1
    have := dec_digit _ _ h1
    simp [numByte, this]

/-- What begins with bytes of numbers, and goes on by another. -/
theorem span_inj {p : UInt8 → Bool} {a b : List UInt8} {c d : UInt8} {s t : List UInt8} (ha : ∀ x ∈ a, p x = true) (hb : ∀ x ∈ b, p x = true) (hc : p c = false) (hd : p d = false) (h : a ++ c :: s = b ++ d :: t) : a = b ∧ c = d ∧ s = t := by
  induction a generalizing b with
  | nil =>
    cases b with
    | nil => simpa using h
    | cons y b => exfalso; simp only [List.nil_append, List.cons_append, List.cons.injEq] at h; have := hb y (by simp); rw [← h.1, hc] at this; cases this
  | cons x a ih =>
    cases b with
    | nil => exfalso; simp only [List.nil_append, List.cons_append, List.cons.injEq] at h; have := ha x (by simp); rw [h.1, hd] at this; cases this
    | cons y b =>
      simp only [List.cons_append, List.cons.injEq] at h
      obtain ⟨rfl, h⟩ := h
      obtain ⟨rfl, rfl, rfl⟩ := ih (fun e he => ha e (by simp [he])) (fun e he => hb e (by simp [he])) h
      exact ⟨rfl, rfl, rfl⟩

/-- The elements' text does not begin as the rest behind a shape does: nowhere a number's bytes, and then 226. -/
theorem elem_no226 (x : Arr) (a s : List UInt8) (ha : ∀ b ∈ a, numByte b = true) : elemText x ≠ a ++ 226 :: s := by
  intro h
  unfold elemText at h
  split at h
  · cases a with
    | nil => simp only [List.nil_append, List.cons.injEq] at h; exact absurd h.1 (by decide)
    | cons y a =>
      simp only [List.cons_append, List.cons.injEq] at h
      have := ha y (by simp)
      rw [← h.1] at this
      exact absurd this (by decide)
  · have hm : (226 : UInt8) ∈ (if x.elems = [] then [48] else join (x.elems.map dig) [32]) := by rw [h]; simp
    split at hm
    · simp at hm
    · rcases join_mem _ _ _ hm with h1 | ⟨n, _, h1⟩
      · exact absurd h1 (by decide)
      · unfold dig at h1
        have h2 : ∀ u, (226 : UInt8) ∉ decDigits u := fun u hm => absurd (dec_digit u _ hm).2 (by decide)
        split at h1
        · simp only [List.mem_cons] at h1
          rcases h1 with h1 | h1 | h1
          · exact absurd h1 (by decide)
          · exact absurd h1 (by decide)
          · exact h2 _ h1
        · exact h2 _ h1

theorem shape_ne {x : Arr} (h : ¬ bare x = true) : x.shape ≠ [] := by
  intro e; apply h; unfold bare; rw [e]; rfl

theorem itoa_join_inj {xs ys : List Int} (hx : ∀ x ∈ xs, 0 ≤ x) (hy : ∀ x ∈ ys, 0 ≤ x) (hx0 : xs ≠ []) (hy0 : ys ≠ []) (h : join (xs.map itoa) [32] = join (ys.map itoa) [32]) : xs = ys := by
  have e : ∀ zs : List Int, (∀ x ∈ zs, 0 ≤ x) → zs.map itoa = zs.map dig := fun zs hz => List.map_congr_left fun n hn => itoa_dig (hz n hn)
  rw [e xs hx, e ys hy] at h
  exact join_inj (fun _ _ => dig_inj) dig_no32 xs ys hx0 hy0 h

theorem hasOdd_all {xs : List Int} (h : hasOdd xs = false) : ∀ n ∈ xs, isChar n = true := by
  intro n hn
  unfold hasOdd at h
  rw [List.any_eq_false] at h
  simpa using h n hn

theorem count_one (n : Int) : count [n] = if n < 0 ∨ n > 4096 then none else some n := by
  rw [count, if_neg (by simp)]
  by_cases h : n < 0 ∨ n > 4096
  · rw [countFold, if_pos h, if_pos h]
  · rw [countFold, if_neg h, if_neg h, countFold, if_neg (by omega)]; simp

/-- A shape that is left out is told by how many elements there are. -/
theorem bare_shape {x y : Arr} (hx : okArr x = true) (hy : okArr y = true) (bx : bare x = true) (by_ : bare y = true) (h : x.elems = y.elems) : x.shape = y.shape := by
  have cx := (okArr_parts hx).1
  have cy := (okArr_parts hy).1
  have one : ∀ (z : Arr), count z.shape = some (z.elems.length : Int) → bare z = true → z.shape = if z.elems.length = 1 then [] else [(z.elems.length : Int)] := by
    intro z cz bz
    obtain ⟨k, shape, elems⟩ := z
    simp only at cz ⊢
    match shape, cz with
    | [], cz =>
      have : elems.length = 1 := by simp [count, countFold] at cz; omega
      rw [if_pos this]
    | [n], cz =>
      rw [count_one] at cz
      split at cz
      · simp at cz
      · have hn : n = (elems.length : Int) := by simpa using cz
        have : elems.length ≠ 1 := by
          intro e
          simp [bare, e] at bz
        rw [if_neg this, hn]
    | a :: b :: r, cz => simp [bare] at bz
  rw [one x cx bx, one y cy by_, h]

theorem elem_inj {x y : Arr} (hx : okArr x = true) (hy : okArr y = true) (hl : x.elems = [] ↔ y.elems = []) (h : elemText x = elemText y) : x.kind = y.kind ∧ x.elems = y.elems := by
  have kx := (okArr_parts hx).2
  have ky := (okArr_parts hy).2
  have first : ∀ z : Arr, z.kind ≠ 2 → ∀ b s, elemText z = b :: s → b ≠ 39 := by
    intro z hz b s hb e
    subst e
    unfold elemText at hb
    rw [if_neg hz] at hb
    split at hb
    · simp at hb
    · have hm : (39 : UInt8) ∈ join (z.elems.map dig) [32] := by rw [hb]; simp
      rcases join_mem _ _ _ hm with h1 | ⟨n, _, h1⟩
      · exact absurd h1 (by decide)
      · unfold dig at h1
        have h2 : ∀ u, (39 : UInt8) ∉ decDigits u := fun u hm => absurd (dec_digit u _ hm).1 (by decide)
        split at h1
        · simp only [List.mem_cons] at h1
          rcases h1 with h1 | h1 | h1
          · exact absurd h1 (by decide)
          · exact absurd h1 (by decide)
          · exact h2 _ h1
        · exact h2 _ h1
  by_cases hk : x.kind = 2 <;> by_cases hk' : y.kind = 2
  · refine ⟨by rw [hk, hk'], ?_⟩
    unfold elemText at h
    rw [if_pos hk, if_pos hk'] at h
    simp only [List.cons.injEq, true_and, List.append_cancel_right_eq] at h
    have hox : hasOdd x.elems = false := by rcases kx with h | h; · omega
                                            · exact h.2
    have hoy : hasOdd y.elems = false := by rcases ky with h | h; · omega
                                            · exact h.2
    exact encs_inj _ _ (hasOdd_all hox) (hasOdd_all hoy) (subst_inj 39 _ _ h)
  · exfalso
    have : elemText x = 39 :: (subst 39 [39, 39] (encs x.elems) ++ [39]) := by unfold elemText; rw [if_pos hk]
    exact first y hk' _ _ (h.symm.trans this) rfl
  · exfalso
    have : elemText y = 39 :: (subst 39 [39, 39] (encs y.elems) ++ [39]) := by unfold elemText; rw [if_pos hk']
    exact first x hk _ _ (h.trans this) rfl
  · refine ⟨by rcases kx with h | h <;> rcases ky with h' | h' <;> omega, ?_⟩
    by_cases he : x.elems = []
    · rw [he, hl.1 he]
    · unfold elemText at h
      rw [if_neg hk, if_neg hk', if_neg he, if_neg (fun e => he (hl.2 e))] at h
      exact join_inj (fun _ _ => dig_inj) dig_no32 _ _ he (fun e => he (hl.2 e)) h

theorem bare_some {x : Arr} (hx : okArr x = true) (bx : bare x = true) (h : x.elems = []) : x.kind = 2 := by
  have cx := (okArr_parts hx).1
  obtain ⟨k, shape, elems⟩ := x
  simp only at cx h ⊢
  subst h
  match shape, cx with
  | [], cx => simp [count, countFold] at cx
  | [n], cx => simpa [bare] using bx
  | a :: b :: r, cx => simp [bare] at bx

/-- THE PLAIN LAW. -/
theorem text_inj {x y : Arr} (hx : okArr x = true) (hy : okArr y = true) (h : textOf x = textOf y) : x = y := by
  have cx := (okArr_parts hx).1
  have cy := (okArr_parts hy).1
  have nx := count_nonneg cx
  have ny := count_nonneg cy
  have all : x.kind = y.kind ∧ x.shape = y.shape ∧ x.elems = y.elems := by
    unfold textOf at h
    by_cases bx : bare x = true <;> by_cases by_ : bare y = true
    · rw [if_pos bx, if_pos by_] at h
      have hl : x.elems = [] ↔ y.elems = [] := by
        have e39 : ∀ z : Arr, z.kind = 2 → elemText z = 39 :: (subst 39 [39, 39] (encs z.elems) ++ [39]) := fun z hz => by unfold elemText; rw [if_pos hz]
        have key : ∀ u v : Arr, okArr u = true → okArr v = true → bare u = true → bare v = true → elemText u = elemText v → u.elems = [] → v.elems = [] := by
          intro u v hu hv bu bv huv he
          have k2 := bare_some hu bu he
          have eu := e39 u k2
          rw [he] at eu
          by_cases kv : v.kind = 2
          · have ev := e39 v kv
            rw [← huv, eu] at ev
            simp only [List.cons.injEq, true_and, List.append_cancel_right_eq] at ev
            have := subst_inj 39 _ _ ev
            have hov : hasOdd v.elems = false := by rcases (okArr_parts hv).2 with h | h; · omega
                                                    · exact h.2
            exact (encs_inj [] v.elems (by simp) (hasOdd_all hov) this).symm
          · by_cases hv0 : v.elems = []
            · exact hv0
            · exfalso
              have ev : elemText v = join (v.elems.map dig) [32] := by unfold elemText; rw [if_neg kv, if_neg hv0]
              have hm : (39 : UInt8) ∈ join (v.elems.map dig) [32] := by rw [← ev, ← huv, eu]; simp
              rcases join_mem _ _ _ hm with h1 | ⟨n, _, h1⟩
              · exact absurd h1 (by decide)
              · unfold dig at h1
                have h2 : ∀ u, (39 : UInt8) ∉ decDigits u := fun u hm => absurd (dec_digit u _ hm).1 (by decide)
                split at h1
                · simp only [List.mem_cons] at h1
                  rcases h1 with h1 | h1 | h1
                  · exact absurd h1 (by decide)
                  · exact absurd h1 (by decide)
                  · exact h2 _ h1
                · exact h2 _ h1
        exact ⟨key x y hx hy bx by_ h, key y x hy hx by_ bx h.symm⟩
      obtain ⟨h1, h2⟩ := elem_inj hx hy hl h
      exact ⟨h1, bare_shape hx hy bx by_ h2, h2⟩
    · exfalso
      rw [if_pos bx, if_neg by_] at h
      exact elem_no226 x _ _ (head_num y.shape ny) (by rw [h, List.append_assoc]; rfl)
    · exfalso
      rw [if_neg bx, if_pos by_] at h
      exact elem_no226 y _ _ (head_num x.shape nx) (by rw [← h, List.append_assoc]; rfl)
    · rw [if_neg bx, if_neg by_, List.append_assoc, List.append_assoc] at h
      obtain ⟨h1, -, h2⟩ := span_inj (p := numByte) (head_num x.shape nx) (head_num y.shape ny) (by decide) (by decide) h
      have hs := itoa_join_inj nx ny (shape_ne bx) (shape_ne by_) h1
      have h3 : elemText x = elemText y := by simpa using h2
      have hl : x.elems.length = y.elems.length := by rw [hs, cy] at cx; have := Option.some.inj cx; omega
      obtain ⟨h4, h5⟩ := elem_inj hx hy (by rw [← List.length_eq_zero_iff, ← List.length_eq_zero_iff, hl]) h3
      exact ⟨h4, hs, h5⟩
  obtain ⟨k, s, e⟩ := x
  obtain ⟨k', s', e'⟩ := y
  simp only at all
  obtain ⟨rfl, rfl, rfl⟩ := all
  rfl
end Go.Proofs.YthlingdlehdlhaaDoor
