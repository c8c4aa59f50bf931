/- array.Count and the reference's Count, for every slice of ints.
   New lists of ints.
   The reference's Count and Shapes, for every slice of ints.
   strides: the axes with their strides, the last one first.
   array.Place: the number of a place.
   array.At: the place of a number. -/
import Derived.Test.YthlingdlehdlhaaDoorProg
import Derived.Test.YthlingdlehdlhaaDoorBase
import Derived.WalkKit
import Derived.Deep.QuietTactic
import Derived.BigQuiet
namespace Go.Proofs.YthlingdlehdlhaaDoor
open Go.RowKit
set_option linter.unusedVariables false

def countFold (xs : List Int) (n : Int) : Option Int :=
  match xs with
  | [] => if n > 4096 then none else some n
  | l :: r => if l < 0 ∨ l > 4096 then none else countFold r (n * l)

def count (xs : List Int) : Option Int := if xs.length > 4 then none else countFold xs 1

def cRes : Option Int → Value
  | none => .tuple #[.int .i64 0, .int .i64 110]
  | some n => .tuple #[.int .i64 n, .int .i64 0]

theorem countFold_bad (l : Int) (r : List Int) (n : Int) (h : l < 0 ∨ l > 4096) : countFold (l :: r) n = none := by simp [countFold, h]
theorem countFold_ok (l : Int) (r : List Int) (n : Int) (h : ¬ (l < 0 ∨ l > 4096)) : countFold (l :: r) n = countFold r (n * l) := by
  rw [countFold, if_neg h]

theorem drop_cons (xs : List Int) (k : Nat) (h : k < xs.length) : xs.drop k = xs[k]?.getD 0 :: xs.drop (k + 1) := by
  rw [List.drop_eq_getElem_cons h]; simp [h]

theorem mul_step (n l : Int) (k : Nat) (h0 : 0 ≤ n) (h1 : n ≤ 4096 ^ k) (hl0 : 0 ≤ l) (hl1 : l ≤ 4096) : 0 ≤ n * l ∧ n * l ≤ 4096 ^ (k + 1) := by
  refine ⟨Int.mul_nonneg h0 hl0, ?_⟩
  have : n * l ≤ 4096 ^ k * 4096 := Int.mul_le_mul h1 hl1 hl0 (by exact Int.le_trans h0 h1)
  simpa [Int.pow_succ] using this

theorem pow_le4 (k : Nat) (h : k ≤ 4) : (4096 : Int) ^ k ≤ 281474976710656 := by
  have : k = 0 ∨ k = 1 ∨ k = 2 ∨ k = 3 ∨ k = 4 := by omega
  rcases this with rfl | rfl | rfl | rfl | rfl <;> decide


end Go.Proofs.YthlingdlehdlhaaDoor

namespace Go.Proofs.YthlingdlehdlhaaDoor
open Go.RowKit
set_option linter.unusedVariables false

theorem Tryd.infoInt : (Tryd.prog.info? 3).map (fun i => (i.zero, i.size, i.bytes)) = some (some (.int .i64 0), 1, 8) := by kernel_rfl

/-- New ints are handed back. -/
def NewInts (w : World) (xs : List Int) (v : Value) (w' : World) : Prop :=
  w'.ownsRow w.heap.size 3 1 v xs.length (xs.map (.int .i64)) ∧ Below w.heap.size w w'

def RetInts (w : World) (xs : List Int) (e : Ending) (w' : World) : Prop := ∃ v, e = .returned v ∧ NewInts w xs v w'

theorem NewInts.ints {w w' : World} {xs : List Int} {v : Value} (h : NewInts w xs v w') : Ints w' v xs := .of_owns h.1

theorem Lies.newcells {w : World} {ad : Addr} {cs : List Value} (h : Lies w (some ad) cs) : ∀ j u, cs[j]? = some u → w.cell? (ad.add j) = some u := by
  intro j u hj
  obtain ⟨hj', rfl⟩ := List.getElem?_eq_some_iff.1 hj
  obtain ⟨b, o, e, hc⟩ := h j hj'
  obtain rfl : ad = ⟨b, o, none⟩ := by simpa using e
  rw [Addr.add_lit]; exact hc


end Go.Proofs.YthlingdlehdlhaaDoor

namespace Go.Proofs.YthlingdlehdlhaaDoor
open Go.RowKit
set_option linter.unusedVariables false


theorem eq_of_take_drop (xs ys : List Int) (k : Nat) (h : xs.take k = ys.take k) : (xs = ys) ↔ xs.drop k = ys.drop k := by
  constructor
  · rintro rfl; rfl
  · intro e
    rw [← List.take_append_drop k xs, ← List.take_append_drop k ys, h, e]

theorem take_succ_getD (xs : List Int) (k : Nat) (h : k < xs.length) : xs.take (k + 1) = xs.take k ++ [xs[k]?.getD 0] := by
  rw [List.take_succ_eq_append_getElem h]; simp [h]

set_option maxHeartbeats 400000 in
theorem rshapes_any (va vb : Value) (xs ys : List Int) (w : World) (hx : Ints w va xs) (hy : Ints w vb ys) :
    Calls Tryd.prog 80 #[va, vb] w fun e w' => e = .returned (.bool (decide (xs = ys))) ∧ Quiet w w' := by
  obtain ⟨a, cap, rfl, h1, h2, h3, hc⟩ := hx.parts
  obtain ⟨a', cap', rfl, h1', h2', h3', hc'⟩ := hy.parts
  clear hx hy
  by_cases hlen : xs.length = ys.length
  · have hb : ((xs.length : Int) != (ys.length : Int)) = false := by simp [hlen]
    have hlen' : ¬ xs.length < ys.length := by omega
    have hlen2 : ¬ ys.length < xs.length := by omega
    clear hlen
    go_enter Tryd.func80, Tryd.ntmps80
    go_wp2
    go_loopw [5] (fun i wr => ∃ k : Nat, k ≤ xs.length ∧ i = .int .i64 k ∧ xs.take k = ys.take k ∧ Quiet w wr) (fun i _ => xs.length - (intOf i).toNat)
    case atStart => exact ⟨0, by omega, rfl, by simp, Quiet.refl _⟩
    case round =>
      obtain ⟨k, hk, rfl, ht, ⟨nq0, rfl⟩⟩ := hrel
      by_cases hlt : k < xs.length
      · rcases hc with rfl | ⟨b, o, rfl, hc⟩
        · simp at hlt
        rcases hc' with rfl | ⟨b', o', rfl, hc'⟩
        · simp only [List.length_nil] at hlen2; omega
        have hcell := hc k hlt
        have hcell' := hc' k (by omega)
        have t1 := take_succ_getD xs k hlt
        have t2 := take_succ_getD ys k (by omega)
        generalize xs[k]?.getD 0 = l at hcell t1
        generalize ys[k]?.getD 0 = l' at hcell' t2
        have hki : (k : Int) < (xs.length : Int) := by omega
        have hki' : (k : Int) < (ys.length : Int) := by omega
        by_cases he : l = l'
        · have hb2 : (l != l') = false := by simp [he]
          have H : Hid (xs.take (k + 1) = ys.take (k + 1)) := hid (by rw [t1, t2, ht, he])
          clear t1 t2 he ht hc hc'
          go_wp2
          go_quiet (fail)
          go_wp2
          go_roundw
          case rel => exact ⟨k + 1, by omega, by go_num, H.out, ⟨_, rfl⟩⟩
          case measure => simp [intOf]; omega
        · have hb2 : (l != l') = true := by simp [he]
          have H : Hid (xs ≠ ys) := hid (by rintro rfl; exact he (by simpa using t1.symm.trans t2))
          clear t1 t2 he ht hc hc'
          go_wp2
          go_quiet (fail)
          go_wp2
          go_ret
          exact ⟨by rw [decide_eq_false H.out]; rfl, (Quiet.mk _ _).trans (Quiet.mk _ _)⟩
      · have H : Hid (xs = ys) := hid (by rw [List.take_of_length_le (by omega), List.take_of_length_le (by omega)] at ht; exact ht)
        clear ht hc hc'
        go_wp2
        go_ret
        exact ⟨by rw [decide_eq_true H.out]; rfl, ⟨_, rfl⟩⟩
  · have hb : ((xs.length : Int) != (ys.length : Int)) = true := by rw [bne_iff_ne]; omega
    have H : Hid (xs ≠ ys) := hid (fun e => hlen (by rw [e]))
    clear hlen hc hc'
    go_enter Tryd.func80, Tryd.ntmps80
    go_wp2
    go_ret
    exact ⟨by rw [decide_eq_false H.out]; rfl, Quiet.refl _⟩

end Go.Proofs.YthlingdlehdlhaaDoor

namespace Go.Proofs.YthlingdlehdlhaaDoor
open Go.RowKit Go.Shelf
set_option linter.unusedVariables false
attribute [local go_sem] Oper.semAt_some

/-- The product of the last k numbers. -/
def strd (xs : List Int) (k : Nat) : Int := (xs.drop (xs.length - k)).foldr (· * ·) 1

theorem strd_zero (xs : List Int) : strd xs 0 = 1 := by simp [strd]
theorem strd_succ (xs : List Int) (k : Nat) (h : k < xs.length) : strd xs (k + 1) = strd xs k * xs[xs.length - 1 - k]?.getD 0 := by
  unfold strd
  have e : xs.length - k = xs.length - (k + 1) + 1 := by omega
  have h' : xs.length - (k + 1) < xs.length := by omega
  rw [drop_cons xs _ h', e]
  simp only [List.foldr_cons]
  rw [Int.mul_comm, show xs.length - 1 - k = xs.length - (k + 1) from by omega]

/-- Numbers that may stand in a shape. -/
def Fits (xs : List Int) : Prop := xs.length ≤ 4 ∧ ∀ i, i < xs.length → 0 ≤ xs[i]?.getD 0 ∧ xs[i]?.getD 0 ≤ 4096

theorem strd_bd (xs : List Int) (h : Fits xs) (k : Nat) (hk : k ≤ xs.length) : 0 ≤ strd xs k ∧ strd xs k ≤ 4096 ^ k := by
  induction k with
  | zero => rw [strd_zero]; decide
  | succ k ih =>
    obtain ⟨a, b⟩ := ih (by omega)
    obtain ⟨c, d⟩ := h.2 (xs.length - 1 - k) (by omega)
    rw [strd_succ xs k (by omega)]
    exact mul_step _ _ k a b c d

/-- What yield is handed in round k. -/
def strEnc (xs : List Int) (k : Nat) : Array Value := #[.int .i64 ((xs.length : Int) - 1 - k), .int .i64 (strd xs k)]



end Go.Proofs.YthlingdlehdlhaaDoor

namespace Go.Proofs.YthlingdlehdlhaaDoor
open Go.RowKit Go.Shelf
set_option linter.unusedVariables false
attribute [local go_sem] Oper.semAt_some

/-- The sum of the last k numbers of a place, each by its stride. -/
def sumTo (xs at_ : List Int) : Nat → Int
  | 0 => 0
  | k + 1 => sumTo xs at_ k + strd xs k * at_[xs.length - 1 - k]?.getD 0

/-- Number i of a place lies in its axis. -/
def okAt (xs at_ : List Int) (i : Nat) : Prop := 0 ≤ at_[i]?.getD 0 ∧ at_[i]?.getD 0 < xs[i]?.getD 0

instance (xs at_ : List Int) (i : Nat) : Decidable (okAt xs at_ i) := by unfold okAt; infer_instance

def inShape (xs at_ : List Int) : Bool := decide (∀ i, i < xs.length → okAt xs at_ i)

def place (xs at_ : List Int) : Option Int :=
  match count xs with
  | none => none
  | some _ => if at_.length = xs.length ∧ inShape xs at_ = true then some (sumTo xs at_ xs.length) else none

def pRes : Option Int → Value
  | none => .tuple #[.int .i64 0, .bool false]
  | some n => .tuple #[.int .i64 n, .bool true]

theorem sumTo_bd (xs at_ : List Int) (hf : Fits xs) (k : Nat) (hk : k ≤ xs.length) (hok : ∀ i, xs.length ≤ i + k → i < xs.length → okAt xs at_ i) : 0 ≤ sumTo xs at_ k ∧ sumTo xs at_ k < strd xs k := by
  induction k with
  | zero => rw [strd_zero]; simp [sumTo]
  | succ k ih =>
    obtain ⟨a, b⟩ := ih (by omega) (fun i h1 h2 => hok i (by omega) h2)
    obtain ⟨c, d⟩ := hok (xs.length - 1 - k) (by omega) (by omega)
    have e := strd_bd xs hf k (by omega)
    rw [sumTo, strd_succ xs k (by omega)]
    generalize strd xs k = s at *
    generalize at_[xs.length - 1 - k]?.getD 0 = y at *
    generalize xs[xs.length - 1 - k]?.getD 0 = x at *
    have h1 : 0 ≤ s * y := Int.mul_nonneg e.1 c
    have h2 : s * y ≤ s * (x - 1) := Int.mul_le_mul_of_nonneg_left (by omega) e.1
    rw [Int.mul_sub, Int.mul_one] at h2
    omega

theorem fits_of_fold (xs : List Int) (m n : Int) (h : countFold xs m = some n) : ∀ i, i < xs.length → 0 ≤ xs[i]?.getD 0 ∧ xs[i]?.getD 0 ≤ 4096 := by
  induction xs generalizing m with
  | nil => intro i hi; simp at hi
  | cons x r ih =>
    by_cases hb : x < 0 ∨ x > 4096
    · rw [countFold_bad _ _ _ hb] at h; cases h
    · rw [countFold_ok _ _ _ hb] at h
      intro i hi
      cases i with
      | zero => simp; omega
      | succ i => simpa using ih _ h i (by simpa using hi)

theorem fits_of_count (xs : List Int) (n : Int) (h : count xs = some n) : Fits xs := by
  unfold count at h
  by_cases hl : xs.length > 4
  · simp [hl] at h
  · rw [if_neg hl] at h
    exact ⟨by omega, fits_of_fold xs 1 n h⟩


end Go.Proofs.YthlingdlehdlhaaDoor

namespace Go.Proofs.YthlingdlehdlhaaDoor
open Go.RowKit Go.Shelf
set_option linter.unusedVariables false
attribute [local go_sem] Oper.semAt_some

def atVal (xs : List Int) (n : Int) (i : Nat) : Int := n / strd xs (xs.length - 1 - i) % xs[i]?.getD 0
def atList (xs : List Int) (n : Int) : List Int := (List.range xs.length).map (atVal xs n)
/-- What stands when k rounds are over. -/
def atRow (xs : List Int) (n : Int) (k : Nat) : List Int := (List.range xs.length).map fun i => if xs.length ≤ i + k then atVal xs n i else 0

theorem atRow_all (xs : List Int) (n : Int) : atRow xs n xs.length = atList xs n := by simp [atRow, atList]
theorem atRow_length (xs : List Int) (n : Int) (k : Nat) : (atRow xs n k).length = xs.length := by simp [atRow]
theorem atRow_zero (xs : List Int) (n : Int) : atRow xs n 0 = List.replicate xs.length 0 := by
  apply List.ext_getElem
  · simp [atRow]
  · intro i h1 h2
    simp [atRow] at h1 ⊢
    omega
theorem atRow_succ (xs : List Int) (n : Int) (k : Nat) (h : k < xs.length) : atRow xs n (k + 1) = (atRow xs n k).set (xs.length - 1 - k) (atVal xs n (xs.length - 1 - k)) := by
  apply List.ext_getElem
  · simp [atRow]
  · intro i h1 h2
    simp only [atRow, List.length_map, List.length_range] at h1
    rw [List.getElem_set]
    simp only [atRow, List.getElem_map, List.getElem_range]
    by_cases e : xs.length - 1 - k = i
    · subst e; simp; omega
    · rw [if_neg e]
      by_cases h3 : xs.length ≤ i + k
      · rw [if_pos h3, if_pos (by omega)]
      · rw [if_neg h3, if_neg (by omega)]

theorem countFold_prod (xs : List Int) (a m : Int) (h : countFold xs a = some m) : m = a * xs.foldr (· * ·) 1 := by
  induction xs generalizing a with
  | nil => simp only [countFold] at h; split at h <;> simp_all
  | cons x r ih =>
    by_cases hb : x < 0 ∨ x > 4096
    · rw [countFold_bad _ _ _ hb] at h; cases h
    · rw [countFold_ok _ _ _ hb] at h
      rw [ih _ h, List.foldr_cons, Int.mul_assoc]

theorem count_strd (xs : List Int) (m : Int) (h : count xs = some m) : m = strd xs xs.length := by
  unfold count at h
  by_cases hl : xs.length > 4
  · simp [hl] at h
  · rw [if_neg hl] at h
    rw [countFold_prod _ _ _ h]; simp [strd]

theorem strd_pos (xs : List Int) (hf : Fits xs) (h : 1 ≤ strd xs xs.length) (j : Nat) (hj : j ≤ xs.length) : 1 ≤ strd xs (xs.length - j) := by
  induction j with
  | zero => simpa using h
  | succ j ih =>
    have := ih (by omega)
    rw [show xs.length - j = (xs.length - (j + 1)) + 1 from by omega, strd_succ xs _ (by omega)] at this
    have h0 := (strd_bd xs hf (xs.length - (j + 1)) (by omega)).1
    by_cases e : strd xs (xs.length - (j + 1)) = 0
    · rw [e] at this; simp at this
    · omega

theorem entry_pos (xs : List Int) (hf : Fits xs) (h : 1 ≤ strd xs xs.length) (i : Nat) (hi : i < xs.length) : 1 ≤ xs[i]?.getD 0 := by
  have h1 := strd_pos xs hf h i (by omega)
  have e := strd_succ xs (xs.length - 1 - i) (by omega)
  rw [show xs.length - 1 - i + 1 = xs.length - i from by omega, show xs.length - 1 - (xs.length - 1 - i) = i from by omega] at e
  rw [e] at h1
  have h0 := (hf.2 i hi).1
  by_cases e2 : xs[i]?.getD 0 = 0
  · rw [e2] at h1; simp at h1
  · omega

def atRes (xs : List Int) (n : Int) : Option (List Int) :=
  match count xs with
  | none => none
  | some m => if 0 ≤ n ∧ n < m then some (atList xs n) else none

def RetAt (w : World) (xs : List Int) (n : Int) (e : Ending) (w' : World) : Prop :=
  ∃ v, e = .returned (.tuple #[v, .bool (atRes xs n).isSome]) ∧ NewInts w ((atRes xs n).getD []) v w'

theorem RetAt.none {w w' : World} {xs : List Int} {n : Int} (h : atRes xs n = none) (hB : Below w.heap.size w w') : RetAt w xs n (.returned (.tuple #[.slice none 0 0, .bool false])) w' :=
  ⟨_, by rw [h]; rfl, by rw [h]; exact World.ownsRow_nil _ _ _ _, hB⟩


end Go.Proofs.YthlingdlehdlhaaDoor
