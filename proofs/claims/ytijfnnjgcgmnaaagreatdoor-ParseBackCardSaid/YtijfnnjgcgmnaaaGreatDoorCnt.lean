/- array.Count and the reference's Count, for every slice of ints.
   New lists of ints.
   The reference's Count and Shapes, for every slice of ints.
   strides: the axes with their strides, the last one first.
   array.Place: the number of a place.
   array.At: the place of a number. -/
import Derived.Test.YtijfnnjgcgmnaaaGreatDoorProg
import Derived.Test.YtijfnnjgcgmnaaaGreatDoorBase
import Derived.WalkKit
import Derived.Deep.QuietTactic
import Derived.BigQuiet
namespace Go.Proofs.YtijfnnjgcgmnaaaGreatDoor
open Go.RowKit
set_option linter.unusedVariables false

def countFold (xs : List Int) (n : Int) : Option Int :=
  match xs with
  | [] => if n > 4096 then none else some n
  | l :: r => if l < 0 ∨ l > 4096 then none else countFold r (n * l)

def count (xs : List Int) : Option Int := if xs.length > 4 then none else countFold xs 1

def cRes : Option Int → Value
  | none => .tuple #[.int .i64 0, .int .i64 110]
  | some n => .tuple #[.int .i64 n, .int .i64 0]

theorem countFold_bad (l : Int) (r : List Int) (n : Int) (h : l < 0 ∨ l > 4096) : countFold (l :: r) n = none := by simp [countFold, h]
theorem countFold_ok (l : Int) (r : List Int) (n : Int) (h : ¬ (l < 0 ∨ l > 4096)) : countFold (l :: r) n = countFold r (n * l) := by
  rw [countFold, if_neg h]

theorem drop_cons (xs : List Int) (k : Nat) (h : k < xs.length) : xs.drop k = xs[k]?.getD 0 :: xs.drop (k + 1) := by
  rw [List.drop_eq_getElem_cons h]; simp [h]

theorem mul_step (n l : Int) (k : Nat) (h0 : 0 ≤ n) (h1 : n ≤ 4096 ^ k) (hl0 : 0 ≤ l) (hl1 : l ≤ 4096) : 0 ≤ n * l ∧ n * l ≤ 4096 ^ (k + 1) := by
  refine ⟨Int.mul_nonneg h0 hl0, ?_⟩
  have : n * l ≤ 4096 ^ k * 4096 := Int.mul_le_mul h1 hl1 hl0 (by exact Int.le_trans h0 h1)
  simpa [Int.pow_succ] using this

theorem pow_le4 (k : Nat) (h : k ≤ 4) : (4096 : Int) ^ k ≤ 281474976710656 := by
  have : k = 0 ∨ k = 1 ∨ k = 2 ∨ k = 3 ∨ k = 4 := by omega
  rcases this with rfl | rfl | rfl | rfl | rfl <;> decide

set_option maxHeartbeats 400000 in
theorem count_any (v : Value) (xs : List Int) (w : World) (hx : Ints w v xs) :
    Calls Tryz.prog 148 #[v] w fun e w' => e = .returned (cRes (count xs)) ∧ w = w' := by
  obtain ⟨a, cap, rfl, h1, h2, h3, hc⟩ := hx.parts
  by_cases hlen : xs.length ≤ 4
  · have hcnt : count xs = countFold xs 1 := by simp [count]; omega
    rw [hcnt]
    clear hcnt hx
    go_enter Tryz.func148, Tryz.ntmps148
    go_wp2
    go_loop [4, 12] (fun n i => ∃ (k : Nat) (m : Int), k ≤ xs.length ∧ i = .int .i64 k ∧ n = .int .i64 m ∧ 0 ≤ m ∧ m ≤ 4096 ^ k ∧ countFold (xs.drop k) m = countFold xs 1) (fun _ i => xs.length - (intOf i).toNat)
    case atStart => exact ⟨0, 1, by omega, rfl, rfl, by omega, by decide, by simp⟩
    case round =>
      obtain ⟨k, m, hk, rfl, rfl, hm0, hm1, hf⟩ := hrel
      by_cases hlt : k < xs.length
      · rcases hc with rfl | ⟨b, o, rfl, hc⟩
        · simp at hlt
        have hcell := hc k hlt
        rw [drop_cons xs k hlt] at hf
        generalize xs[k]?.getD 0 = l at hcell hf
        have hp := pow_le4 k (by omega)
        have hp' := pow_le4 (k + 1) (by omega)
        by_cases hbad : l < 0 ∨ l > 4096
        · rw [countFold_bad _ _ _ hbad] at hf
          have H := hid hf
          clear hf hc
          rcases hbad with hb | hb
          · go_wp2
            go_ret2
            exact ⟨by rw [← H.out]; rfl, rfl⟩
          · have hnn : ¬ l < 0 := by omega
            go_wp2
            go_ret2
            exact ⟨by rw [← H.out]; rfl, rfl⟩
        · have hs := mul_step m l k hm0 hm1 (by omega) (by omega)
          rw [countFold_ok _ _ _ hbad] at hf
          have H := hid hf
          have hl0 : ¬ l < 0 := by omega
          have hl1 : ¬ 4096 < l := by omega
          have hw : IntKind.i64.wrap (m * l) = m * l := IntWalk.i64_in _ (by omega)
          clear hf hc hbad
          go_wp2
          go_round
          case rel => exact ⟨k + 1, m * l, by omega, by go_num, rfl, hs.1, hs.2, H.out⟩
          case measure => simp [intOf]; omega
      · obtain rfl : k = xs.length := by omega
        rw [List.drop_length] at hf
        have hp := pow_le4 xs.length (by omega)
        by_cases hbig : 4096 < m
        · have e : countFold xs 1 = none := by rw [← hf]; simp [countFold]; omega
          have H := hid e
          clear hf e hc
          go_wp2
          go_ret2
          exact ⟨by rw [H.out]; rfl, rfl⟩
        · have e : countFold xs 1 = some m := by rw [← hf]; simp [countFold]; omega
          have H := hid e
          clear hf e hc
          go_wp2
          go_ret2
          exact ⟨by rw [H.out]; rfl, rfl⟩
  · have hcnt : count xs = none := by simp [count]; omega
    rw [hcnt]
    clear hcnt hx hc
    go_enter Tryz.func148, Tryz.ntmps148
    go_wp2
    go_ret2
    exact ⟨rfl, rfl⟩

end Go.Proofs.YtijfnnjgcgmnaaaGreatDoor

namespace Go.Proofs.YtijfnnjgcgmnaaaGreatDoor
open Go.RowKit
set_option linter.unusedVariables false

end Go.Proofs.YtijfnnjgcgmnaaaGreatDoor

namespace Go.Proofs.YtijfnnjgcgmnaaaGreatDoor
open Go.RowKit
set_option linter.unusedVariables false

theorem take_succ_getD (xs : List Int) (k : Nat) (h : k < xs.length) : xs.take (k + 1) = xs.take k ++ [xs[k]?.getD 0] := by
  rw [List.take_succ_eq_append_getElem h]; simp [h]

end Go.Proofs.YtijfnnjgcgmnaaaGreatDoor

namespace Go.Proofs.YtijfnnjgcgmnaaaGreatDoor
open Go.RowKit Go.Shelf
set_option linter.unusedVariables false
attribute [local go_sem] Oper.semAt_some

/-- Numbers that may stand in a shape. -/
def Fits (xs : List Int) : Prop := xs.length ≤ 4 ∧ ∀ i, i < xs.length → 0 ≤ xs[i]?.getD 0 ∧ xs[i]?.getD 0 ≤ 4096

end Go.Proofs.YtijfnnjgcgmnaaaGreatDoor

namespace Go.Proofs.YtijfnnjgcgmnaaaGreatDoor
open Go.RowKit Go.Shelf
set_option linter.unusedVariables false
attribute [local go_sem] Oper.semAt_some

/-- Number i of a place lies in its axis. -/
def okAt (xs at_ : List Int) (i : Nat) : Prop := 0 ≤ at_[i]?.getD 0 ∧ at_[i]?.getD 0 < xs[i]?.getD 0

instance (xs at_ : List Int) (i : Nat) : Decidable (okAt xs at_ i) := by unfold okAt; infer_instance

theorem fits_of_fold (xs : List Int) (m n : Int) (h : countFold xs m = some n) : ∀ i, i < xs.length → 0 ≤ xs[i]?.getD 0 ∧ xs[i]?.getD 0 ≤ 4096 := by
  induction xs generalizing m with
  | nil => intro i hi; simp at hi
  | cons x r ih =>
    by_cases hb : x < 0 ∨ x > 4096
    · rw [countFold_bad _ _ _ hb] at h; cases h
    · rw [countFold_ok _ _ _ hb] at h
      intro i hi
      cases i with
      | zero => simp; omega
      | succ i => simpa using ih _ h i (by simpa using hi)

theorem fits_of_count (xs : List Int) (n : Int) (h : count xs = some n) : Fits xs := by
  unfold count at h
  by_cases hl : xs.length > 4
  · simp [hl] at h
  · rw [if_neg hl] at h
    exact ⟨by omega, fits_of_fold xs 1 n h⟩

end Go.Proofs.YtijfnnjgcgmnaaaGreatDoor

namespace Go.Proofs.YtijfnnjgcgmnaaaGreatDoor
open Go.RowKit Go.Shelf
set_option linter.unusedVariables false
attribute [local go_sem] Oper.semAt_some

end Go.Proofs.YtijfnnjgcgmnaaaGreatDoor
