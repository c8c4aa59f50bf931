/- array.Count and the reference's Count, for every slice of ints.
   New lists of ints.
   The reference's Count and Shapes, for every slice of ints.
   strides: the axes with their strides, the last one first.
   array.Place: the number of a place.
   array.At: the place of a number. -/
import Derived.Test.YthlingdlehdlhaaGreatDoorProg
import Derived.Test.YthlingdlehdlhaaGreatDoorBase
import Derived.WalkKit
import Derived.Deep.QuietTactic
import Derived.BigQuiet
namespace Go.Proofs.YthlingdlehdlhaaGreatDoor
open Go.RowKit
set_option linter.unusedVariables false

def countFold (xs : List Int) (n : Int) : Option Int :=
  match xs with
  | [] => if n > 4096 then none else some n
  | l :: r => if l < 0 ∨ l > 4096 then none else countFold r (n * l)

def count (xs : List Int) : Option Int := if xs.length > 4 then none else countFold xs 1

end Go.Proofs.YthlingdlehdlhaaGreatDoor

namespace Go.Proofs.YthlingdlehdlhaaGreatDoor
open Go.RowKit
set_option linter.unusedVariables false

end Go.Proofs.YthlingdlehdlhaaGreatDoor

namespace Go.Proofs.YthlingdlehdlhaaGreatDoor
open Go.RowKit
set_option linter.unusedVariables false

theorem take_succ_getD (xs : List Int) (k : Nat) (h : k < xs.length) : xs.take (k + 1) = xs.take k ++ [xs[k]?.getD 0] := by
  rw [List.take_succ_eq_append_getElem h]; simp [h]

set_option maxHeartbeats 400000 in
theorem rshapes_any (va vb : Value) (xs ys : List Int) (w : World) (hx : Ints w va xs) (hy : Ints w vb ys) :
    Calls Tryz.prog 94 #[va, vb] w fun e w' => e = .returned (.bool (decide (xs = ys))) ∧ Quiet w w' := by
  obtain ⟨a, cap, rfl, h1, h2, h3, hc⟩ := hx.parts
  obtain ⟨a', cap', rfl, h1', h2', h3', hc'⟩ := hy.parts
  clear hx hy
  by_cases hlen : xs.length = ys.length
  · have hb : ((xs.length : Int) != (ys.length : Int)) = false := by simp [hlen]
    have hlen' : ¬ xs.length < ys.length := by omega
    have hlen2 : ¬ ys.length < xs.length := by omega
    clear hlen
    go_enter Tryz.func94, Tryz.ntmps94
    go_wp2
    go_loopw [5] (fun i wr => ∃ k : Nat, k ≤ xs.length ∧ i = .int .i64 k ∧ xs.take k = ys.take k ∧ Quiet w wr) (fun i _ => xs.length - (intOf i).toNat)
    case atStart => exact ⟨0, by omega, rfl, by simp, Quiet.refl _⟩
    case round =>
      obtain ⟨k, hk, rfl, ht, ⟨nq0, rfl⟩⟩ := hrel
      by_cases hlt : k < xs.length
      · rcases hc with rfl | ⟨b, o, rfl, hc⟩
        · simp at hlt
        rcases hc' with rfl | ⟨b', o', rfl, hc'⟩
        · simp only [List.length_nil] at hlen2; omega
        have hcell := hc k hlt
        have hcell' := hc' k (by omega)
        have t1 := take_succ_getD xs k hlt
        have t2 := take_succ_getD ys k (by omega)
        generalize xs[k]?.getD 0 = l at hcell t1
        generalize ys[k]?.getD 0 = l' at hcell' t2
        have hki : (k : Int) < (xs.length : Int) := by omega
        have hki' : (k : Int) < (ys.length : Int) := by omega
        by_cases he : l = l'
        · have hb2 : (l != l') = false := by simp [he]
          have H : Hid (xs.take (k + 1) = ys.take (k + 1)) := hid (by rw [t1, t2, ht, he])
          clear t1 t2 he ht hc hc'
          go_wp2
          go_quiet (fail)
          go_wp2
          go_roundw
          case rel => exact ⟨k + 1, by omega, by go_num, H.out, ⟨_, rfl⟩⟩
          case measure => simp [intOf]; omega
        · have hb2 : (l != l') = true := by simp [he]
          have H : Hid (xs ≠ ys) := hid (by rintro rfl; exact he (by simpa using t1.symm.trans t2))
          clear t1 t2 he ht hc hc'
          go_wp2
          go_quiet (fail)
          go_wp2
          go_ret
          exact ⟨by rw [decide_eq_false H.out]; rfl, (Quiet.mk _ _).trans (Quiet.mk _ _)⟩
      · have H : Hid (xs = ys) := hid (by rw [List.take_of_length_le (by omega), List.take_of_length_le (by omega)] at ht; exact ht)
        clear ht hc hc'
        go_wp2
        go_ret
        exact ⟨by rw [decide_eq_true H.out]; rfl, ⟨_, rfl⟩⟩
  · have hb : ((xs.length : Int) != (ys.length : Int)) = true := by rw [bne_iff_ne]; omega
    have H : Hid (xs ≠ ys) := hid (fun e => hlen (by rw [e]))
    clear hlen hc hc'
    go_enter Tryz.func94, Tryz.ntmps94
    go_wp2
    go_ret
    exact ⟨by rw [decide_eq_false H.out]; rfl, Quiet.refl _⟩

end Go.Proofs.YthlingdlehdlhaaGreatDoor

namespace Go.Proofs.YthlingdlehdlhaaGreatDoor
open Go.RowKit Go.Shelf
set_option linter.unusedVariables false
attribute [local go_sem] Oper.semAt_some

end Go.Proofs.YthlingdlehdlhaaGreatDoor

namespace Go.Proofs.YthlingdlehdlhaaGreatDoor
open Go.RowKit Go.Shelf
set_option linter.unusedVariables false
attribute [local go_sem] Oper.semAt_some

/-- Number i of a place lies in its axis. -/
def okAt (xs at_ : List Int) (i : Nat) : Prop := 0 ≤ at_[i]?.getD 0 ∧ at_[i]?.getD 0 < xs[i]?.getD 0

instance (xs at_ : List Int) (i : Nat) : Decidable (okAt xs at_ i) := by unfold okAt; infer_instance

end Go.Proofs.YthlingdlehdlhaaGreatDoor

namespace Go.Proofs.YthlingdlehdlhaaGreatDoor
open Go.RowKit Go.Shelf
set_option linter.unusedVariables false
attribute [local go_sem] Oper.semAt_some

end Go.Proofs.YthlingdlehdlhaaGreatDoor
