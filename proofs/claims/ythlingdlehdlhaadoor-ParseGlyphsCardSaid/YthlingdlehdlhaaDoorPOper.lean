/- parse: operands, walked. -/
import Derived.Test.YthlingdlehdlhaaDoorPC
import Derived.Deep.Cut
namespace Go.Proofs.YthlingdlehdlhaaDoor.Par
open Go.RowKit Go.Shelf
set_option linter.unusedVariables false
set_option linter.unusedSimpArgs false

theorem noEx_fresh (base : Nat → Prop) (w : World) : Fresh base w (IsE · (.agg #[.int .i64 0, .string ⟨#[]⟩, .int .i64 0, .slice none 0 0, .slice none 0 0, .int .i64 0, .int .i64 0, .int .i64 0, .string ⟨#[]⟩, .slice none 0 0, .slice none 0 0]) noEx) :=
  Fresh.mkEx (x := noEx) (Fresh.ints0 _ _) (Fresh.ints0 _ _) (fun i hi => by simp [noEx, noArr] at hi) (Fresh.nil _ _) (Fresh.nil _ _)
theorem op_none {F : List (List UInt8)} {n : Nat} {ins : Bool} {l : List Tok} (h : endsF F l = false) : operandF F n ins l = none := by
  cases n with
  | zero => rw [operandF]
  | succ n =>
    rw [operandF]
    cases ht : l.getLast? with
    | none => rfl
    | some t =>
      have he : endsT F t = false := by unfold endsF at h; rw [ht] at h; exact h
      unfold endsT at he
      simp only [Bool.or_eq_false_iff, Bool.and_eq_false_iff, decide_eq_false_iff_not, Bool.not_eq_false'] at he
      obtain ⟨⟨⟨⟨⟨h1, h2⟩, h3⟩, h4⟩, h5⟩, h6⟩ := he
      simp only [if_neg h1, h3, h4, h5, h6, Bool.false_eq_true, if_false, and_false]
      by_cases k2 : t.kind = 2
      · rcases h2 with h2 | h2
        · exact absurd k2 h2
        · rw [if_pos k2, if_pos h2]
      · rw [if_neg k2]
theorem ends_some {F : List (List UInt8)} {l : List Tok} (h : endsF F l = true) : ∃ t, l.getLast? = some t := by
  unfold endsF at h
  split at h
  · cases h
  · exact ⟨_, by assumption⟩
theorem heap_drew (w : World) (k : Nat) : w.drew.heap[k]? = w.heap[k]? := rfl
end Go.Proofs.YthlingdlehdlhaaDoor.Par
