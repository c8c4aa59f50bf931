/- parse: parentheses about a whole, and about a right argument. Plain. -/
import Derived.Test.YthlingdlehdlhaaGreatDoorPC
namespace Go.Proofs.YthlingdlehdlhaaGreatDoor.Par
open Go.RowKit Go.Shelf
set_option linter.unusedVariables false
set_option linter.unusedSimpArgs false

theorem drop_app (f r : List Tok) (j : Nat) : (f ++ r).drop (f.length + j) = r.drop j := by rw [← List.drop_drop, List.drop_left]
theorem Dyck.app {f r : List Tok} (hf : Dyck f) (hr : Dyck r) : Dyck (f ++ r) := by
  refine ⟨by rw [S_append, hf.1, hr.1]; rfl, fun k => ?_⟩
  rcases Nat.lt_or_ge k f.length with h | h
  · rw [List.drop_append_of_le_length (by omega), S_append, hr.1]; have := hf.2 k; omega
  · obtain ⟨j, rfl⟩ : ∃ j, k = f.length + j := ⟨k - f.length, by omega⟩
    rw [drop_app]; exact hr.2 j
/-- A text between two brackets. -/
def encl (a b : Tok) (l : List Tok) : List Tok := a :: l ++ [b]
theorem encl_len (a b : Tok) (l : List Tok) : (encl a b l).length = l.length + 2 := by simp [encl]
theorem encl_S {a b : Tok} (hb : wt b = 1) (l : List Tok) (j : Nat) (h : j ≤ l.length) : S ((encl a b l).drop (j + 1)) = S (l.drop j) + 1 := by
  unfold encl
  rw [List.cons_append, List.drop_succ_cons, List.drop_append_of_le_length h, S_append, S, S, hb]; omega
theorem encl_S0 {a b : Tok} (ha : wt a = -1) (hb : wt b = 1) {l : List Tok} (hl : Dyck l) : S (encl a b l) = 0 := by
  have := encl_S (a := a) hb l 0 (Nat.zero_le _)
  rw [List.drop_zero, hl.1] at this
  unfold encl at this ⊢
  rw [List.cons_append] at this ⊢
  rw [List.drop_succ_cons, List.drop_zero] at this
  rw [S, this, ha]; rfl
theorem encl_dyck {a b : Tok} (ha : wt a = -1) (hb : wt b = 1) {l : List Tok} (hl : Dyck l) : Dyck (encl a b l) := by
  refine ⟨encl_S0 ha hb hl, fun k => ?_⟩
  rcases k with _ | k
  · rw [List.drop_zero, encl_S0 ha hb hl]; omega
  · rcases Nat.lt_or_ge l.length k with h | h
    · rw [List.drop_eq_nil_of_le (by rw [encl_len]; omega)]; simp [S]
    · rw [encl_S hb l k h]; have := hl.2 k; omega
end Go.Proofs.YthlingdlehdlhaaGreatDoor.Par
