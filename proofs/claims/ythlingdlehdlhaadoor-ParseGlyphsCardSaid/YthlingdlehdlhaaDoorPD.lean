/- parse: whether brackets match, by definition. Plain.
   parse: whether brackets match, walked.
   parse: the name that a text gives a value. -/
import Derived.Test.YthlingdlehdlhaaDoorPB
namespace Go.Proofs.YthlingdlehdlhaaDoor.Par
open Go.RowKit Go.Shelf
set_option linter.unusedVariables false
set_option linter.unusedSimpArgs false

/-- From the start on: the brackets that are open (the last one stands first), and how many stand within one another. -/
def matchF : List Int → Nat → List Tok → Option (List Int × Nat)
  | st, d, [] => some (st, d)
  | st, d, t :: r =>
    if brk t < 0 then matchF st d r
    else if isOpen t = true then matchF (brk t :: st) (max d (st.length + 1)) r
    else if st.head? = some (brk t) then matchF st.tail d r else none
def matchedF (l : List Tok) : Int × Bool := match matchF [] 0 l with | none => (0, false) | some (st, d) => ((d : Int), st.isEmpty)
theorem matchF_sum : ∀ (l : List Tok) (st : List Int) (d : Nat) (st' : List Int) (d' : Nat), matchF st d l = some (st', d') → S l = (st.length : Int) - st'.length ∧ ∀ k, 0 ≤ S (l.drop k) + st'.length := by
  intro l
  induction l with
  | nil =>
    intro st d st' d' h
    rw [matchF] at h
    injection h with h; injection h with h1 h2; subst h1
    exact ⟨by simp [S], fun k => by simp [S]⟩
  | cons t r ih =>
    intro st d st' d' h
    have hw := brk_wt t
    have key : ∀ (s2 : List Int) (d2 : Nat), matchF s2 d2 r = some (st', d') → (s2.length : Int) + wt t = st.length → S (t :: r) = (st.length : Int) - st'.length ∧ ∀ k, 0 ≤ S ((t :: r).drop k) + st'.length := by
      intro s2 d2 h2 e
      obtain ⟨a1, a2⟩ := ih s2 d2 st' d' h2
      have hz : S (t :: r) = (st.length : Int) - st'.length := by rw [S]; omega
      refine ⟨hz, fun k => ?_⟩
      cases k with
      | zero => rw [List.drop_zero, hz]; omega
      | succ k => rw [List.drop_succ_cons]; exact a2 k
    rw [matchF] at h
    split at h
    · rename_i hc
      rw [if_neg (by omega)] at hw
      exact key _ _ h (by omega)
    · rename_i hc
      rw [if_pos (by omega)] at hw
      split at h
      · rename_i ho
        rw [if_pos ho] at hw
        exact key _ _ h (by rw [List.length_cons]; omega)
      · rename_i ho
        rw [if_neg ho] at hw
        split at h
        · rename_i hh
          obtain ⟨st2, rfl⟩ := List.head?_eq_some_iff.1 hh
          exact key _ _ h (by rw [List.tail_cons, List.length_cons]; omega)
        · cases h
/-- Brackets that match sum up. -/
theorem match_dyck {l : List Tok} {d : Int} (h : matchedF l = (d, true)) : Dyck l := by
  unfold matchedF at h
  split at h
  · cases h
  · rename_i st d' he
    have hst : st = [] := by
      have := congrArg Prod.snd h
      simpa using this
    subst hst
    obtain ⟨h1, h2⟩ := matchF_sum l [] 0 [] d' he
    refine ⟨by simpa using h1, fun k => ?_⟩
    have := h2 k; simpa using this
theorem matchF_append : ∀ (a b : List Tok) (st : List Int) (d : Nat), matchF st d (a ++ b) = (matchF st d a).bind fun p => matchF p.1 p.2 b := by
  intro a
  induction a with
  | nil => intro b st d; rfl
  | cons t r ih =>
    intro b st d
    rw [List.cons_append, matchF, matchF]
    split
    · exact ih _ _ _
    · split
      · exact ih _ _ _
      · split
        · exact ih _ _ _
        · rfl
theorem matchF_deep : ∀ (l : List Tok) (st : List Int) (d : Nat) (st' : List Int) (d' : Nat), matchF st d l = some (st', d') → d ≤ d' ∧ (st.length ≤ d → st'.length ≤ d') := by
  intro l
  induction l with
  | nil =>
    intro st d st' d' h
    rw [matchF] at h
    injection h with h; injection h with h1 h2; subst h1 h2
    exact ⟨Nat.le_refl _, id⟩
  | cons t r ih =>
    intro st d st' d' h
    rw [matchF] at h
    split at h
    · exact ih _ _ _ _ h
    · split at h
      · obtain ⟨h1, h2⟩ := ih _ _ _ _ h
        exact ⟨by omega, fun _ => h2 (by rw [List.length_cons]; omega)⟩
      · split at h
        · obtain ⟨h1, h2⟩ := ih _ _ _ _ h
          exact ⟨h1, fun hd => h2 (by rw [List.length_tail]; omega)⟩
        · cases h
end Go.Proofs.YthlingdlehdlhaaDoor.Par

namespace Go.Proofs.YthlingdlehdlhaaDoor.Par
open Go.RowKit Go.Shelf
set_option linter.unusedVariables false
set_option linter.unusedSimpArgs false

theorem owns_cut {w : World} {base : Nat} {T : TypeId} {a : Option Addr} {n c : Nat} {xs : List Value} (h : w.ownsRow base T 1 (.slice a n c) n xs) {m : Nat} (hm : m ≤ n) : w.ownsRow base T 1 (.slice a m c) m (xs.take m) := by
  obtain ⟨h1, ⟨h2, h3⟩ | ⟨g, cap, cur, e, h4, h5, h6, h7, h8, h9⟩⟩ := h
  · simp only [Value.slice.injEq] at h2
    obtain ⟨rfl, -, rfl⟩ := h2
    have hz : m = 0 := by omega
    subst hz
    exact ⟨by simp, .inl ⟨rfl, rfl⟩⟩
  · simp only [Value.slice.injEq, true_and] at e
    obtain ⟨rfl, rfl⟩ := e
    refine ⟨by rw [List.length_take, h1]; omega, .inr ⟨g, c, cur, rfl, h4, h5, by omega, h7, h8, ?_⟩⟩
    rw [← h9, List.take_take, Nat.mul_one, Nat.mul_one, Nat.min_eq_left hm]
theorem own_grow {w A C : World} {base : Nat} {T : TypeId} {n : Nat} {v : Value} {xs : List Value} (h : Below base w A) (ho : A.ownsRow base T 1 v n xs) (hg : A.grownBy C v.ownBlock) (hb : base ≤ A.heap.size) : Below base w C :=
  ⟨hg.os.trans h.os, hg.tape.trans h.tape, hg.output.trans h.output, Nat.le_trans h.size hg.size, fun k hk => (hg.block k (by omega) (fun e => by have := (ho.lt k e.symm).1; omega)).trans (h.block k hk)⟩
end Go.Proofs.YthlingdlehdlhaaDoor.Par

namespace Go.Proofs.YthlingdlehdlhaaDoor.Par
open Go.RowKit Go.Shelf
set_option linter.unusedVariables false
set_option linter.unusedSimpArgs false

theorem seg_drop2 (l : List Tok) : seg l (2, l.length) = l.drop 2 := by unfold seg; rw [List.take_length]
/-- What 'set' answers. -/
def SetA (w : World) (l : List Tok) (v : Value) : Prop :=
  (∃ s r rv, setF l = some (s, r) ∧ v = .tuple #[.string (bs s), rv] ∧ IsToks w rv r) ∨ (setF l = none ∧ ∃ a n c, v = .tuple #[.string (bs []), .slice a n c])
end Go.Proofs.YthlingdlehdlhaaDoor.Par
