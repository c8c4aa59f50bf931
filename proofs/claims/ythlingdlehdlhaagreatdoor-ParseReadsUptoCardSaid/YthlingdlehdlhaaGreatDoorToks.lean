/- lex's reader: what reads the next token; the tokens, one by one.
   Lists of tokens in memory. -/
import Derived.Test.YthlingdlehdlhaaGreatDoorRdr
import Derived.Test.YthlingdlehdlhaaGreatDoorBase
import Derived.Test.YthlingdlehdlhaaGreatDoorRd
import Derived.Test.YthlingdlehdlhaaGreatDoorRTk
namespace Go.Proofs.YthlingdlehdlhaaGreatDoor
open Go.RowKit Go.Shelf
open Go.Lib (trimLeftB)
set_option linter.unusedVariables false
set_option linter.unusedSimpArgs false

/-- Where the reading stands when k tokens have been told. -/
def RState (T : List Tok × Bool × Bool) (k : Nat) (l : List UInt8) (bad much : Bool) : Prop :=
  (bad = false ∧ ∃ fuel, l.length < fuel ∧ T.1.drop k = (toksFrom fuel l).1 ∧ T.2.1 = (toksFrom fuel l).2.1 ∧ T.2.2 = (much || (toksFrom fuel l).2.2)) ∨
  (bad = true ∧ T.1.length = k ∧ T.2 = (true, much))

theorem RState.trim {T : List Tok × Bool × Bool} {k : Nat} {l : List UInt8} {bad much : Bool} (h : RState T k l bad much) : RState T k (Lib.trimLeftB l 32) bad much := by
  rcases h with ⟨h0, f, h1, h2, h3, h4⟩ | h
  · exact .inl ⟨h0, f, by have := trimLeft_len l 32; omega, by rw [toksFrom_trim]; exact h2, by rw [toksFrom_trim]; exact h3, by rw [toksFrom_trim]; exact h4⟩
  · exact .inr h

theorem RState.next {T : List Tok × Bool × Bool} {k : Nat} {c : UInt8} {r : List UInt8} {much : Bool} (h : RState T k (c :: r) false much) (ht : Lib.trimLeftB (c :: r) 32 = c :: r) :
    k < T.1.length ∧ T.1[k]? = some (readTok (c :: r)).1 ∧ RState T (k + 1) (readTok (c :: r)).2.1 (readTok (c :: r)).2.2 (much || decide (4096 < (readTok (c :: r)).1.val.elems.length)) := by
  rcases h with ⟨_, f, h1, h2, h3, h4⟩ | ⟨h, _⟩
  · obtain ⟨f, rfl⟩ : ∃ g, f = g + 1 := ⟨f - 1, by omega⟩
    have hlt := readTok_lt (c := c) (r := r)
    rw [toksFrom, ht, if_neg (by simp)] at h2 h3 h4
    cases hb : (readTok (c :: r)).2.2 with
    | true =>
      rw [if_pos hb] at h2 h3 h4
      have hk : T.1[k]? = some (readTok (c :: r)).1 := by
        have := congrArg (fun l => l[0]?) h2
        simpa using this
      have hlen : T.1.length = k + 1 := by
        have := congrArg List.length h2
        simp at this; omega
      exact ⟨by omega, hk, .inr ⟨rfl, hlen, by rw [show T.2 = (T.2.1, T.2.2) from rfl, h3, h4]⟩⟩
    | false =>
      rw [if_neg (by rw [hb]; simp)] at h2 h3 h4
      have hk : T.1[k]? = some (readTok (c :: r)).1 := by
        have := congrArg (fun l => l[0]?) h2
        simpa using this
      have hk' := (List.getElem?_eq_some_iff.1 hk).1
      refine ⟨hk', hk, .inl ⟨rfl, f, by omega, ?_, h3, by rw [h4, Bool.or_assoc]⟩⟩
      have := congrArg List.tail h2
      simpa using this
  · cases h

theorem RState.ends {T : List Tok × Bool × Bool} {k : Nat} {bad much : Bool} {l : List UInt8} (h : RState T k l bad much) (he : l = [] ∨ bad = true) (hk : k ≤ T.1.length) : T.1.length = k ∧ T.2 = (bad, much) := by
  rcases h with ⟨rfl, f, h1, h2, h3, h4⟩ | ⟨rfl, h⟩
  · rcases he with rfl | h
    · obtain ⟨f, rfl⟩ : ∃ g, f = g + 1 := ⟨f - 1, by omega⟩
      rw [toksFrom, show Lib.trimLeftB [] 32 = [] from rfl, if_pos rfl] at h2 h3 h4
      have := congrArg List.length h2
      simp at this
      exact ⟨by omega, by rw [show T.2 = (T.2.1, T.2.2) from rfl, h3, h4, Bool.or_false]⟩
    · cases h
  · exact h

theorem RState.start (l : List UInt8) : RState (toksFrom (l.length + 1) l) 0 l false false := .inl ⟨rfl, l.length + 1, by omega, rfl, rfl, rfl⟩

end Go.Proofs.YthlingdlehdlhaaGreatDoor

namespace Go.Proofs.YthlingdlehdlhaaGreatDoor
open Go.RowKit Go.Shelf
set_option linter.unusedVariables false
set_option linter.unusedSimpArgs false
attribute [local go_sem] Oper.semAt_some

/-- Tokens of a call's own, by their cells. -/
def ToksOwn (w : World) (base : Nat) : List (List Value) → List Tok → Prop
  | [], [] => True
  | u :: us, t :: ts => TokOwn w base (.agg u.toArray) t ∧ ToksOwn w base us ts
  | _, _ => False
theorem ToksOwn.snoc {w : World} {base : Nat} {us : List (List Value)} {ts : List Tok} {u : List Value} {t : Tok} (h : ToksOwn w base us ts) (hu : TokOwn w base (.agg u.toArray) t) : ToksOwn w base (us ++ [u]) (ts ++ [t]) := by
  induction us generalizing ts with
  | nil => cases ts with
    | nil => exact ⟨hu, trivial⟩
    | cons => exact h.elim
  | cons x us ih => cases ts with
    | nil => exact h.elim
    | cons y ts => exact ⟨h.1, ih h.2⟩
theorem ToksOwn.map {w w' : World} {base base' : Nat} {us : List (List Value)} {ts : List Tok} (h : ToksOwn w base us ts) (hm : ∀ v t, TokOwn w base v t → TokOwn w' base' v t) : ToksOwn w' base' us ts := by
  induction us generalizing ts with
  | nil => cases ts with
    | nil => trivial
    | cons => exact h.elim
  | cons x us ih => cases ts with
    | nil => exact h.elim
    | cons y ts => exact ⟨hm _ _ h.1, ih h.2⟩
theorem tok_five {w : World} {base : Nat} {u : List Value} {t : Tok} (h : TokOwn w base (.agg u.toArray) t) : u.length = 5 := by
  obtain ⟨vs, ve, e, -⟩ := h
  have : u.toArray = #[.int .i64 t.kind, .string (bs t.txt), .int .i64 t.val.kind, vs, ve] := by simpa using e
  have := congrArg Array.size this
  simpa using this
theorem ToksOwn.at {w : World} {base : Nat} {us : List (List Value)} {ts : List Tok} (h : ToksOwn w base us ts) (i : Nat) (hi : i < ts.length) : ∃ u, us[i]? = some u ∧ TokOwn w base (.agg u.toArray) ts[i] ∧ (us.flatten.drop (i * 5)).take 5 = u := by
  induction us generalizing ts i with
  | nil => cases ts with
    | nil => simp at hi
    | cons => exact h.elim
  | cons x us ih => cases ts with
    | nil => exact h.elim
    | cons y ts =>
      have h5 := tok_five h.1
      cases i with
      | zero => exact ⟨x, rfl, h.1, by simp [← h5]⟩
      | succ i =>
        obtain ⟨u, e, hu, hd⟩ := ih h.2 i (by simpa using hi)
        refine ⟨u, by simpa using e, by simpa using hu, ?_⟩
        rw [List.flatten_cons, show (i + 1) * 5 = x.length + i * 5 from by omega, ← List.drop_drop, List.drop_left]
        exact hd

theorem owns_apart {A B : World} {row : Option Nat} {base e size : Nat} {v : Value} {n : Nat} {xs : List Value} (h : A.ownsRow base e size v n xs) (hg : A.grownBy B row)
    (hr : ∀ r, row = some r → ∃ cur t fr, A.heap[r]? = some (.cells cur t fr) ∧ t ≠ e) : B.ownsRow base e size v n xs := by
  refine h.kept hg ?_
  obtain ⟨_, ⟨rfl, _⟩ | ⟨g, cap, cur, rfl, _, hh, _⟩⟩ := h
  · exact .inl rfl
  · refine .inr (fun e' => ?_)
    obtain ⟨c, t, fr, ho, hc⟩ := hr g (by rw [← e']; rfl)
    rw [hh] at ho; cases ho; exact hc rfl
theorem TokOwn.apart {A B : World} {base base' size n : Nat} {v v' : Value} {xs : List Value} {t : Tok} (h : TokOwn A base v t) (hg : A.grownBy B v'.ownBlock) (ho : A.ownsRow base' 48 size v' n xs) : TokOwn B base v t := by
  have hr : ∀ e, e ≠ 48 → ∀ r, v'.ownBlock = some r → ∃ cur t fr, A.heap[r]? = some (.cells cur t fr) ∧ t ≠ e := by
    intro e he r hr
    obtain ⟨_, ⟨rfl, _⟩ | ⟨g, cap, cur, rfl, _, hh, _⟩⟩ := ho
    · cases hr
    · cases hr; exact ⟨_, _, _, hh, Ne.symm he⟩
  obtain ⟨vs, ve, e, h1, h2, h3⟩ := h
  exact ⟨vs, ve, e, owns_apart h1 hg (hr _ (by decide)), owns_apart h2 hg (hr _ (by decide)), h3⟩

theorem row_new (w : World) (xs : List Value) (t : TypeId) : ∀ (j : Nat) (u : Value), xs[j]? = some u → (w.alloc (.cells xs.toArray t)).cell? ((⟨w.heap.size, 0, none⟩ : Addr).add j) = some u := by
  intro j u hj
  rw [Addr.add_lit, World.cell?, heap_alloc_new w (.cells xs.toArray t)]
  simp only [Nat.zero_add, List.getElem?_toArray, hj]
  rfl
theorem toks_len (f : Nat) (l : List UInt8) : (toksFrom f l).1.length ≤ f := by
  induction f generalizing l with
  | zero => simp [toksFrom]
  | succ f ih =>
    rw [toksFrom]
    split
    · simp
    · simp only
      split
      · simp
      · have := ih (readTok (Lib.trimLeftB l 32)).2.1
        simp only [List.length_cons]; omega

end Go.Proofs.YthlingdlehdlhaaGreatDoor
