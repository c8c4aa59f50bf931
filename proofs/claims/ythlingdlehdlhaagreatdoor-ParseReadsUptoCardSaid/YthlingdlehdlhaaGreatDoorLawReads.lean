/- LexReads: the walk of the law. -/
import Derived.Test.YthlingdlehdlhaaGreatDoorTokSame
import Derived.Test.YthlingdlehdlhaaGreatDoorRTokens
namespace Go.Proofs.YthlingdlehdlhaaGreatDoor
open Go.RowKit Go.Shelf
set_option linter.unusedVariables false
set_option linter.unusedSimpArgs false

/-- Only numbers of numbers' own blocks, within two bounds, are turned. -/
def Bumped (base lim : Nat) (w wr : World) : Prop :=
  w.heap.size ≤ wr.heap.size ∧ ∀ q, q < w.heap.size → wr.heap[q]? = w.heap[q]? ∨ (base ≤ q ∧ q < lim ∧ ∃ (cs cs' : Array Value) (t : TypeId), t ≠ 48 ∧ w.heap[q]? = some (.cells cs t) ∧ wr.heap[q]? = some (.cells cs' t) ∧ ∀ (i : Nat) (x : Int), cs[i]? = some (Value.int .i64 x) → ∃ y, cs'[i]? = some (Value.int .i64 y))
theorem Bumped.refl (base lim : Nat) (w : World) : Bumped base lim w w := ⟨Nat.le_refl _, fun q _ => .inl rfl⟩
theorem Bumped.tok {base lim : Nat} {w wr : World} (h : Bumped base lim w wr) {q : Nat} {cs : Array Value} (hq : w.heap[q]? = some (.cells cs 48)) : wr.heap[q]? = w.heap[q]? := by
  rcases h.2 q (Array.getElem?_eq_some_iff.1 hq).1 with e | ⟨_, _, cs1, cs2, t, ht, e, _⟩
  · exact e
  · rw [hq] at e; cases e; exact absurd rfl ht
theorem Bumped.far {base lim : Nat} {w wr : World} (h : Bumped base lim w wr) {q : Nat} (h1 : lim ≤ q) (hq : q < w.heap.size) : wr.heap[q]? = w.heap[q]? := by
  rcases h.2 q hq with e | ⟨_, h2, _⟩
  · exact e
  · omega
theorem Bumped.old {base lim : Nat} {w wr : World} (h : Bumped base lim w wr) {q : Nat} (h1 : q < base) (hq : q < w.heap.size) : wr.heap[q]? = w.heap[q]? := by
  rcases h.2 q hq with e | ⟨h2, _⟩
  · exact e
  · omega
theorem Bumped.num {base lim : Nat} {w wr : World} (h : Bumped base lim w wr) {q i : Nat} {cs : Array Value} {t : TypeId} {x : Int} (hq : w.heap[q]? = some (.cells cs t)) (hx : cs[i]? = some (.int .i64 x)) :
    ∃ y, wr.cell? ⟨q, i, none⟩ = some (.int .i64 y) ∧ wr.frozen? ⟨q, i, none⟩ = false := by
  rcases h.2 q (Array.getElem?_eq_some_iff.1 hq).1 with e | ⟨_, _, cs1, cs2, t', _, e1, e2, e3⟩
  · rw [hq] at e
    exact ⟨x, by rw [Lib.cell_of_heap e]; exact hx, Lib.frozen_of_heap e i⟩
  · rw [hq] at e1; cases e1
    obtain ⟨y, hy⟩ := e3 i x hx
    exact ⟨y, by rw [Lib.cell_of_heap e2]; exact hy, Lib.frozen_of_heap e2 i⟩
theorem Bumped.set {base lim : Nat} {w wr : World} (h : Bumped base lim w wr) {q i : Nat} {cs : Array Value} {t : TypeId} (hq : w.heap[q]? = some (.cells cs t)) (ht : t ≠ 48) (h1 : base ≤ q) (h2 : q < lim) (u : Int) :
    Bumped base lim w (wr.setCell ⟨q, i, none⟩ (.int .i64 u)) := by
  refine ⟨by have := h.1; simpa [World.setCell] using this, fun j hj => ?_⟩
  by_cases e : j = q
  · subst e
    right
    obtain ⟨cs', hc, hn⟩ : ∃ cs', wr.heap[j]? = some (.cells cs' t) ∧ ∀ (i : Nat) (x : Int), cs[i]? = some (Value.int .i64 x) → ∃ y, cs'[i]? = some (Value.int .i64 y) := by
      rcases h.2 j hj with e | ⟨_, _, cs1, cs2, t', _, e1, e2, e3⟩
      · exact ⟨cs, e.trans hq, fun i x hx => ⟨x, hx⟩⟩
      · rw [hq] at e1; cases e1; exact ⟨cs2, e2, e3⟩
    refine ⟨h1, h2, cs, cs'.setIfInBounds i (.int .i64 u), t, ht, hq, heap_set1 hc _, fun k x hx => ?_⟩
    obtain ⟨y, hy⟩ := hn k x hx
    by_cases hk : i = k
    · subst hk
      have hlt := (Array.getElem?_eq_some_iff.1 hy).1
      exact ⟨u, by rw [Array.getElem?_setIfInBounds_self_of_lt hlt]⟩
    · exact ⟨y, by rw [Array.getElem?_setIfInBounds_ne hk]; exact hy⟩
  · rcases h.2 j hj with e1 | ⟨a, b, cs1, cs2, t', c1, c2, c3, c4⟩
    · exact .inl ((Below.heap_setCell _ _ _ _ e).trans e1)
    · exact .inr ⟨a, b, cs1, cs2, t', c1, c2, (Below.heap_setCell _ _ _ _ e).trans c3, c4⟩

theorem TokAt.kept {w wr : World} {b o : Nat} {t : Tok} {vs ve : Value} (h : TokAt w b o t vs ve) (e : wr.heap[b]? = w.heap[b]?) : TokAt wr b o t vs ve :=
  ⟨(World.cell?_of_block e).trans h.1, (World.cell?_of_block e).trans h.2.1, (World.cell?_of_block e).trans h.2.2.1, (World.cell?_of_block e).trans h.2.2.2.1, (World.cell?_of_block e).trans h.2.2.2.2⟩

/-- A token of a list of one's own: its cells, and its numbers' blocks. -/
theorem own_tok {w : World} {base : Nat} {v : Value} {us : List (List Value)} {T : List Tok} (h : w.ownsRow base 48 5 v T.length us.flatten) (ht : ToksOwn w base us T) {k : Nat} {t : Tok} (hk : T[k]? = some t) :
    ∃ g vs ve cap cur, v = .slice (some ⟨g, 0, none⟩) T.length cap ∧ w.heap[g]? = some (.cells cur 48) ∧ TokAt w g (k * 5) t vs ve ∧
      w.ownsRow base 3 1 vs t.val.shape.length (t.val.shape.map (.int .i64)) ∧ w.ownsRow base 2 1 ve t.val.elems.length (t.val.elems.map (.int .i64)) := by
  obtain ⟨h1, ⟨rfl, h2⟩ | ⟨g, cap, cur, rfl, h3, h4, h5, h6, h7, h8⟩⟩ := h
  · obtain rfl : T = [] := List.eq_nil_of_length_eq_zero h2
    simp at hk
  · obtain ⟨hk', rfl⟩ := List.getElem?_eq_some_iff.1 hk
    obtain ⟨u, hu1, hu2, hu3⟩ := ht.at k hk'
    have h5' := tok_five hu2
    obtain ⟨vs, ve, hu, o1, o2, o3⟩ := hu2
    have hu' : u = [.int .i64 T[k].kind, .string (bs T[k].txt), .int .i64 T[k].val.kind, vs, ve] := by
      have : u.toArray = #[.int .i64 T[k].kind, .string (bs T[k].txt), .int .i64 T[k].val.kind, vs, ve] := by simpa using hu
      simpa using congrArg Array.toList this
    rw [← h8] at hu3
    have hc : ∀ i, i < 5 → w.cell? ⟨g, k * 5 + i, none⟩ = u[i]? := by
      intro i hi
      have := take_get hu3 hi h5'
      rw [World.cell?, h4]
      simp only
      rw [← Array.getElem?_toList, this]
      cases u[i]? <;> rfl
    refine ⟨g, vs, ve, cap, cur, rfl, h4, ⟨?_, ?_, ?_, ?_, ?_⟩, o1, o2⟩
    · have := hc 0 (by omega); rw [hu'] at this; exact this
    · have := hc 1 (by omega); rw [hu'] at this; exact this
    · have := hc 2 (by omega); rw [hu'] at this; exact this
    · have := hc 3 (by omega); rw [hu'] at this; exact this
    · have := hc 4 (by omega); rw [hu'] at this; exact this

/-- Number j of a row of one's own: where it lies, whatever has been turned. -/
theorem own_num {w : World} {base n : Nat} {e : TypeId} {v : Value} {xs : List Int} (h : w.ownsRow base e 1 v n (xs.map (.int .i64))) (hn : 0 < n) :
    ∃ g cap cs, v = .slice (some ⟨g, 0, none⟩) n cap ∧ n ≤ cap ∧ cap ≤ 9223372036854775807 ∧ base ≤ g ∧ w.heap[g]? = some (.cells cs e) ∧ ∀ j, j < n → ∃ x, cs[j]? = some (.int .i64 x) := by
  obtain ⟨h1, ⟨rfl, h2⟩ | ⟨g, cap, cur, rfl, h3, h4, h5, h6, h7, h8⟩⟩ := h
  · omega
  · refine ⟨g, cap, cur, rfl, h5, by simpa [maxLen] using h6, h3, h4, fun j hj => ?_⟩
    have hl : xs.length = n := by simpa using h1
    refine ⟨xs[j]'(by omega), ?_⟩
    have h9 : (cur.toList.take (n * 1))[j]? = some (.int .i64 (xs[j]'(by omega))) := by rw [h8, List.getElem?_map, List.getElem?_eq_getElem (by omega)]; rfl
    rw [List.getElem?_take_of_lt (by omega), Array.getElem?_toList] at h9
    exact h9

end Go.Proofs.YthlingdlehdlhaaGreatDoor
