/- Lists of tokens: whether two are the same, the reference's.
   lex.Same: whether two lists of tokens are the same. -/
import Derived.Test.YthlingdlehdlhaaDoorToks
import Derived.Test.YthlingdlehdlhaaDoorArrs
import Derived.Test.YthlingdlehdlhaaDoorChars
namespace Go.Proofs.YthlingdlehdlhaaDoor
open Go.RowKit Go.Shelf
set_option linter.unusedVariables false
set_option linter.unusedSimpArgs false

/-- A token's five cells lie at a place. -/
def TokAt (w : World) (b o : Nat) (t : Tok) (vs ve : Value) : Prop :=
  w.cell? ⟨b, o, none⟩ = some (.int .i64 t.kind) ∧ w.cell? ⟨b, o + 1, none⟩ = some (.string (bs t.txt)) ∧ w.cell? ⟨b, o + 2, none⟩ = some (.int .i64 t.val.kind) ∧ w.cell? ⟨b, o + 3, none⟩ = some vs ∧ w.cell? ⟨b, o + 4, none⟩ = some ve
/-- A slice of tokens that reads as a list. -/
def IsToks (w : World) (v : Value) (T : List Tok) : Prop :=
  ∃ a cap, v = .slice a T.length cap ∧ T.length ≤ cap ∧ cap ≤ 9223372036854775807 ∧ (a = none → cap = 0) ∧
    ∀ k t, T[k]? = some t → ∃ b o vs ve, a = some ⟨b, o, none⟩ ∧ TokAt w b (o + k * 5) t vs ve ∧ Ints w vs t.val.shape ∧ Ints w ve t.val.elems ∧ Rng t.val.elems
theorem TokAt.below {w w' : World} {b o : Nat} {t : Tok} {vs ve : Value} (h : TokAt w b o t vs ve) (hb : Below w.heap.size w w') : TokAt w' b o t vs ve := by
  obtain ⟨h0, h1, h2, h3, h4⟩ := h
  exact ⟨(hb.cell (World.block_lt_of_cell? w _ h0)).trans h0, (hb.cell (World.block_lt_of_cell? w _ h1)).trans h1, (hb.cell (World.block_lt_of_cell? w _ h2)).trans h2, (hb.cell (World.block_lt_of_cell? w _ h3)).trans h3, (hb.cell (World.block_lt_of_cell? w _ h4)).trans h4⟩
theorem IsToks.below {w w' : World} {v : Value} {T : List Tok} (h : IsToks w v T) (hb : Below w.heap.size w w') : IsToks w' v T := by
  obtain ⟨a, cap, e, h1, h2, h3, h4⟩ := h
  refine ⟨a, cap, e, h1, h2, h3, fun k t hk => ?_⟩
  obtain ⟨b, o, vs, ve, e1, e2, e3, e4, e5⟩ := h4 k t hk
  exact ⟨b, o, vs, ve, e1, e2.below hb, e3.below hb, e4.below hb, e5⟩
theorem IsToks.nil (w : World) : IsToks w (.slice none 0 0) [] := ⟨none, 0, rfl, Nat.le_refl _, by omega, fun _ => rfl, fun k t hk => by simp at hk⟩

theorem take_get {cur : List Value} {n m i : Nat} {u : List Value} (h : ((cur.take n).drop m).take 5 = u) (hi : i < 5) (hu : u.length = 5) : cur[m + i]? = u[i]? := by
  have h2 : u[i]? = (cur.take n)[m + i]? := by
    rw [← h, List.getElem?_take_of_lt hi, List.getElem?_drop]
  rw [h2, List.getElem?_take]
  split
  · rfl
  · rename_i hge
    have hlen : u.length = 5 := hu
    rw [← h, List.length_take, List.length_drop, List.length_take] at hlen
    omega

theorem IsToks.of_own {w : World} {base : Nat} {v : Value} {us : List (List Value)} {T : List Tok} (h : w.ownsRow base 54 5 v T.length us.flatten) (ht : ToksOwn w base us T) : IsToks w v T := by
  obtain ⟨h1, ⟨rfl, h2⟩ | ⟨g, cap, cur, rfl, h3, h4, h5, h6, h7, h8⟩⟩ := h
  · obtain rfl : T = [] := List.eq_nil_of_length_eq_zero h2
    exact .nil w
  · refine ⟨some ⟨g, 0, none⟩, cap, rfl, h5, by simpa [maxLen] using h6, by simp, fun k t hk => ?_⟩
    obtain ⟨hk', rfl⟩ := List.getElem?_eq_some_iff.1 hk
    obtain ⟨u, hu1, hu2, hu3⟩ := ht.at k hk'
    have h5' := tok_five hu2
    obtain ⟨vs, ve, hu, o1, o2, o3⟩ := hu2
    have hu' : u = [.int .i64 T[k].kind, .string (bs T[k].txt), .int .i64 T[k].val.kind, vs, ve] := by
      have : u.toArray = #[.int .i64 T[k].kind, .string (bs T[k].txt), .int .i64 T[k].val.kind, vs, ve] := by simpa using hu
      simpa using congrArg Array.toList this
    rw [← h8] at hu3
    have hc : ∀ i, i < 5 → w.cell? ⟨g, 0 + k * 5 + i, none⟩ = u[i]? := by
      intro i hi
      have := take_get hu3 hi h5'
      rw [World.cell?, h4]
      simp only [Nat.zero_add]
      rw [← Array.getElem?_toList, this]
      cases u[i]? <;> rfl
    refine ⟨g, 0, vs, ve, rfl, ⟨?_, ?_, ?_, ?_, ?_⟩, Ints.of_owns o1, Ints.of_owns o2, o3⟩
    · have := hc 0 (by omega); rw [hu'] at this; exact this
    · have := hc 1 (by omega); rw [hu'] at this; exact this
    · have := hc 2 (by omega); rw [hu'] at this; exact this
    · have := hc 3 (by omega); rw [hu'] at this; exact this
    · have := hc 4 (by omega); rw [hu'] at this; exact this

theorem bs_txt (a b : List UInt8) : ((bs a).toList == (bs b).toList) = decide (a = b) := by
  rw [ByteArray.toList_eq, ByteArray.toList_eq, bs_list, bs_list, Bool.eq_iff_iff, beq_iff_eq, decide_eq_true_eq]
theorem take_one {α : Type} (xs : List α) (k : Nat) (t : α) (h : xs[k]? = some t) : xs.take (k + 1) = xs.take k ++ [t] := by rw [List.take_add_one, h]; rfl

end Go.Proofs.YthlingdlehdlhaaDoor

namespace Go.Proofs.YthlingdlehdlhaaDoor
open Go.RowKit Go.Shelf
set_option linter.unusedVariables false
set_option linter.unusedSimpArgs false

/-- A token as a value. -/
def IsTok (w : World) (v : Value) (t : Tok) : Prop := ∃ vs ve, v = .agg #[.int .i64 t.kind, .string (bs t.txt), .int .i64 t.val.kind, vs, ve] ∧ Ints w vs t.val.shape ∧ Ints w ve t.val.elems ∧ Rng t.val.elems
theorem IsTok.below {w w' : World} {v : Value} {t : Tok} (h : IsTok w v t) (hb : Below w.heap.size w w') : IsTok w' v t := by
  obtain ⟨vs, ve, e, h1, h2, h3⟩ := h
  exact ⟨vs, ve, e, h1.below hb, h2.below hb, h3⟩



end Go.Proofs.YthlingdlehdlhaaDoor
