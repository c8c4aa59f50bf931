/- parse: a text's function: its plain law, in the order in which the code asks.
   parse: a text's function, walked. -/
import Derived.Test.YthlingdlehdlhaaDoorPC
import Derived.Test.YthlingdlehdlhaaDoorPOper
namespace Go.Proofs.YthlingdlehdlhaaDoor.Par
open Go.RowKit Go.Shelf
set_option linter.unusedVariables false
set_option linter.unusedSimpArgs false

/-- The token at a place; none there: no glyph. -/
def tokAt (l : List Tok) (k : Nat) : Tok := (l[k]?).getD ⟨0, [], noArr⟩
theorem tokAt_some {l : List Tok} {k : Nat} {t : Tok} (h : l[k]? = some t) : tokAt l k = t := by unfold tokAt; rw [h]; rfl
theorem tokAt_lt {l : List Tok} {k : Nat} (h : k < l.length) : l[k]? = some (tokAt l k) := by
  unfold tokAt; rw [List.getElem?_eq_getElem h]; rfl
/-- A reduce, a scan (m tokens stand ahead of the last one). -/
def redB (m : Nat) (G : Bool) (bu : Int) : Bool := G && decide (0 < m) && decide (0 < bu)
def outB (m : Nat) (D : Bool) (bt : Int) (J : Bool) : Bool := decide (1 < m) && D && decide (0 < bt) && J
theorem func_eq (F : List (List UInt8)) (n : Nat) (ins : Bool) (l : List Tok) (t : Tok) (m : Nat) (ht : l.getLast? = some t) (hm : l.length = m + 1) :
    functionF F (n + 1) ins l =
      if isFun F t = true then some (⟨6, 0, 0, t.txt, .nil⟩, l.dropLast)
      else if (isG t gDel && ins) = true then some (⟨8, 0, 0, [], .nil⟩, l.dropLast)
      else if isG t gRC = true then ((linesF F n (l.dropLast.drop (openedF l + 1))).map fun b => ((⟨7, 0, 0, [], b⟩ : Fn), l.take (openedF l)))
      else if redB m (isG t gSlash) (binT (tokAt l (m - 1))) = true then some (⟨2, binT (tokAt l (m - 1)), 0, [], .nil⟩, l.dropLast.dropLast)
      else if redB m (isG t gBack) (binT (tokAt l (m - 1))) = true then some (⟨3, binT (tokAt l (m - 1)), 0, [], .nil⟩, l.dropLast.dropLast)
      else if outB m (isG (tokAt l (m - 1)) gDot) (binT t) (isG (tokAt l (m - 2)) gJot) = true then some (⟨4, binT t, 0, [], .nil⟩, l.dropLast.dropLast.dropLast)
      else if outB m (isG (tokAt l (m - 1)) gDot) (binT t) (decide (0 < binT (tokAt l (m - 2)))) = true then some (⟨5, binT (tokAt l (m - 2)), binT t, [], .nil⟩, l.dropLast.dropLast.dropLast)
      else if (decide (t.kind = 3) && decide (0 < fnF t.txt)) = true then some (⟨1, fnF t.txt, 0, [], .nil⟩, l.dropLast)
      else none := by
  have hd : l.dropLast.length = m := by rw [List.length_dropLast]; omega
  rw [functionF, ht]
  simp only
  by_cases h1 : isFun F t = true
  · rw [if_pos h1, if_pos h1]
  rw [if_neg h1, if_neg h1]
  by_cases h2 : isG t gDel = true ∧ ins = true
  · rw [if_pos h2, if_pos (by simp [h2])]
  rw [if_neg h2, if_neg (show ¬ (isG t gDel && ins) = true by simpa using h2)]
  by_cases h3 : isG t gRC = true
  · rw [if_pos h3, if_pos h3]
    cases linesF F n (l.dropLast.drop (openedF l + 1)) <;> rfl
  rw [if_neg h3, if_neg h3]
  unfold redB outB
  cases hu : l.dropLast.getLast? with
  | none =>
    have h0 : m = 0 := by rw [List.getLast?_eq_none_iff] at hu; rw [hu] at hd; simpa using hd.symm
    subst h0
    simp
  | some u =>
    have hu1 := last_get hu
    have hut : tokAt l (m - 1) = u := by
      apply tokAt_some
      have := hu1.1
      rw [hd, List.getElem?_dropLast, hm] at this
      rw [if_pos (by omega)] at this; exact this
    rw [hut]
    have hm0 : 0 < m := by omega
    have e2 : l.dropLast.dropLast.length = m - 1 := by rw [List.length_dropLast]; omega
    simp only [hm0, decide_true, Bool.and_true, Bool.and_eq_true, decide_eq_true_eq]
    by_cases h4 : isG t gSlash = true ∧ 0 < binT u
    · rw [if_pos h4, if_pos h4]
    rw [if_neg h4, if_neg h4]
    by_cases h5 : isG t gBack = true ∧ 0 < binT u
    · rw [if_pos h5, if_pos h5]
    rw [if_neg h5, if_neg h5]
    cases hv : l.dropLast.dropLast.getLast? with
    | none =>
      have h0 : ¬ 1 < m := by
        rw [List.getLast?_eq_none_iff] at hv; rw [hv] at e2; simp at e2; omega
      simp [h0]
    | some v =>
      have hv1 := last_get hv
      have hvt : tokAt l (m - 2) = v := by
        apply tokAt_some
        have := hv1.1
        rw [e2, List.getElem?_dropLast, List.getElem?_dropLast, List.length_dropLast, hm] at this
        rw [if_pos (by omega), if_pos (by omega)] at this
        rw [show m - 1 - 1 = m - 2 by omega] at this; exact this
      have h1m : 1 < m := by omega
      simp only [hvt, h1m, true_and, and_assoc]
/-- What is left, cut. -/
theorem cut1 {l : List Tok} {m : Nat} (hm : l.length = m + 1) : l.dropLast = l.take m := by
  rw [List.dropLast_eq_take]; congr 1; omega
theorem cut2 {l : List Tok} {m : Nat} (hm : l.length = m + 1) (h0 : 0 < m) : l.dropLast.dropLast = l.take (m - 1) := by
  rw [List.dropLast_eq_take, List.dropLast_eq_take, List.length_take, List.take_take]; congr 1; omega
theorem cut3 {l : List Tok} {m : Nat} (hm : l.length = m + 1) (h0 : 1 < m) : l.dropLast.dropLast.dropLast = l.take (m - 2) := by
  rw [cut2 hm (by omega), List.dropLast_eq_take, List.length_take, List.take_take]; congr 1; omega
theorem toks_get {w : World} {b o c n : Nat} {l : List Tok} (h : IsToks w (.slice (some ⟨b, o, none⟩) n c) l) {k : Nat} (hk : k < l.length) :
    ∃ vs ve, TokAt w b (o + k * 5) (tokAt l k) vs ve ∧ Ints w vs (tokAt l k).val.shape ∧ Ints w ve (tokAt l k).val.elems := by
  obtain ⟨a, c, e, k1, k2, k3, k4⟩ := h
  simp only [Value.slice.injEq] at e
  obtain ⟨rfl, -, -⟩ := e
  obtain ⟨b', o', vs, ve, e1, e2, e3, e4, e5⟩ := k4 _ _ (tokAt_lt hk)
  simp only [Option.some.injEq, Addr.mk.injEq, and_true] at e1
  obtain ⟨rfl, rfl⟩ := e1
  exact ⟨vs, ve, e2, e3, e4⟩
theorem take_sub {b o c n k : Nat} {l : List Tok} (h : k ≤ l.length) (hn : n = l.length) : Sub (.slice (some ⟨b, o, none⟩) n c) l (.slice (some ⟨b, o, none⟩) k c) (l.take k) := by
  subst hn
  have h := Sub.seg (a := some ⟨b, o, none⟩) (c := c) (l := l) (p := (0, k)) (Nat.zero_le _) h
  have e1 : seg l (0, k) = l.take k := by unfold seg; rfl
  have e2 : segV (some ⟨b, o, none⟩) c (0, k) = .slice (some ⟨b, o, none⟩) k c := by unfold segV; simp
  rw [e1, e2] at h; exact h
/-- What a failing leaves. -/
theorem noFn_fresh (base : Nat → Prop) (w : World) : Fresh base w (IsF · (.agg #[.int .i64 0, .int .i64 0, .int .i64 0, .string ⟨#[]⟩, .slice none 0 0]) noFn) :=
  Fresh.mkFn (f := noFn) (Fresh.nil _ _)
/-- Where the walk of a function stands: the result's row, the last token's row. -/
structure FunSt (w : World) (TB : Nat) (t : Tok) (sv ev : Value) (V : World) : Prop where
  bl : Below w.heap.size w V
  row : V.heap[w.heap.size]? = some (.cells #[.int .i64 0, .int .i64 0, .int .i64 0, .string ⟨#[]⟩, .slice none 0 0] 36)
  tok : V.heap[TB]? = some (.cells #[.int .i64 t.kind, .string (bs t.txt), .int .i64 t.val.kind, sv, ev] 54)
  ne : w.heap.size < TB
theorem FunSt.go {w : World} {TB : Nat} {t : Tok} {sv ev : Value} {V V' : World} (h : FunSt w TB t sv ev V) (hb : Below V.heap.size V V') : FunSt w TB t sv ev V' :=
  ⟨h.bl.trans (hb.mono h.bl.size), (hb.block _ (Array.getElem?_eq_some_iff.1 h.row).1).trans h.row, (hb.block _ (Array.getElem?_eq_some_iff.1 h.tok).1).trans h.tok, h.ne⟩
theorem FunSt.drew {w : World} {TB : Nat} {t : Tok} {sv ev : Value} {V : World} (h : FunSt w TB t sv ev V) : FunSt w TB t sv ev V.drew := h.go (Below.refl _ _).drew
/-- .. and a store into the result's row leaves the token's. -/
theorem FunSt.oth {w : World} {TB : Nat} {t : Tok} {sv ev : Value} {V W : World} (h : FunSt w TB t sv ev V) (ho : Oth w.heap.size V W) : W.heap[TB]? = some (.cells #[.int .i64 t.kind, .string (bs t.txt), .int .i64 t.val.kind, sv, ev] 54) :=
  (ho.block TB (by have := h.ne; omega)).trans h.tok
end Go.Proofs.YthlingdlehdlhaaDoor.Par

namespace Go.Proofs.YthlingdlehdlhaaDoor.Par
open Go.RowKit Go.Shelf
set_option linter.unusedVariables false
set_option linter.unusedSimpArgs false

end Go.Proofs.YthlingdlehdlhaaDoor.Par
