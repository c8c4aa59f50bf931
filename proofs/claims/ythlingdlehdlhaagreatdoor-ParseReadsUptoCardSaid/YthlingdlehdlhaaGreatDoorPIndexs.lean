/- parse: an operand with an index: its plain law, where its walk stands.
   parse: an operand with an index, walked. -/
import Derived.Test.YthlingdlehdlhaaGreatDoorPOper
import Derived.Test.YthlingdlehdlhaaGreatDoorPLines
namespace Go.Proofs.YthlingdlehdlhaaGreatDoor.Par
open Go.RowKit Go.Shelf
set_option linter.unusedVariables false
set_option linter.unusedSimpArgs false

/-- Expressions ahead of others. -/
def appE (xs : List Ex) (t : Tr) : Tr := xs.foldr Ex.cons t
theorem appE_nil (xs : List Ex) : appE xs .nil = chainE xs := by
  induction xs with
  | nil => rfl
  | cons y r ih => show y.cons (appE r .nil) = y.cons (chainE r); rw [ih]
theorem appE_snoc (xs : List Ex) (y : Ex) (t : Tr) : appE (xs ++ [y]) t = appE xs (y.cons t) := by unfold appE; rw [List.foldr_append]; rfl
theorem chainE_len (xs : List Ex) : (chainE xs).len = xs.length := by
  induction xs with
  | nil => rfl
  | cons y r ih => show (chainE r).len + 1 = r.length + 1; rw [ih]
theorem Cells.inv_ex {Sb : Nat → Prop} {w : World} {z : Ex} {t : Tr} {us : List (List Value)} (h : Cells Sb w (z.cons t) us) : ∃ vs ve vb vc us', us = exL z vs ve vb vc :: us' ∧ Fresh Sb w (Ints · vs z.val.shape) ∧ Fresh Sb w (Ints · ve z.val.elems) ∧ Rng z.val.elems ∧ Fresh Sb w (IsTs · vb z.fn.body) ∧ Fresh Sb w (IsTs · vc z.kids) ∧ Cells Sb w t us' := by
  generalize ht : z.cons t = s at h
  cases h with
  | nil => cases ht
  | ln => unfold Ln.cons Ex.cons at ht; cases ht
  | ex y vs ve vb vc r us' i1 i2 i3 j1 j2 c =>
    unfold Ex.cons at ht
    obtain ⟨k, n, v, ⟨fk, ff, fg, fn, fb⟩, ks⟩ := z
    obtain ⟨k', n', v', ⟨fk', ff', fg', fn', fb'⟩, ks'⟩ := y
    simp only [Tr.ex.injEq] at ht
    obtain ⟨rfl, rfl, rfl, rfl, rfl, rfl, rfl, rfl, rfl, rfl⟩ := ht
    exact ⟨vs, ve, vb, vc, us', rfl, i1, i2, i3, j1, j2, c⟩
theorem Cells.snocE {Sb : Nat → Prop} {w : World} {xs : List Ex} {us : List (List Value)} (h : Cells Sb w (chainE xs) us) {y : Ex} {vs ve vb vc : Value} (i1 : Fresh Sb w (Ints · vs y.val.shape)) (i2 : Fresh Sb w (Ints · ve y.val.elems)) (i3 : Rng y.val.elems) (j1 : Fresh Sb w (IsTs · vb y.fn.body)) (j2 : Fresh Sb w (IsTs · vc y.kids)) : Cells Sb w (chainE (xs ++ [y])) (us ++ [exL y vs ve vb vc]) := by
  induction xs generalizing us with
  | nil =>
    have : us = [] := by have := h.len; exact List.eq_nil_of_length_eq_zero this
    subst this
    exact .ex y vs ve vb vc .nil [] i1 i2 i3 j1 j2 .nil
  | cons z r ih =>
    obtain ⟨vs', ve', vb', vc', us', rfl, k1, k2, k3, l1, l2, c⟩ := Cells.inv_ex (z := z) (t := chainE r) h
    exact .ex _ _ _ _ _ _ _ k1 k2 k3 l1 l2 (ih c)
def axisF (F : List (List UInt8)) (k : Nat) (ins : Bool) (a : List Tok) : Option Ex := if a = [] then some ⟨8, [], noArr, noFn, .nil⟩ else exprF F k ins a
/-- Where the reading of axes stands. -/
def AxesSt (F : List (List UInt8)) (n : Nat) (ins bad0 : Bool) (lawA : Option Tr) (bo : Bool) (xs : List Ex) (rest : List (List Tok)) : Prop :=
  (bo = true ∧ (bad0 = true ∨ lawA = none)) ∨ (bo = false ∧ bad0 = false ∧ ∃ k, 8 * need rest + 1 ≤ k ∧ k ≤ n ∧ lawA = (axesF F k ins rest).map (appE xs))
theorem AxesSt.start (F : List (List UInt8)) (n : Nat) (ins bad0 : Bool) (ls : List (List Tok)) (h : 8 * need ls + 1 ≤ n) : AxesSt F n ins bad0 (axesF F n ins ls) bad0 [] ls := by
  cases bad0 with
  | true => exact .inl ⟨rfl, .inl rfl⟩
  | false => exact .inr ⟨rfl, rfl, n, h, Nat.le_refl _, by cases axesF F n ins ls <;> rfl⟩
theorem AxesSt.fuel {F : List (List UInt8)} {n : Nat} {ins bad0 : Bool} {lawA : Option Tr} {bo : Bool} {xs : List Ex} {a : List Tok} {rest : List (List Tok)} (h : AxesSt F n ins bad0 lawA bo xs (a :: rest)) (hn : 8 * a.length + 3 ≤ n) :
    ∃ k, 8 * a.length + 3 ≤ k ∧ k ≤ n ∧ ∀ bo2 x, Res bo bo2 (axisF F k ins a) x → AxesSt F n ins bad0 lawA bo2 (xs ++ [x]) rest := by
  rcases h with ⟨rfl, h⟩ | ⟨rfl, rfl, k, h1, h2, h3⟩
  · refine ⟨n, hn, Nat.le_refl _, fun bo2 x hr => .inl ⟨?_, h⟩⟩
    have := hr.1; simpa using this
  · obtain ⟨k, rfl⟩ : ∃ j, k = j + 1 := ⟨k - 1, by omega⟩
    rw [need_cons] at h1
    refine ⟨k, by omega, by omega, fun bo2 x hr => ?_⟩
    rw [axesF] at h3
    change lawA = Option.map (appE xs) (match axisF F k ins a with | none => none | some x => match axesF F k ins rest with | none => none | some k => some (x.cons k)) at h3
    cases bo2 with
    | true =>
      rcases hr.bad with h | h
      · cases h
      · exact .inl ⟨rfl, .inr (by rw [h3, h]; rfl)⟩
    | false =>
      rw [hr.good.2] at h3
      refine .inr ⟨rfl, rfl, k, by omega, by omega, ?_⟩
      rw [h3]
      simp only
      cases axesF F k ins rest with
      | none => rfl
      | some t => simp only [Option.map_some, appE_snoc]
theorem AxesSt.done {F : List (List UInt8)} {n : Nat} {ins bad0 : Bool} {lawA : Option Tr} {bo : Bool} {xs : List Ex} (h : AxesSt F n ins bad0 lawA bo xs []) : Res bad0 bo lawA (chainE xs) := by
  rcases h with ⟨rfl, h | h⟩ | ⟨rfl, rfl, k, h1, h2, h3⟩
  · subst h; exact ⟨by simp, fun h => by cases h⟩
  · exact Res.none h _ _
  · obtain ⟨k, rfl⟩ : ∃ j, k = j + 1 := ⟨k - 1, by omega⟩
    rw [axesF] at h3
    exact Res.some (by rw [h3]; simp [appE_nil]) false
/-- Where the walk of an index stands. -/
structure IdxSt (w w5 : World) (rb K s4 : Nat) (fv : Value) (ins bo : Bool) (x : Ex) (xs : List Ex) (us : List (List Value)) (kv : Value) (wr : World) : Prop where
  pr : PR wr rb fv ins bo
  fr : Fr rb w wr
  sz : w5.heap.size ≤ wr.heap.size
  hR : wr.heap[w.heap.size]? = w5.heap[w.heap.size]?
  hU : wr.heap[K + 1]? = some (.cells #[.int .i64 7, .string ⟨#[]⟩, .int .i64 0, .slice none 0 0, .slice none 0 0, .int .i64 0, .int .i64 0, .int .i64 0, .string ⟨#[]⟩, .slice none 0 0, kv] 36)
  own : wr.ownsRow K 36 11 kv (xs.length + 1) us.flatten
  kvn : kv.ownBlock ≠ some (K + 1)
  kvq : ∀ q, kv.ownBlock = some q → q < s4 ∨ w5.heap.size ≤ q
  cl : Cells (fun b => w.heap.size < b ∧ b ≠ K + 1 ∧ kv.ownBlock ≠ some b) wr (chainE (x :: xs)) us
  old : ∀ j, s4 ≤ j → j < w5.heap.size → wr.heap[j]? = w5.heap[j]?
structure IdxC (w w5 : World) (rb K s4 : Nat) : Prop where
  a : rb < w.heap.size
  b : w.heap.size < K
  c : K + 1 < s4
  d : s4 ≤ w5.heap.size
theorem IdxSt.go {w w5 : World} {rb K s4 : Nat} {fv : Value} {ins bo : Bool} {x : Ex} {xs : List Ex} {us : List (List Value)} {kv : Value} {wr : World} (h : IdxSt w w5 rb K s4 fv ins bo x xs us kv wr) (c : IdxC w w5 rb K s4) {V : World} {bo2 : Bool} (hp : PR V rb fv ins bo2) (hf : Fr rb wr V) : IdxSt w w5 rb K s4 fv ins bo2 x xs us kv V := by
  have hz := h.sz
  obtain ⟨c1, c2, c3, c4⟩ := c
  exact ⟨hp, h.fr.trans hf, Nat.le_trans h.sz hf.size, (hf.block _ (by omega) (by omega)).trans h.hR, (hf.block _ (by omega) (by omega)).trans h.hU, own_fr h.own hf (by omega), h.kvn, h.kvq, h.cl.soft (soft_of h.pr hp hf), fun j h1 h2 => (hf.block j (by omega) (by omega)).trans (h.old j h1 h2)⟩
theorem IdxSt.put {w w5 : World} {rb K s4 : Nat} {fv : Value} {ins bo : Bool} {x : Ex} {xs : List Ex} {us : List (List Value)} {kv kv' : Value} {W w6 : World} (h : IdxSt w w5 rb K s4 fv ins bo x xs us kv W) (c : IdxC w w5 rb K s4) {y : Ex} {vs ve vb vc : Value}
    (hown : w6.ownsRow K 36 11 kv' (xs.length + 1 + 1) (us.flatten ++ exL y vs ve vb vc)) (hg : W.grownBy w6 kv.ownBlock) (hat : kv'.ownBlock = kv.ownBlock ∨ kv'.ownBlock = some W.heap.size)
    (i1 : Fresh (fun b => w.heap.size < b ∧ b ≠ K + 1 ∧ kv.ownBlock ≠ some b) W (Ints · vs y.val.shape)) (i2 : Fresh (fun b => w.heap.size < b ∧ b ≠ K + 1 ∧ kv.ownBlock ≠ some b) W (Ints · ve y.val.elems)) (i3 : Rng y.val.elems) (j1 : Fresh (fun b => w.heap.size < b ∧ b ≠ K + 1 ∧ kv.ownBlock ≠ some b) W (IsTs · vb y.fn.body)) (j2 : Fresh (fun b => w.heap.size < b ∧ b ≠ K + 1 ∧ kv.ownBlock ≠ some b) W (IsTs · vc y.kids)) :
    IdxSt w w5 rb K s4 fv ins bo x (xs ++ [y]) (us ++ [exL y vs ve vb vc]) kv' (w6.setCell ⟨K + 1, 10, none⟩ kv') := by
  have hz := h.sz
  obtain ⟨c1, c2, c3, c4⟩ := c
  have hy : Cells (fun b => w.heap.size < b ∧ b ≠ K + 1 ∧ kv.ownBlock ≠ some b) W (chainE ((x :: xs) ++ [y])) (us ++ [exL y vs ve vb vc]) := h.cl.snocE i1 i2 i3 j1 j2
  have hkq : ∀ q, kv.ownBlock = some q → K ≤ q ∧ q < W.heap.size := fun q e => h.own.lt q e
  have hblk : ∀ k, k < W.heap.size → kv.ownBlock ≠ some k → k ≠ K + 1 → (w6.setCell ⟨K + 1, 10, none⟩ kv').heap[k]? = W.heap[k]? := fun k h1 h2 h3 => (Below.heap_setCell _ _ _ _ h3).trans (hg.block k h1 (fun e => h2 e.symm))
  have hkn : kv'.ownBlock ≠ some (K + 1) := fun e => by
    rcases hat with h1 | h1
    · rw [h1] at e; exact h.kvn e
    · rw [h1] at e; have := Option.some.inj e; omega
  have hU6 := (hg.block (K + 1) (by omega) (fun e => h.kvn e.symm)).trans h.hU
  have hsz : (w6.setCell ⟨K + 1, 10, none⟩ kv').heap.size = w6.heap.size := by simp [World.setCell]
  refine ⟨(hblk rb (by omega) (fun e => by have := hkq _ e; omega) (by omega)).trans h.pr, ⟨hg.os.trans h.fr.os, hg.tape.trans h.fr.tape, hg.output.trans h.fr.output, by rw [hsz]; exact Nat.le_trans h.fr.size hg.size, fun k hk hn => (hblk k (Nat.lt_of_lt_of_le hk h.fr.size) (fun e => by have := hkq _ e; omega) (by omega)).trans (h.fr.block k hk hn)⟩,
    by rw [hsz]; exact Nat.le_trans h.sz hg.size, (hblk _ (by omega) (fun e => by have := hkq _ e; omega) (by omega)).trans h.hR, (heap_set1 (i := 10) hU6 kv').trans rfl, ?_, hkn, fun q e => ?_, ?_, fun j h1 h2 => (hblk j (by omega) (fun e => by have := h.kvq _ e; omega) (by omega)).trans (h.old j h1 h2)⟩
  · have := ownsRow_setCell_other hown (a := ⟨K + 1, 10, none⟩) hkn kv'
    rw [List.length_append, List.flatten_append]
    simpa using this
  · rcases hat with h1 | h1
    · rw [h1] at e; exact h.kvq q e
    · rw [h1] at e; have := Option.some.inj e; omega
  · refine hy.youngF ((SoftF.grown hg (fun q hq => hq.2.2)).put (K + 1) 10 kv' (fun hq => hq.2.1 rfl)) (fun q hq hlq => ⟨hq.1, hq.2.1, fun e => ?_⟩)
    rcases hat with h1 | h1
    · rw [h1] at e; exact hq.2.2 e
    · rw [h1] at e; have := Option.some.inj e; omega
theorem parts_count (s : List UInt8) (l : List Tok) : (partsF l s).length ≤ l.length + 1 := by
  rw [← need_parts s l]
  unfold need
  generalize partsF l s = Q
  induction Q with
  | nil => simp
  | cons q Q ih => simp only [List.map_cons, List.sum_cons, List.length_cons]; omega
end Go.Proofs.YthlingdlehdlhaaGreatDoor.Par

namespace Go.Proofs.YthlingdlehdlhaaGreatDoor.Par
open Go.RowKit Go.Shelf
set_option linter.unusedVariables false
set_option linter.unusedSimpArgs false

/-- Ahead of each axis. -/
def IndexR (F : List (List UInt8)) (n : Nat) (ins bad0 : Bool) (lawA : Option Tr) (w w5 : World) (rb K s4 : Nat) (fv : Value) (x : Ex) (P : List (List Tok)) (vi : Value) (wr : World) : Prop :=
  ∃ (k : Nat) (bo : Bool) (xs : List Ex) (us : List (List Value)) (kv : Value), k ≤ P.length ∧ vi = .int .i64 (k : Nat) ∧ xs.length ≤ k ∧ IdxSt w w5 rb K s4 fv ins bo x xs us kv wr ∧ Hid (AxesSt F n ins bad0 lawA bo xs (P.drop k))
set_option maxRecDepth 100000 in
set_option maxHeartbeats 8000000 in
theorem index_step (F : List (List UInt8)) (n : Nat) (hO : ∀ m, m ≤ n → OperC F m) (hE : ∀ m, m ≤ n → ExprC F m) : IndexC F (n + 1) := by
  intro w rb fv ins bad v l t hg ht hb hfu
  obtain ⟨i0, hi, hz0, hz1, hz2⟩ := info_parts (show (Tryz.prog.info? 36).map (fun i => (i.zero, i.size, i.bytes)) = some (some (.agg #[.int .i64 0, .string ⟨#[]⟩, .int .i64 0, .slice none 0 0, .slice none 0 0, .int .i64 0, .int .i64 0, .int .i64 0, .string ⟨#[]⟩, .slice none 0 0, .slice none 0 0]), 11, 168) by kernel_rfl)
  have hlt := hg.pr.lt
  obtain ⟨a, c, rfl⟩ := toks_parts hg.tk
  obtain ⟨b, o, c', m, tvs, tve, e0, hm, hm1, hm2, -⟩ := toks_last hg.tk ht
  simp only [Value.slice.injEq] at e0
  obtain ⟨rfl, -, rfl⟩ := e0
  clear hm hm1 hm2
  obtain ⟨law, hlaw⟩ : ∃ law, operandF F (n + 1) ins l = law := ⟨_, rfl⟩
  have hlawE : law = operandF F (n + 1) ins l := hlaw.symm
  rw [hlaw]
  have k1 : ¬ t.kind = 1 := by have := (isG_eq hb).1; omega
  have k2 : ¬ t.kind = 2 := by have := (isG_eq hb).1; omega
  have k3 : ¬ isG t gRP = true := fun h => by have h1 := (isG_eq hb).2; have h2 := (isG_eq h).2; rw [h1] at h2; cases h2
  rw [operandF, ht] at hlawE
  simp only [if_neg k1, if_neg k2, if_neg k3, if_pos hb] at hlawE
  obtain ⟨k5, k6, k7⟩ := hg.dy.closed ht (wt_rb hb)
  have hne : l ≠ [] := by rintro rfl; cases ht
  have hlpos := List.length_pos_iff.2 hne
  have hop := fun V (hb : Below w.heap.size w V) => opened_any' _ l V (hg.tk.below hb) hg.dy hne
  have hsb1 : Sub (.slice (some ⟨b, o, none⟩) l.length c) l (segV (some ⟨b, o, none⟩) c (openedF l + 1, l.length - 1)) (l.dropLast.drop (openedF l + 1)) := by
    have h := Sub.seg (a := some ⟨b, o, none⟩) (c := c) (l := l) (p := (openedF l + 1, l.length - 1)) (by simp only; omega) (by simp only; omega)
    have e1 : seg l (openedF l + 1, l.length - 1) = l.dropLast.drop (openedF l + 1) := by unfold seg; rw [drop_last hlpos]
    rw [e1] at h; exact h
  have hsb2 : Sub (.slice (some ⟨b, o, none⟩) l.length c) l (.slice (some ⟨b, o, none⟩) (openedF l) c) (l.take (openedF l)) := by
    have h := Sub.seg (a := some ⟨b, o, none⟩) (c := c) (l := l) (p := (0, openedF l)) (Nat.zero_le _) (by simp only; omega)
    have e1 : seg l (0, openedF l) = l.take (openedF l) := by unfold seg; rfl
    have e2 : segV (some ⟨b, o, none⟩) c (0, openedF l) = .slice (some ⟨b, o, none⟩) (openedF l) c := by unfold segV; simp
    rw [e1, e2] at h; exact h
  have hil := inner_len l (openedF l)
  have his := inner_sub l (openedF l + 1)
  have htk : l.take (openedF l) ⊆ l := (List.take_sublist _ _).subset
  have htl : (l.take (openedF l)).length = openedF l := by rw [List.length_take]; omega
  have hcl : l.length ≤ c := by obtain ⟨a', c', e, h1, -⟩ := hg.tk; simp only [Value.slice.injEq] at e; obtain ⟨-, -, rfl⟩ := e; exact h1
  have hle := hg.le
  generalize openedF l = q at *
  have Hlaw := hid hlawE
  have hq2 : (0 : Int) ≤ (q : Int) := by omega
  have hq3 : (q : Int) ≤ (c : Int) := by omega
  have hA := fun o => (Below.refl _ w).alloc (Nat.le_refl _) o
  have hN0 := fun o => heap_alloc_new w o
  have hgivT : ∀ V, Below w.heap.size w V → Giv F V rb fv ins bad (.slice (some ⟨b, o, none⟩) q c) (l.take q) := fun V hV => ⟨hg.pr.below hV, Strs.soft hg.fs (Soft.of_below hV), hsb2 V (hg.tk.below hV), k7, hg.sm.sub htk, by omega, hg.gy.below hV⟩
  have Htl := hid htl
  clear hlaw hlawE htl
  go_enter Tryz.func156, Tryz.ntmps156
  go_wp2_with fail
  refine (hop _ (hA _)).mono ?_
  rintro e w1 ⟨rfl, b1⟩
  have hB1 := (hA _).trans (b1.mono (hA _).size)
  have hR1 := (b1.block w.heap.size (by simp)).trans (hN0 _)
  have hsz1 : w.heap.size < w1.heap.size := (Array.getElem?_eq_some_iff.1 hR1).1
  have hcall := hO n (Nat.le_refl _) w1 rb fv ins bad _ _ (hgivT _ hB1) (by rw [Htl.out]; omega)
  clear hop hA hN0
  go_wp2_with fail
  refine hcall.mono ?_
  rintro e w2 ⟨bd1, xv, rv, x, r, rfl, an, fx, sb, rs, res⟩
  obtain ⟨vs, ve, vb, vc, rfl, x1, x2, x3, x4, x5⟩ := fx.ex
  have xform := And.intro x1.self.parts (And.intro x2.self.parts (And.intro x4.self.parts x5.self.parts))
  obtain ⟨⟨xa, xc, rfl, -⟩, ⟨xe, xec, rfl, -⟩, ⟨xb, xbc, rfl, -⟩, ⟨xk, xkc, rfl, -⟩⟩ := xform
  have sb2 := hsb2.trans sb
  obtain ⟨ra, rc, rfl⟩ := toks_parts (sb2 _ (hg.tk.below hB1))
  have hR2 := (an.fr.block w.heap.size hsz1 (by omega)).trans hR1
  have hsz2 := an.fr.size
  have hX2 := heap_alloc_new w2 (.cells #[.int .i64 x.kind, .string (bs x.name), .int .i64 x.val.kind, .slice xa x.val.shape.length xc, .slice xe x.val.elems.length xec, .int .i64 x.fn.kind, .int .i64 x.fn.f, .int .i64 x.fn.g, .string (bs x.fn.name), .slice xb x.fn.body.len xbc, .slice xk x.kids.len xkc] 36)
  clear hcall
  have hBx := (Below.refl _ w2).alloc (Nat.le_refl _) (.cells #[.int .i64 x.kind, .string (bs x.name), .int .i64 x.val.kind, .slice xa x.val.shape.length xc, .slice xe x.val.elems.length xec, .int .i64 x.fn.kind, .int .i64 x.fn.f, .int .i64 x.fn.g, .string (bs x.fn.name), .slice xb x.fn.body.len xbc, .slice xk x.kids.len xkc] 36)
  have hp3 := an.pr.below hBx
  have hf3 := ((Fr.of_below (rb := rb) hB1).trans an.fr).trans (Fr.of_below hBx)
  have hR3 := (hBx.block _ (Array.getElem?_eq_some_iff.1 hR2).1).trans hR2
  have hs3 := Soft.of_below hBx
  have hz3 : w2.heap.size < (w2.alloc (.cells #[.int .i64 x.kind, .string (bs x.name), .int .i64 x.val.kind, .slice xa x.val.shape.length xc, .slice xe x.val.elems.length xec, .int .i64 x.fn.kind, .int .i64 x.fn.f, .int .i64 x.fn.g, .string (bs x.fn.name), .slice xb x.fn.body.len xbc, .slice xk x.kids.len xkc] 36)).heap.size := by simp
  have y1 := x1.soft hs3
  have y2 := x2.soft hs3
  have y4 := x4.soft hs3
  have y5 := x5.soft hs3
  go_upto_region 3 with fail
  generalize w2.alloc (.cells #[.int .i64 x.kind, .string (bs x.name), .int .i64 x.val.kind, .slice xa x.val.shape.length xc, .slice xe x.val.elems.length xec, .int .i64 x.fn.kind, .int .i64 x.fn.f, .int .i64 x.fn.g, .string (bs x.fn.name), .slice xb x.fn.body.len xbc, .slice xk x.kids.len xkc] 36) = w3 at *
  clear x1 x2 x4 x5 fx hBx hR2 hs3 hR1 b1 an
  have hO4 : ∀ o1 o2, ((w3.alloc o1).alloc o2).heap[w3.heap.size]? = some o1 ∧ ((w3.alloc o1).alloc o2).heap[w3.heap.size + 1]? = some o2 := fun o1 o2 => ⟨(heap_alloc_old _ _ (by simp)).trans (heap_alloc_new _ _), by have := heap_alloc_new (w3.alloc o1) o2; simpa using this⟩
  have hB4 : ∀ o1 o2, Below w3.heap.size w3 ((w3.alloc o1).alloc o2) := fun o1 o2 => ((Below.refl _ w3).alloc (Nat.le_refl _) o1).alloc (by simp) o2
  go_upto_region 4 with (refine wpList_load_rowE rfl 36 _ rfl w2.heap.size rfl 36 _ _ _ hX2 Tryz.underlying36 rfl (by kernel_rfl) ?_; go_simp)
  obtain ⟨hK4, hU4⟩ := hO4 (.cells #[.int .i64 x.kind, .string (bs x.name), .int .i64 x.val.kind, .slice xa x.val.shape.length xc, .slice xe x.val.elems.length xec, .int .i64 x.fn.kind, .int .i64 x.fn.f, .int .i64 x.fn.g, .string (bs x.fn.name), .slice xb x.fn.body.len xbc, .slice xk x.kids.len xkc] 36) (.cells #[.int .i64 7, .string ⟨#[]⟩, .int .i64 0, .slice none 0 0, .slice none 0 0, .int .i64 0, .int .i64 0, .int .i64 0, .string ⟨#[]⟩, .slice none 0 0, .slice (some ⟨w3.heap.size, 0, none⟩) 1 1] 36)
  have hb4 := hB4 (.cells #[.int .i64 x.kind, .string (bs x.name), .int .i64 x.val.kind, .slice xa x.val.shape.length xc, .slice xe x.val.elems.length xec, .int .i64 x.fn.kind, .int .i64 x.fn.f, .int .i64 x.fn.g, .string (bs x.fn.name), .slice xb x.fn.body.len xbc, .slice xk x.kids.len xkc] 36) (.cells #[.int .i64 7, .string ⟨#[]⟩, .int .i64 0, .slice none 0 0, .slice none 0 0, .int .i64 0, .int .i64 0, .int .i64 0, .string ⟨#[]⟩, .slice none 0 0, .slice (some ⟨w3.heap.size, 0, none⟩) 1 1] 36)
  clear hO4 hB4
  generalize (w3.alloc (.cells #[.int .i64 x.kind, .string (bs x.name), .int .i64 x.val.kind, .slice xa x.val.shape.length xc, .slice xe x.val.elems.length xec, .int .i64 x.fn.kind, .int .i64 x.fn.f, .int .i64 x.fn.g, .string (bs x.fn.name), .slice xb x.fn.body.len xbc, .slice xk x.kids.len xkc] 36)).alloc (.cells #[.int .i64 7, .string ⟨#[]⟩, .int .i64 0, .slice none 0 0, .slice none 0 0, .int .i64 0, .int .i64 0, .int .i64 0, .string ⟨#[]⟩, .slice none 0 0, .slice (some ⟨w3.heap.size, 0, none⟩) 1 1] 36) = w4 at *
  have hp4 := hp3.below hb4
  have hf4 := hf3.trans (Fr.of_below hb4)
  have hs4 := soft_of hg.pr hp4 hf4
  have hR4 := (hb4.block _ (Array.getElem?_eq_some_iff.1 hR3).1).trans hR3
  have hrow4 : w4.ownsRow w3.heap.size 36 11 (.slice (some ⟨w3.heap.size, 0, none⟩) 1 1) 1 (exL x (.slice xa x.val.shape.length xc) (.slice xe x.val.elems.length xec) (.slice xb x.fn.body.len xbc) (.slice xk x.kids.len xkc)) :=
    ⟨rfl, .inr ⟨w3.heap.size, 1, _, rfl, Nat.le_refl _, hK4, Nat.le_refl _, by simp [maxLen], rfl, rfl⟩⟩
  have hseg : segV (some ⟨b, o, none⟩) c (q + 1, l.length - 1) = .slice (some ⟨b, o + (q + 1) * 5, none⟩) (l.length - 1 - (q + 1)) (c - (q + 1)) := by unfold segV; simp only; rw [if_neg (by omega)]; rfl
  rw [hseg] at hsb1
  have hsb0 := hsb1
  have hparts := parts_rows3 _ _ gSemi _ rfl w4 (hsb1 _ (toks_soft hg.tk hs4)) (by omega)
  have hwq : IntKind.i64.wrap ((q : Int) + 1) = (q : Int) + 1 := IntWalk.i64_in _ (by omega)
  have hwl : IntKind.i64.wrap ((l.length : Int) - 1) = ((l.length - 1 : Nat) : Int) := by rw [show (l.length : Int) - 1 = ((l.length - 1 : Nat) : Int) by omega]; exact IntWalk.i64_in _ (by omega)
  have hq4 : (0 : Int) ≤ (q : Int) + 1 := by omega
  have hq5 : (q : Int) + 1 ≤ ((l.length - 1 : Nat) : Int) := by omega
  have hq6 : ((l.length - 1 : Nat) : Int) ≤ (c : Int) := by omega
  have hcq : ¬ c = q + 1 := by omega
  clear hseg hR3 hp3 hf3
  go_wp2_with fail
  refine hparts.mono ?_
  rintro e w5 ⟨⟨pa, pc, rfl, hrow⟩, b5⟩
  have hp5 := hp4.below b5
  have hf5 := hf4.trans (Fr.of_below b5)
  have hR5 := (b5.block _ (Array.getElem?_eq_some_iff.1 hR4).1).trans hR4
  have hU5 := (b5.block _ (Array.getElem?_eq_some_iff.1 hU4).1).trans hU4
  have hrow5 := owns_below hrow4 b5
  have hz4 : w3.heap.size + 1 < w4.heap.size := (Array.getElem?_eq_some_iff.1 hU4).1
  have hs35 : Soft w3 w5 := (Soft.of_below hb4).trans (Soft.of_below b5)
  have hyo : ∀ k, Up w1.heap.size k → k < w3.heap.size → w.heap.size < k ∧ k ≠ w3.heap.size + 1 ∧ (Value.slice (some ⟨w3.heap.size, 0, none⟩) 1 1).ownBlock ≠ some k := fun k h1 h2 => by
    unfold Up at h1
    exact ⟨by omega, by omega, fun e => Nat.lt_irrefl k (by have e2 : w3.heap.size = k := (Option.some.inj e); omega)⟩
  have hcells : Cells (fun b => w.heap.size < b ∧ b ≠ w3.heap.size + 1 ∧ (Value.slice (some ⟨w3.heap.size, 0, none⟩) 1 1).ownBlock ≠ some b) w5 (chainE [x]) [exL x (.slice xa x.val.shape.length xc) (.slice xe x.val.elems.length xec) (.slice xb x.fn.body.len xbc) (.slice xk x.kids.len xkc)] :=
    .ex x _ _ _ _ .nil [] (y1.young hs35 hyo) (y2.young hs35 hyo) x3 (y4.young hs35 hyo) (y5.young hs35 hyo) .nil
  have hnp := need_parts gSemi (l.dropLast.drop (q + 1))
  have hst := AxesSt.start F n ins bd1 (partsF (l.dropLast.drop (q + 1)) gSemi) (by omega)
  have hmem : ∀ p ∈ partsF (l.dropLast.drop (q + 1)) gSemi, Dyck p ∧ p ⊆ l ∧ p.length + 2 ≤ l.length := fun p hp => ⟨parts_dyck wt_semi k6 p hp, fun z hz => his (part_sub hp hz), by have := part_le hp; omega⟩
  have hplen := parts_count gSemi (l.dropLast.drop (q + 1))
  have hlawN := Hlaw.out
  generalize partsF (l.dropLast.drop (q + 1)) gSemi = P at *
  obtain ⟨lawA, hlA⟩ : ∃ r, axesF F n ins P = r := ⟨_, rfl⟩
  rw [hlA] at hst hlawN
  have Hst := hid hst
  have HlawN := hid hlawN
  clear hlA hst hlawN Hlaw hparts hrow4 hU4 hR4 hp4 hf4 hs4 hb4 hK4 hnp hwq hwl hq4 hq5 hq6 hcq hgivT y1 y2 y4 y5 hX2 hs35 hyo
  go_wp2_with fail
  go_loopw [34] (fun vi wr => IndexR F n ins bd1 lawA w w5 rb w3.heap.size w4.heap.size fv x P vi wr) (fun vi _ => P.length - (intOf vi).toNat)
  case atStart => exact ⟨0, bd1, [], _, _, Nat.zero_le _, rfl, Nat.le_refl _, ⟨hp5, hf5, Nat.le_refl _, rfl, hU5, by simpa using hrow5, (fun e => Nat.lt_irrefl w3.heap.size (by have e2 : w3.heap.size = w3.heap.size + 1 := (Option.some.inj e); omega)), (fun j e => .inl (by have e2 : w3.heap.size = j := (Option.some.inj e); omega)), hcells, fun _ _ _ => rfl⟩, Hst⟩
  case round =>
    obtain ⟨k, bo, xs, us, kv, hk, rfl, hxs, hI, hS⟩ := hrel
    have hp := hI.pr
    have hf := hI.fr
    have hU := hI.hU
    have hown := hI.own
    have hold := hI.old
    obtain ⟨oa, oc, rfl⟩ := own_slice hown
    have hsz := hI.sz
    have hKw := (Array.getElem?_eq_some_iff.1 hU).1
    have hIC : IdxC w w5 rb w3.heap.size w4.heap.size := ⟨hlt, by omega, hz4, b5.size⟩
    by_cases hlt2 : k < P.length
    · obtain ⟨p, hpk⟩ : ∃ p, P[k]? = some p := ⟨_, List.getElem?_eq_getElem hlt2⟩
      obtain ⟨gb, pv, rfl, hgb, gc, gs⟩ := hrow k p hpk
      have hgl := World.block_lt_of_cell? w5 _ gc
      have gc2 := (World.cell?_of_block (w := w5) (hold gb hgb hgl)).trans gc
      have hsr := soft_of hg.pr hp hf
      have gt := gs _ (hsb0 _ (toks_soft hg.tk hsr))
      obtain ⟨ta, tc, rfl⟩ := toks_parts gt
      have hpm := hmem p (List.mem_of_getElem? hpk)
      have hki : (k : Int) < (P.length : Int) := by omega
      have hdr : P.drop k = p :: P.drop (k + 1) := by
        obtain ⟨hl, e⟩ := List.getElem?_eq_some_iff.1 hpk
        rw [List.drop_eq_getElem_cons hl, e]
      rw [hdr] at hS
      clear hdr hpk gc
      cases p with
      | nil =>
        rw [List.length_nil] at gc2
        obtain ⟨m, hm1, hm2, hm3⟩ := hS.out.fuel (by simp; omega)
        have hSt := hid (hm3 bo ⟨8, [], noArr, noFn, .nil⟩ (Res.some (by unfold axisF; rw [if_pos rfl]) bo))
        have c10 := (ex_facts hU).1.2.2.2.2.2.2.2.2.2.2
        have cn : ∀ o, (wr.alloc o).cell? ⟨w3.heap.size + 1, 10, none⟩ = some (.slice oa (xs.length + 1) oc) := fun o => (((Below.refl _ wr).alloc (Nat.le_refl _) o).cell (p := ⟨w3.heap.size + 1, 10, none⟩) (World.block_lt_of_cell? wr _ c10)).trans c10
        clear hm1 hm2 hm3 hS hp hf
        go_upto_region 8 with fail
        go_wp2_with (at_builtin; go_must (refine wpList_append_own_at _ rfl _ _ 34 rfl w3.heap.size 36 i0 (.agg #[.int .i64 0, .string ⟨#[]⟩, .int .i64 0, .slice none 0 0, .slice none 0 0, .int .i64 0, .int .i64 0, .int .i64 0, .string ⟨#[]⟩, .slice none 0 0, .slice none 0 0]) 11 168 Tryz.underlying34 hi hz0 hz1 hz2 rfl (by decide) _ _ _ rfl (hown.alloc _) ⟨wr.heap.size, 0, none⟩ 1 1 [.int .i64 8, .string ⟨#[]⟩, .int .i64 0, .slice none 0 0, .slice none 0 0, .int .i64 0, .int .i64 0, .int .i64 0, .string ⟨#[]⟩, .slice none 0 0, .slice none 0 0] rfl rfl (row_new wr _ 36) (by simp [Value.oneCell']) (by simp [maxLen]; omega) (by omega) (by simp; omega) ?_); intro v' w6 hown' hgrow _ hat; obtain ⟨g', cap', rfl⟩ := ownsRow_succ hown'; obtain ⟨⟨r0, r1, r2, r3, r4, r5, r6, r7, r8, r9, r10⟩, ⟨z0, z1, z2, z3, z4, z5, z6, z7, z8, z9, z10⟩⟩ := ex_facts ((hgrow.block (w3.heap.size + 1) (by simp; omega) (fun e => hI.kvn e.symm)).trans ((heap_alloc_old wr _ hKw).trans hU)))
        go_roundw
        case rel =>
          refine ⟨k + 1, bo, xs ++ [⟨8, [], noArr, noFn, .nil⟩], us ++ [exL ⟨8, [], noArr, noFn, .nil⟩ (.slice none 0 0) (.slice none 0 0) (.slice none 0 0) (.slice none 0 0)], .slice (some ⟨g', 0, none⟩) (xs.length + 1 + 1) cap', by omega, by go_num, by simp; omega, ?_, hSt⟩
          have hBa := (Below.refl _ wr).alloc (Nat.le_refl _) (.cells #[.int .i64 8, .string ⟨#[]⟩, .int .i64 0, .slice none 0 0, .slice none 0 0, .int .i64 0, .int .i64 0, .int .i64 0, .string ⟨#[]⟩, .slice none 0 0, .slice none 0 0] 36)
          exact (hI.go hIC (hI.pr.below hBa) (Fr.of_below hBa)).put hIC (y := ⟨8, [], noArr, noFn, .nil⟩) hown' hgrow hat (Fresh.ints0 _ _) (Fresh.ints0 _ _) (fun i hi => by simp [noArr] at hi) (Fresh.nil _ _) (Fresh.nil _ _)
        case measure => simp [intOf]; omega
      | cons t0 p =>
        rw [List.length_cons] at gc2
        have hl1 : (((p.length + 1 : Nat) : Int) == 0) = false := by rw [beq_eq_false_iff_ne]; omega
        have hpl := hpm.2.2
        obtain ⟨m, hm1, hm2, hm3⟩ := hS.out.fuel (by omega)
        have Hm3 := hid (fun bo2 x (h : Res bo bo2 (exprF F m ins (t0 :: p)) x) => hm3 bo2 x (by unfold axisF; rw [if_neg (by simp)]; exact h))
        have g0 := Below.refl wr.heap.size wr
        have rC : ∀ V, Below wr.heap.size wr V → Calls Tryz.prog 82 #[.pointer (some ⟨rb, 0, none⟩), .slice ta (p.length + 1) tc] V fun e w' => ExprA V w' rb fv ins bo (exprF F m ins (t0 :: p)) e := fun V hV =>
          hE m hm2 V rb fv ins bo _ _ ⟨hp.below hV, Strs.soft hg.fs (hsr.trans (Soft.of_below hV)), toks_soft gt (Soft.of_below hV), hpm.1, hg.sm.sub hpm.2.1, by omega, hg.gy.soft (hsr.trans (Soft.of_below hV))⟩ hm1
        have c10 := (ex_facts hU).1.2.2.2.2.2.2.2.2.2.2
        have c10d : wr.drew.cell? ⟨w3.heap.size + 1, 10, none⟩ = some (.slice oa (xs.length + 1) oc) := c10
        clear hm1 hm2 hm3 hS hf
        go_upto_region 9 with fail
        go_region_law (first
          | (go_simp; go_at_call 82; refine (rC _ g0.drew).mono ?_; rintro e v1 ⟨bd2, yv, y, rfl, an1, fy, rs1⟩; obtain ⟨yvs, yve, yvb, yvc, rfl, y1, y2, y3, y4, y5⟩ := fy.ex; have yform := And.intro y1.self.parts (And.intro y2.self.parts (And.intro y4.self.parts y5.self.parts)); obtain ⟨⟨ya, yc, rfl, -⟩, ⟨ye, yec, rfl, -⟩, ⟨yb, ybc, rfl, -⟩, ⟨yk, ykc, rfl, -⟩⟩ := yform
             have hI1 := hI.go hIC an1.pr ((Fr.of_below (rb := rb) g0.drew).trans an1.fr)
             have hU1 := hI1.hU
             have hKv := (Array.getElem?_eq_some_iff.1 hU1).1
             have c10v := (ex_facts hU1).1.2.2.2.2.2.2.2.2.2.2
             have c10n := fun O => (ex_facts ((heap_alloc_old v1 O hKv).trans hU1)).1.2.2.2.2.2.2.2.2.2.2)
          | (refine step_append_lies _ (by rfl) _ _ _ (by rfl) w3.heap.size 36 i0 (.agg #[.int .i64 0, .string ⟨#[]⟩, .int .i64 0, .slice none 0 0, .slice none 0 0, .int .i64 0, .int .i64 0, .int .i64 0, .string ⟨#[]⟩, .slice none 0 0, .slice none 0 0]) 11 168 Tryz.underlying34 hi hz0 hz1 hz2 rfl (by decide) (.slice oa (xs.length + 1) oc) (xs.length + 1) us.flatten (by rfl) (hI1.own.alloc _) ⟨v1.heap.size, 0, none⟩ 1 1 [.int .i64 y.kind, .string (bs y.name), .int .i64 y.val.kind, .slice ya y.val.shape.length yc, .slice ye y.val.elems.length yec, .int .i64 y.fn.kind, .int .i64 y.fn.f, .int .i64 y.fn.g, .string (bs y.fn.name), .slice yb y.fn.body.len ybc, .slice yk y.kids.len ykc] (by rfl) (by rfl) (row_new v1 _ 36) (by simp [Value.oneCell']) (by omega) (by simp [maxLen]; omega) (by omega) (by simp; omega) _ rfl ?_
             intro g' cap' w6 hown' hgrow hat hlt3
             obtain ⟨⟨r0, r1, r2, r3, r4, r5, r6, r7, r8, r9, r10⟩, ⟨z0, z1, z2, z3, z4, z5, z6, z7, z8, z9, z10⟩⟩ := ex_facts ((hgrow.block (w3.heap.size + 1) (by simp; omega) (fun e => hI1.kvn e.symm)).trans ((heap_alloc_old v1 _ hKv).trans hU1))))
        all_goals
          go_wp2_with fail
          go_roundw
          case rel =>
            refine ⟨k + 1, bd2, xs ++ [y], us ++ [exL y (.slice ya y.val.shape.length yc) (.slice ye y.val.elems.length yec) (.slice yb y.fn.body.len ybc) (.slice yk y.kids.len ykc)], .slice (some ⟨g', 0, none⟩) (xs.length + 1 + 1) cap', by omega, by go_num, by simp; omega, ?_, hid (Hm3.out bd2 y rs1)⟩
            have hBa := (Below.refl _ v1).alloc (Nat.le_refl _) (.cells #[.int .i64 y.kind, .string (bs y.name), .int .i64 y.val.kind, .slice ya y.val.shape.length yc, .slice ye y.val.elems.length yec, .int .i64 y.fn.kind, .int .i64 y.fn.f, .int .i64 y.fn.g, .string (bs y.fn.name), .slice yb y.fn.body.len ybc, .slice yk y.kids.len ykc] 36)
            have hsA := Soft.of_below hBa
            have hw0 := hI.fr.size
            have hw : ∀ j, Up wr.drew.heap.size j → w.heap.size < j ∧ j ≠ w3.heap.size + 1 ∧ (Value.slice oa (xs.length + 1) oc).ownBlock ≠ some j := fun j hj => by
              have hj2 : wr.heap.size ≤ j := hj
              have hc1 := hIC.b
              exact ⟨by omega, by omega, fun e => by have := (hI.own.lt j e).2; omega⟩
            exact (hI1.go hIC (hI1.pr.below hBa) (Fr.of_below hBa)).put hIC (y := y) hown' hgrow (hat.elim (fun h => .inl h.symm) (fun h => .inr (congrArg some h))) ((y1.weak hw).soft hsA) ((y2.weak hw).soft hsA) y3 ((y4.weak hw).soft hsA) ((y5.weak hw).soft hsA)
          case measure => simp [intOf]; omega
    · have hS2 := hS.out
      rw [List.drop_eq_nil_of_le (by omega)] at hS2
      have hRd := hS2.done
      have hRr := hI.hR.trans hR5
      have hcl := hI.cl
      have hKs := hcl.own (S2 := fun b => w.heap.size < b) (fun b hb => hb.1) hown (by rw [chainE_len]; rfl) (fun b hb => by omega)
      have hfin : ∀ wf, Oth w.heap.size wr wf → OperA w wf rb fv ins bad (.slice (some ⟨b, o, none⟩) l.length c) l law (.returned (.tuple #[.agg #[.int .i64 7, .string ⟨#[]⟩, .int .i64 0, .slice none 0 0, .slice none 0 0, .int .i64 0, .int .i64 0, .int .i64 0, .string ⟨#[]⟩, .slice none 0 0, .slice oa (xs.length + 1) oc], .slice ra r.length rc])) := fun wf ho =>
        ⟨bo, _, _, ⟨7, [], noArr, noFn, x.cons (chainE xs)⟩, r, rfl, ⟨ho.pr hp (by omega), ho.fr hf (Nat.le_refl _)⟩,
          ((Fresh.mkEx (x := ⟨7, [], noArr, noFn, x.cons (chainE xs)⟩) (Fresh.ints0 _ _) (Fresh.ints0 _ _) (fun i hi => by simp [noArr] at hi) (Fresh.nil _ _) hKs).softF (ho.soft (fun h => Nat.lt_irrefl _ h))).weak (fun k hk => Nat.le_of_lt hk),
          sb2, ⟨rs.dy, by have := rs.le; have := Htl.out; omega, fun z hz => htk (rs.sub hz)⟩, Res.two res hRd (fun (p : Ex × List Tok) t => (⟨7, [], noArr, noFn, p.1.cons t⟩, p.2)) (HlawN.out.trans (by cases operandF F n ins (l.take q) <;> cases lawA <;> rfl))⟩
      have Hfin := hid hfin
      clear hfin hKs hRd hS2 hcl hown
      go_wp2_with (first
        | (refine wpList_load_rowE rfl 36 _ rfl (w3.heap.size + 1) rfl 36 _ _ _ hU Tryz.underlying36 rfl (by kernel_rfl) ?_; go_simp)
        | (refine wpList_store_row rfl 36 _ _ rfl w.heap.size _ rfl rfl 36 _ hRr (by kernel_rfl) (by kernel_rfl) (by kernel_rfl) ?_; go_simp))
      refine bodyPost_ret (results_row_tmp rfl _ _ w.heap.size _ _ _ _ rfl (setRow_heap wr w.heap.size _ #[.int .i64 7, .string ⟨#[]⟩, .int .i64 0, .slice none 0 0, .slice none 0 0, .int .i64 0, .int .i64 0, .int .i64 0, .string ⟨#[]⟩, .slice none 0 0, .slice oa (xs.length + 1) oc] _ _ hRr) Tryz.underlying36 rfl (by kernel_rfl)) rfl ?_
      exact Hfin.out _ ((Oth.refl _ _).row _)
end Go.Proofs.YthlingdlehdlhaaGreatDoor.Par
