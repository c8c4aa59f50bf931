/- The reference's reader: what is answered; operands by places.
   The reference's reader: operands. -/
import Derived.Test.YthlingdlehdlhaaGreatDoorRLeaf
import Derived.Test.YthlingdlehdlhaaGreatDoorRNm
import Derived.Deep.Cut
import Derived.StillTailTactics
import Derived.Maps.AppendAt
namespace Go.Proofs.YthlingdlehdlhaaGreatDoor.Par
open Go.RowKit Go.Shelf
set_option linter.unusedVariables false
set_option linter.unusedSimpArgs false

theorem results_row_tmp2 {P : Program} {fn : Func} {p u v : Tmp} {ty : TypeId} (h : fn.results = #[.cell p ty, .tmp u, .tmp v]) (tmps : Array Value) (w : World) (g : Nat) (t : TypeId) (cs : Array Value) (fr : Nat × Nat) (d : TypeDesc)
    (hp : tmps.getD p undef = .pointer (some ⟨g, 0, none⟩)) (hg : w.heap[g]? = some (.cells cs t fr))
    (hu : P.underlying ty = some d) (hd : (match d with | .struct _ | .array _ _ => true | _ => false) = true) (hi : (P.info? ty).map (·.size) = some cs.size) :
    (results fn tmps).run P w = .ok (.tuple #[.agg cs, tmps.getD u undef, tmps.getD v undef]) w := by
  have key : (results fn tmps).run P w = ((asAddr (tmps.getD p undef)).run P w).andThen fun a w₁ => ((loadVar ty a).run P w₁).andThen fun x w₂ => .ok (.tuple #[x, tmps.getD u undef, tmps.getD v undef]) w₂ := by
    simp only [results, h]
    simp [Sem.run_bind, Result.andThen]
  rw [key, hp]
  simp [asAddr, Result.andThen, run_loadVar_row w g t ty cs fr d hg hu hd hi]

/-- What the whole reading is given: tokens, and where their brackets match. -/
structure RCx (T : List Tok) (A : List Nat) (F : List (List UInt8)) : Prop where
  ok : AtOK T A
  gd : ∀ t ∈ T, Good t
  sm : Small T
  le : T.length ≤ 8000000
  fl : F.length ≤ 8000000
/-- What is answered of an operand, a function, an expression, lines, a line. -/
def PlA (T : List Tok) (a b : Nat) {α : Type} (law : Option (α × List Tok)) (x : α) (p : Nat) (ok : Bool) : Prop :=
  (ok = false ∧ law = none) ∨ (ok = true ∧ law = some (x, sg T a p) ∧ a ≤ p ∧ p < b ∧ Dyck (sg T a p))
def LaA {α : Type} (law : Option α) (x : α) (ok : Bool) : Prop := (ok = false ∧ law = none) ∨ (ok = true ∧ law = some x)
def ROperA (w w' : World) (T : List Tok) (a b : Nat) (law : Option (Ex × List Tok)) (e : Ending) : Prop :=
  ∃ xv x p ok, e = .returned (.tuple #[xv, .int .i64 ((p : Nat) : Int), .bool ok]) ∧ Below w.heap.size w w' ∧ Fresh (Up w.heap.size) w' (IsE · xv x) ∧ PlA T a b law x p ok
def RFunA (w w' : World) (T : List Tok) (a b : Nat) (law : Option (Fn × List Tok)) (e : Ending) : Prop :=
  ∃ xv x p ok, e = .returned (.tuple #[xv, .int .i64 ((p : Nat) : Int), .bool ok]) ∧ Below w.heap.size w w' ∧ Fresh (Up w.heap.size) w' (IsF · xv x) ∧ PlA T a b law x p ok
def RExprA (w w' : World) (law : Option Ex) (e : Ending) : Prop :=
  ∃ xv x ok, e = .returned (.tuple #[xv, .bool ok]) ∧ Below w.heap.size w w' ∧ Fresh (Up w.heap.size) w' (IsE · xv x) ∧ LaA law x ok
def RLinesA (w w' : World) (law : Option Tr) (e : Ending) : Prop :=
  ∃ xv x ok, e = .returned (.tuple #[xv, .bool ok]) ∧ Below w.heap.size w w' ∧ Fresh (Up w.heap.size) w' (IsTs · xv x) ∧ LaA law x ok
def RLineA (w w' : World) (law : Option Ln) (e : Ending) : Prop :=
  ∃ xv x ok, e = .returned (.tuple #[xv, .bool ok]) ∧ Below w.heap.size w w' ∧ Fresh (Up w.heap.size) w' (IsLn · xv x) ∧ LaA law x ok
section
variable (T : List Tok) (A : List Nat) (F : List (List UInt8)) (n : Nat)
def ROperC : Prop := ∀ (w : World) (vx : Value) (a b : Nat) (ins : Bool), IsX w vx T A F → b ≤ T.length → Dyck (sg T a b) → 8 * (b - a) + 1 ≤ n →
  Calls Tryz.prog 87 #[vx, .int .i64 (a : Int), .int .i64 (b : Int), .bool ins] w fun e w' => ROperA w w' T a b (operandF F n ins (sg T a b)) e
def RFunC : Prop := ∀ (w : World) (vx : Value) (a b : Nat) (ins : Bool), IsX w vx T A F → a < b → b ≤ T.length → Dyck (sg T a b) → 8 * (b - a) + 1 ≤ n →
  Calls Tryz.prog 88 #[vx, .int .i64 (a : Int), .int .i64 (b : Int), .bool ins] w fun e w' => RFunA w w' T a b (functionF F n ins (sg T a b)) e
def RExprC : Prop := ∀ (w : World) (vx : Value) (a b : Nat) (ins : Bool), IsX w vx T A F → a ≤ b → b ≤ T.length → Dyck (sg T a b) → 8 * (b - a) + 3 ≤ n →
  Calls Tryz.prog 37 #[vx, .int .i64 (a : Int), .int .i64 (b : Int), .bool ins] w fun e w' => RExprA w w' (exprF F n ins (sg T a b)) e
def RLinesC : Prop := ∀ (w : World) (vx : Value) (a b : Nat), IsX w vx T A F → a ≤ b → b ≤ T.length → Dyck (sg T a b) → 8 * (b - a) + 8 ≤ n →
  Calls Tryz.prog 39 #[vx, .int .i64 (a : Int), .int .i64 (b : Int)] w fun e w' => RLinesA w w' (linesF F n (sg T a b)) e
def RLineC : Prop := ∀ (w : World) (vx : Value) (a b : Nat), IsX w vx T A F → a ≤ b → b ≤ T.length → Dyck (sg T a b) → 8 * (b - a) + 4 ≤ n →
  Calls Tryz.prog 92 #[vx, .int .i64 (a : Int), .int .i64 (b : Int)] w fun e w' => RLineA w w' (lineF F n (sg T a b)) e
end
theorem zeroE_fresh (base : Nat → Prop) (w : World) : Fresh base w (IsE · (.agg #[.int .i64 0, .string ⟨#[]⟩, .int .i64 0, .slice none 0 0, .slice none 0 0, .int .i64 0, .int .i64 0, .int .i64 0, .string ⟨#[]⟩, .slice none 0 0, .slice none 0 0]) ⟨0, [], noArr, noFn, .nil⟩) :=
  Fresh.mkEx (x := ⟨0, [], noArr, noFn, .nil⟩) (Fresh.ints0 _ _) (Fresh.ints0 _ _) (fun i hi => by simp [noArr] at hi) (Fresh.nil _ _) (Fresh.nil _ _)
theorem roper_mk {w W wf : World} {R : Nat} {T : List Tok} {a b p : Nat} {law : Option (Ex × List Tok)} {xv : Value} {x : Ex} {ok : Bool} (hb : Below w.heap.size w W) (ho : Oth R W wf) (hR : w.heap.size ≤ R) (hf : Fresh (fun k => R < k) W (IsE · xv x)) (h : PlA T a b law x p ok) :
    ROperA w wf T a b law (.returned (.tuple #[xv, .int .i64 ((p : Nat) : Int), .bool ok])) :=
  ⟨xv, x, p, ok, rfl, ho.below hb hR, (hf.softF (ho.soft (fun h => Nat.lt_irrefl _ h))).weak (fun k hk => Nat.le_trans hR (Nat.le_of_lt hk)), h⟩
theorem at_get {w : World} {a : Option Addr} {n c : Nat} {A : List Nat} (h : Ints w (.slice a n c) (A.map fun n : Nat => (n : Int))) {i m : Nat} (hi : A[i]? = some m) : ∃ ab ao, a = some ⟨ab, ao, none⟩ ∧ w.cell? ⟨ab, ao + i, none⟩ = some (.int .i64 (m : Int)) := by
  obtain ⟨a', c', e, l1, l2, l3, l4⟩ := h
  injection e with e1 e2 e3
  subst e1
  obtain ⟨ab, ao, e4, hc⟩ := l4 i (by rw [List.length_map, List.length_map]; have := (List.getElem?_eq_some_iff.1 hi).1; omega)
  refine ⟨ab, ao, e4, ?_⟩
  rw [hc, List.getElem_map, List.getElem_map]
  have := (List.getElem?_eq_some_iff.1 hi).2
  rw [this]
section
variable {T : List Tok} {A : List Nat} {F : List (List UInt8)} {a b m : Nat} {t : Tok}
theorem pla_one {α : Type} {law : Option (α × List Tok)} {x : α} (hbm : b = m + 1) (hab : a < b) (hbT : b ≤ T.length) (ht : T[m]? = some t) (hw : wt t = 0) (hd : Dyck (sg T a b)) (hl : law = some (x, sg T a (b - 1))) : PlA T a b law x m true := by
  subst hbm
  exact .inr ⟨rfl, hl, by omega, by omega, init_sg hd hab hbT ht hw⟩
theorem pla_if {α : Type} {law : Option (α × List Tok)} {x : α} {ins : Bool} (hbm : b = m + 1) (hab : a < b) (hbT : b ≤ T.length) (ht : T[m]? = some t) (hw : wt t = 0) (hd : Dyck (sg T a b)) (hl : law = if ins = true then some (x, sg T a (b - 1)) else none) : PlA T a b law x m ins := by
  cases ins with
  | false => exact .inl ⟨rfl, by rw [hl]; rfl⟩
  | true => exact pla_one hbm hab hbT ht hw hd (by rw [hl]; rfl)
theorem ro_paren2 (hA : AtOK T A) (n : Nat) (ins : Bool) (hbm : b = m + 1) (hab : a < b) (hbT : b ≤ T.length) (ht : T[m]? = some t) (hd : Dyck (sg T a b)) (hg : isG t gRP = true) :
    ∃ o, A[m]? = some o ∧ a ≤ o ∧ o < m ∧ Dyck (sg T a o) ∧ Dyck (sg T (o + 1) m) ∧ operandF F (n + 1) ins (sg T a b) = match exprF F n ins (sg T (o + 1) m) with | none => none | some x => some (x, sg T a o) := by
  subst hbm
  obtain ⟨o, h1, h2, h3, h4, h5, h6, h7⟩ := shut_sg hA hd hab hbT (t := t) ht (wt_rp hg)
  exact ⟨o, h1, h2, h3, h4, h5, ro_paren F n ins hab hbT ht hg h6 h7⟩
theorem ro_brack2 (hA : AtOK T A) (n : Nat) (ins : Bool) (hbm : b = m + 1) (hab : a < b) (hbT : b ≤ T.length) (ht : T[m]? = some t) (hd : Dyck (sg T a b)) (hg : isG t gRB = true) :
    ∃ o, A[m]? = some o ∧ a ≤ o ∧ o < m ∧ Dyck (sg T a o) ∧ Dyck (sg T (o + 1) m) ∧ operandF F (n + 1) ins (sg T a b) = match operandF F n ins (sg T a o) with | none => none | some (x, r) => match axesF F n ins (partsF (sg T (o + 1) m) gSemi) with | none => none | some k => some (⟨7, [], noArr, noFn, x.cons k⟩, r) := by
  subst hbm
  obtain ⟨o, h1, h2, h3, h4, h5, h6, h7⟩ := shut_sg hA hd hab hbT (t := t) ht (wt_rb hg)
  exact ⟨o, h1, h2, h3, h4, h5, ro_brack F n ins hab hbT ht hg h6 h7⟩
theorem LaA.paren {α : Type} {la : Option α} {law : Option (α × List Tok)} {x : α} {ok : Bool} {o : Nat} (h : LaA la x ok) (e0 : la = none → law = none) (e1 : ∀ x, la = some x → law = some (x, sg T a o)) (h1 : a ≤ o) (h2 : o < b) (h3 : Dyck (sg T a o)) : PlA T a b law x o ok := by
  rcases h with ⟨rfl, h⟩ | ⟨rfl, h⟩
  · exact .inl ⟨rfl, e0 h⟩
  · exact .inr ⟨rfl, e1 _ h, h1, h2, h3⟩
end
theorem bound_at : ∀ (out : List (Nat × Nat)) (k : Nat) (p : Nat × Nat), out[k]? = some p → (out.map boundC).flatten[k * 2]? = some (.int .i64 (p.1 : Int)) ∧ (out.map boundC).flatten[k * 2 + 1]? = some (.int .i64 (p.2 : Int))
  | [], _, _, h => by simp at h
  | q :: r, 0, p, h => by simp at h; subst h; exact ⟨rfl, rfl⟩
  | q :: r, k + 1, p, h => by
    have := bound_at r k p (by simpa using h)
    rw [show (k + 1) * 2 = k * 2 + 1 + 1 by omega]
    simpa [boundC] using this
/-- Parts' bounds, as cells. -/
def PartsAt (w : World) (base : Nat) (v : Value) (out : List (Nat × Nat)) : Prop := ∃ g c, v = .slice (some ⟨g, 0, none⟩) out.length c ∧ base ≤ g ∧ g < w.heap.size ∧ ∀ k p, out[k]? = some p → w.cell? ⟨g, k * 2, none⟩ = some (.int .i64 (p.1 : Int)) ∧ w.cell? ⟨g, k * 2 + 1, none⟩ = some (.int .i64 (p.2 : Int))
theorem parts_at {w : World} {base : Nat} {v : Value} {out : List (Nat × Nat)} (h : w.ownsRow base 136 2 v out.length (out.map boundC).flatten) (hne : out ≠ []) : PartsAt w base v out := by
  have hc := fun g (hg : v.ownBlock = some g) => h.cells hg
  have hl := fun g (hg : v.ownBlock = some g) => h.lt g hg
  obtain ⟨g, c, hv⟩ : ∃ g c, v = .slice (some ⟨g, 0, none⟩) out.length c := by
    rcases h.2 with h | ⟨g, cap, cur, e, -⟩
    · exact absurd (List.eq_nil_of_length_eq_zero h.2) hne
    · exact ⟨g, cap, e⟩
  subst hv
  refine ⟨g, c, rfl, (hl g rfl).1, (hl g rfl).2, fun k p hk => ?_⟩
  obtain ⟨h1, h2⟩ := bound_at out k p hk
  have q1 := hc g rfl _ _ h1
  have q2 := hc g rfl _ _ h2
  rw [Addr.add_lit, Nat.zero_add] at q1 q2
  exact ⟨q1, q2⟩
end Go.Proofs.YthlingdlehdlhaaGreatDoor.Par

namespace Go.Proofs.YthlingdlehdlhaaGreatDoor.Par
open Go.RowKit Go.Shelf
set_option linter.unusedVariables false
set_option linter.unusedSimpArgs false

/-- Where the walk of an index stands: the row of what is read lies from block K on, what is answered in block K + 1. -/
structure RIdx (w5 : World) (R K : Nat) (x : Ex) (xs : List Ex) (us : List (List Value)) (kv : Value) (wr : World) : Prop where
  bl : Below K w5 wr
  old : ∀ j, K + 2 ≤ j → j < w5.heap.size → wr.heap[j]? = w5.heap[j]?
  hU : wr.heap[K + 1]? = some (.cells #[.int .i64 7, .string ⟨#[]⟩, .int .i64 0, .slice none 0 0, .slice none 0 0, .int .i64 0, .int .i64 0, .int .i64 0, .string ⟨#[]⟩, .slice none 0 0, kv] 36)
  own : wr.ownsRow K 36 11 kv (xs.length + 1) us.flatten
  kvn : kv.ownBlock ≠ some (K + 1)
  kvq : ∀ q, kv.ownBlock = some q → q < K + 2 ∨ w5.heap.size ≤ q
  cl : Cells (fun b => R < b ∧ b ≠ K + 1 ∧ kv.ownBlock ≠ some b) wr (chainE (x :: xs)) us
theorem Below.setRow {B g : Nat} {a w : World} (h : Below B a w) (hp : B ≤ g) (cs : Array Value) : Below B a (w.setRow g cs) := h.trans ⟨rfl, rfl, rfl, by rw [setRow_size]; exact Nat.le_refl _, fun k hk => setRow_other w g k cs (by omega)⟩
theorem RIdx.lt {w5 : World} {R K : Nat} {x : Ex} {xs : List Ex} {us : List (List Value)} {kv : Value} {wr : World} (h : RIdx w5 R K x xs us kv wr) : K + 1 < wr.heap.size := (Array.getElem?_eq_some_iff.1 h.hU).1
theorem RIdx.go {w5 : World} {R K : Nat} {x : Ex} {xs : List Ex} {us : List (List Value)} {kv : Value} {wr V : World} (h : RIdx w5 R K x xs us kv wr) (hb : Below wr.heap.size wr V) : RIdx w5 R K x xs us kv V := by
  have h1 := h.lt
  have h2 := h.bl.size
  exact ⟨h.bl.trans (hb.mono (by omega)), fun j q1 q2 => (hb.block j (by omega)).trans (h.old j q1 q2), (hb.block _ h1).trans h.hU, owns_below h.own hb, h.kvn, h.kvq, h.cl.soft (Soft.of_below hb)⟩
theorem RIdx.put {w5 : World} {R K : Nat} {x : Ex} {xs : List Ex} {us : List (List Value)} {kv kv' : Value} {W w6 : World} (h : RIdx w5 R K x xs us kv W) (hR : R < K) {y : Ex} {vs ve vb vc : Value}
    (hown : w6.ownsRow K 36 11 kv' (xs.length + 1 + 1) (us.flatten ++ exL y vs ve vb vc)) (hg : W.grownBy w6 kv.ownBlock) (hat : kv'.ownBlock = kv.ownBlock ∨ kv'.ownBlock = some W.heap.size)
    (i1 : Fresh (fun b => R < b ∧ b ≠ K + 1 ∧ kv.ownBlock ≠ some b) W (Ints · vs y.val.shape)) (i2 : Fresh (fun b => R < b ∧ b ≠ K + 1 ∧ kv.ownBlock ≠ some b) W (Ints · ve y.val.elems)) (i3 : Rng y.val.elems) (j1 : Fresh (fun b => R < b ∧ b ≠ K + 1 ∧ kv.ownBlock ≠ some b) W (IsTs · vb y.fn.body)) (j2 : Fresh (fun b => R < b ∧ b ≠ K + 1 ∧ kv.ownBlock ≠ some b) W (IsTs · vc y.kids)) :
    RIdx w5 R K x (xs ++ [y]) (us ++ [exL y vs ve vb vc]) kv' (w6.setCell ⟨K + 1, 10, none⟩ kv') := by
  have h1 := h.lt
  have h2 := h.bl.size
  have hy : Cells (fun b => R < b ∧ b ≠ K + 1 ∧ kv.ownBlock ≠ some b) W (chainE ((x :: xs) ++ [y])) (us ++ [exL y vs ve vb vc]) := h.cl.snocE i1 i2 i3 j1 j2
  have hkq : ∀ q, kv.ownBlock = some q → K ≤ q ∧ q < W.heap.size := fun q e => h.own.lt q e
  have hkn : kv'.ownBlock ≠ some (K + 1) := fun e => by
    rcases hat with q1 | q1
    · rw [q1] at e; exact h.kvn e
    · rw [q1] at e; have := Option.some.inj e; omega
  have hU6 := (hg.block (K + 1) (by omega) (fun e => h.kvn e.symm)).trans h.hU
  refine ⟨(h.bl.grown hg (by omega) (fun q e => (hkq q e).1)).setCell (by simp) _, fun j q1 q2 => ?_, (heap_set1 (i := 10) hU6 kv').trans rfl, ?_, hkn, fun q e => ?_, ?_⟩
  · rw [Below.heap_setCell _ _ _ _ (by simp; omega), hg.block j (by omega) (fun e => by rcases h.kvq j e.symm with q3 | q3 <;> omega)]
    exact h.old j q1 q2
  · have := ownsRow_setCell_other hown (a := ⟨K + 1, 10, none⟩) hkn kv'
    rw [List.length_append, List.flatten_append]
    simpa using this
  · rcases hat with q1 | q1
    · rw [q1] at e; exact h.kvq q e
    · rw [q1] at e; have := Option.some.inj e; omega
  · refine hy.youngF ((SoftF.grown hg (fun q hq => hq.2.2)).put (K + 1) 10 kv' (fun hq => hq.2.1 rfl)) (fun q hq hlq => ⟨hq.1, hq.2.1, fun e => ?_⟩)
    rcases hat with q1 | q1
    · rw [q1] at e; exact hq.2.2 e
    · rw [q1] at e; have := Option.some.inj e; omega
/-- Ahead of each axis. -/
def RIndexR (T : List Tok) (F : List (List UInt8)) (n : Nat) (ins : Bool) (lawA : Option Tr) (w5 : World) (R K : Nat) (x : Ex) (P : List (Nat × Nat)) (vi : Value) (wr : World) : Prop :=
  ∃ (k : Nat) (xs : List Ex) (us : List (List Value)) (kv : Value), k ≤ P.length ∧ vi = .int .i64 (k : Nat) ∧ xs.length ≤ k ∧ RIdx w5 R K x xs us kv wr ∧ Hid (AxesSt F n ins false lawA false xs ((P.drop k).map fun p => sg T p.1 p.2))
set_option maxRecDepth 100000 in
set_option maxHeartbeats 8000000 in
theorem roper_step (T : List Tok) (A : List Nat) (F : List (List UInt8)) (hC : RCx T A F) (n : Nat) (hE : ∀ m, m ≤ n → RExprC T A F m) (hO : ∀ m, m ≤ n → ROperC T A F m) : ROperC T A F (n + 1) := by
  intro w vx a b ins hx hbT hd hfu
  obtain ⟨ta, tc, aa, ac, fa, fc, rfl, h1, h2, h3⟩ := id hx
  obtain ⟨law, hlaw⟩ : ∃ law, operandF F (n + 1) ins (sg T a b) = law := ⟨_, rfl⟩
  rw [hlaw]
  have Hlaw := hid hlaw
  clear hlaw h3
  obtain ⟨w1, hw1⟩ : ∃ W, (w.alloc (.cells #[.slice ta T.length tc, .slice aa A.length ac, .slice fa F.length fc] 80)).alloc (.cells #[.int .i64 0, .string ⟨#[]⟩, .int .i64 0, .slice none 0 0, .slice none 0 0, .int .i64 0, .int .i64 0, .int .i64 0, .string ⟨#[]⟩, .slice none 0 0, .slice none 0 0] 36) = W := ⟨_, rfl⟩
  have hB1 : Below w.heap.size w w1 := by rw [← hw1]; exact ((Below.refl _ w).alloc (Nat.le_refl _) _).alloc (by simp) _
  have hX1 : w1.heap[w.heap.size]? = some (.cells #[.slice ta T.length tc, .slice aa A.length ac, .slice fa F.length fc] 80) := by rw [← hw1]; exact (heap_alloc_old _ _ (by simp)).trans (heap_alloc_new w _)
  have hR1 : w1.heap[w.heap.size + 1]? = some (.cells #[.int .i64 0, .string ⟨#[]⟩, .int .i64 0, .slice none 0 0, .slice none 0 0, .int .i64 0, .int .i64 0, .int .i64 0, .string ⟨#[]⟩, .slice none 0 0, .slice none 0 0] 36) := by
    have := heap_alloc_new (w.alloc (.cells #[.slice ta T.length tc, .slice aa A.length ac, .slice fa F.length fc] 80)) (.cells #[.int .i64 0, .string ⟨#[]⟩, .int .i64 0, .slice none 0 0, .slice none 0 0, .int .i64 0, .int .i64 0, .int .i64 0, .string ⟨#[]⟩, .slice none 0 0, .slice none 0 0] 36)
    rw [hw1] at this
    simpa using this
  have hsz1 : w.heap.size + 1 < w1.heap.size := (Array.getElem?_eq_some_iff.1 hR1).1
  go_enter Tryz.func87, Tryz.ntmps87
  go_upto_region 1 with fail
  try rw [hw1]
  clear hw1
  have hx1 := hx.below hB1
  obtain ⟨X0, X1, X2⟩ := (ln_facts hX1).1
  by_cases hlt : a < b
  · obtain ⟨m, hbm⟩ : ∃ m, b = m + 1 := ⟨b - 1, by omega⟩
    obtain ⟨t, hm⟩ : ∃ t, T[m]? = some t := ⟨_, List.getElem?_eq_getElem (by omega)⟩
    have ht0 : T[b - 1]? = some t := by rw [hbm]; exact hm
    have hle := hC.le
    have hwb : IntKind.i64.wrap ((b : Int) - 1) = (m : Int) := by rw [show (b : Int) - 1 = (m : Int) by omega]; exact IntWalk.i64_in _ (by omega)
    have hnle : ¬ (b : Int) ≤ (a : Int) := by omega
    obtain ⟨E, hE0⟩ : ∃ e, endsT F t = e := ⟨_, rfl⟩
    have hcall := roperand_any T A F m t hm _ w1 hx1
    rw [hE0] at hcall
    have Hbm := hid hbm
    have Hm := hid hm
    cases E with
    | false =>
      have hn := hid (show law = none by rw [← Hlaw.out]; exact ro_no F n ins hlt hbT ht0 hE0)
      clear Hlaw hm ht0 hbm hE0
      go_wp2_with fail
      refine hcall.mono ?_
      rintro e w2 ⟨rfl, b2⟩
      have hR2 := (b2.block _ hsz1).trans hR1
      clear hcall
      go_wp2_with (refine wpList_store_row rfl 36 _ _ rfl (w.heap.size + 1) _ rfl rfl 36 _ hR2 (by kernel_rfl) (by kernel_rfl) (by kernel_rfl) ?_; go_simp)
      refine bodyPost_ret (results_row_tmp2 rfl _ _ (w.heap.size + 1) _ _ _ _ rfl (setRow_heap w2 (w.heap.size + 1) _ #[.int .i64 0, .string ⟨#[]⟩, .int .i64 0, .slice none 0 0, .slice none 0 0, .int .i64 0, .int .i64 0, .int .i64 0, .string ⟨#[]⟩, .slice none 0 0, .slice none 0 0] _ _ hR2) Tryz.underlying36 rfl (by kernel_rfl)) rfl ?_
      exact roper_mk (hB1.trans (b2.mono hB1.size)) ((Oth.refl _ _).row _) (by omega) (zeroE_fresh _ _) (p := 0) (.inl ⟨rfl, hn.out⟩)
    | true =>
      obtain ⟨tb, o, sa, sc, ea, ec, rfl, ⟨g0, g1, g2, g3, g4⟩, i1, i2, i3⟩ := tok_get h1 hm
      obtain ⟨oo, hoo⟩ : ∃ k, A[m]? = some k := ⟨_, List.getElem?_eq_getElem (by rw [hC.ok.len]; omega)⟩
      obtain ⟨ab, ao, rfl, hcA⟩ := at_get h2 hoo
      have hiT : (m : Int) < (T.length : Int) := by omega
      have hiA : (m : Int) < (A.length : Int) := by rw [hC.ok.len]; omega
      have HT := hid hE0
      have Hoo := hid hoo
      have Ht0 := hid ht0
      clear hm ht0 hbm hE0 h1 h2 hoo
      go_wp2_with fail
      refine hcall.mono ?_
      rintro e w2 ⟨rfl, b2⟩
      have hB2 := hB1.trans (b2.mono hB1.size)
      have hR2 := (b2.block _ hsz1).trans hR1
      have hX2 := (b2.block _ (by omega)).trans hX1
      have hsz2 := Nat.lt_of_lt_of_le hsz1 b2.size
      clear hcall X0 X1 X2
      obtain ⟨X0, X1, X2⟩ := (ln_facts hX2).1
      have k0 := (hB2.cell (World.block_lt_of_cell? w _ g0)).trans g0
      have k1 := (hB2.cell (World.block_lt_of_cell? w _ g1)).trans g1
      have k2 := (hB2.cell (World.block_lt_of_cell? w _ g2)).trans g2
      have k3 := (hB2.cell (World.block_lt_of_cell? w _ g3)).trans g3
      have k4 := (hB2.cell (World.block_lt_of_cell? w _ g4)).trans g4
      have hTB2 := heap_alloc_new w2 (.cells #[.int .i64 t.kind, .string (bs t.txt), .int .i64 t.val.kind, .slice sa t.val.shape.length sc, .slice ea t.val.elems.length ec] 48)
      have b3 := (Below.refl _ w2).alloc (Nat.le_refl _) (.cells #[.int .i64 t.kind, .string (bs t.txt), .int .i64 t.val.kind, .slice sa t.val.shape.length sc, .slice ea t.val.elems.length ec] 48)
      go_upto_region 4 with fail
      generalize w2.alloc (.cells #[.int .i64 t.kind, .string (bs t.txt), .int .i64 t.val.kind, .slice sa t.val.shape.length sc, .slice ea t.val.elems.length ec] 48) = w3 at *
      have hB3 := hB2.trans (b3.mono hB2.size)
      have hR3 := (b3.block _ hsz2).trans hR2
      have hX3 := (b3.block _ (by omega)).trans hX2
      have hsz3 := Nat.lt_of_lt_of_le hsz2 b3.size
      have hTB : w2.heap.size < w3.heap.size := (Array.getElem?_eq_some_iff.1 hTB2).1
      clear k0 k1 k2 k3 k4 g0 g1 g2 g3 g4 X0 X1 X2 b2 b3 hR2 hX2 hR1 hX1 hsz1
      generalize w2.heap.size = TB at *
      have keep : ∀ V, Below w3.heap.size w3 V → V.heap[TB]? = some (.cells #[.int .i64 t.kind, .string (bs t.txt), .int .i64 t.val.kind, .slice sa t.val.shape.length sc, .slice ea t.val.elems.length ec] 48) ∧ V.heap[w.heap.size + 1]? = some (.cells #[.int .i64 0, .string ⟨#[]⟩, .int .i64 0, .slice none 0 0, .slice none 0 0, .int .i64 0, .int .i64 0, .int .i64 0, .string ⟨#[]⟩, .slice none 0 0, .slice none 0 0] 36) ∧ V.heap[w.heap.size]? = some (.cells #[.slice (some ⟨tb, o, none⟩) T.length tc, .slice (some ⟨ab, ao, none⟩) A.length ac, .slice fa F.length fc] 80) ∧ V.cell? ⟨ab, ao + m, none⟩ = some (.int .i64 (oo : Int)) ∧ Below w.heap.size w V ∧ w.heap.size + 1 < V.heap.size := fun V hV =>
        ⟨(hV.block _ hTB).trans hTB2, (hV.block _ hsz3).trans hR3, (hV.block _ (by omega)).trans hX3, ((hB3.trans (hV.mono hB3.size)).cell (World.block_lt_of_cell? w _ hcA)).trans hcA, hB3.trans (hV.mono hB3.size), Nat.lt_of_lt_of_le hsz3 hV.size⟩
      obtain ⟨m0, m1, m2, m3, m4⟩ := (fn_facts hTB2).1
      by_cases q1 : t.kind = 1
      · have t1 : (t.kind == 1) = true := by simp [q1]
        have hpl : PlA T a b law (⟨1, [], t.val, noFn, .nil⟩ : Ex) m true := pla_one Hbm.out hlt hbT Hm.out (wt_kind t (by omega)) hd (by rw [← Hlaw.out]; exact ro_value F n ins hlt hbT Ht0.out q1)
        have hpl := hid hpl
        have hsm := hC.sm t (List.mem_of_getElem? Hm.out)
        have hof := rof_any t.val.kind _ _ t.val.shape t.val.elems w3 (i1.below hB3) (i2.below hB3) hsm.1 hsm.2 i3
        clear Hlaw HT
        go_wp2_with fail
        refine hof.mono ?_
        rintro e w4 ⟨⟨av, rfl, vs, ve, rfl, r1, r2, r3⟩, b4⟩
        obtain ⟨ca, cc, rfl⟩ := own_slice r1
        obtain ⟨da, dc, rfl⟩ := own_slice r2
        obtain ⟨-, hR4, -, -, hB4, hsz4⟩ := keep _ b4
        clear hof keep m0 m1 m2 m3 m4
        have hR5 := fun O => (heap_alloc_old w4 O hsz4).trans hR4
        have hA5 := heap_alloc_new w4 (.cells #[.int .i64 t.val.kind, .slice ca t.val.shape.length cc, .slice da t.val.elems.length dc] 30)
        go_wp2_with (refine wpList_store_row rfl 36 _ _ rfl (w.heap.size + 1) _ rfl rfl 36 _ (hR5 _) (by kernel_rfl) (by kernel_rfl) (by kernel_rfl) ?_; go_simp)
        refine bodyPost_ret (results_row_tmp2 rfl _ _ (w.heap.size + 1) _ _ _ _ rfl (setRow_heap (w4.alloc _) (w.heap.size + 1) _ #[.int .i64 1, .string ⟨#[]⟩, .int .i64 t.val.kind, .slice ca t.val.shape.length cc, .slice da t.val.elems.length dc, .int .i64 0, .int .i64 0, .int .i64 0, .string ⟨#[]⟩, .slice none 0 0, .slice none 0 0] _ _ (hR5 _)) Tryz.underlying36 rfl (by kernel_rfl)) rfl ?_
        refine roper_mk (W := w4.alloc _) (hB4.alloc hB4.size _) ((Oth.refl _ _).row _) (by omega) ?_ hpl.out
        have f1 : Fresh (fun k => w.heap.size + 1 < k) w4 (Ints · (.slice ca t.val.shape.length cc) t.val.shape) := Fresh.ints r1 (fun k hk => by omega) (fun w' h' => Ints.of_owns h')
        have f2 : Fresh (fun k => w.heap.size + 1 < k) w4 (Ints · (.slice da t.val.elems.length dc) t.val.elems) := Fresh.ints r2 (fun k hk => by omega) (fun w' h' => Ints.of_owns h')
        exact (Fresh.mkEx (x := ⟨1, [], t.val, noFn, .nil⟩) f1 f2 r3 (Fresh.nil _ _) (Fresh.nil _ _)).soft (Soft.alloc _ _)
      · have t1 : (t.kind == 1) = false := by simpa using q1
        by_cases q2 : t.kind = 2
        · have t2 : (t.kind == 2) = true := by simp [q2]
          have hnf : isFun F t = false := by
            have := HT.out
            unfold endsT isG at this
            simpa [q2] using this
          have hpl : PlA T a b law (⟨2, t.txt, noArr, noFn, .nil⟩ : Ex) m true := pla_one Hbm.out hlt hbT Hm.out (wt_kind t (by omega)) hd (by rw [← Hlaw.out]; exact ro_name F n ins hlt hbT Ht0.out q2 hnf)
          have hpl := hid hpl
          clear Hlaw HT keep hnf
          go_wp2_with (refine wpList_store_row rfl 36 _ _ rfl (w.heap.size + 1) _ rfl rfl 36 _ hR3 (by kernel_rfl) (by kernel_rfl) (by kernel_rfl) ?_; go_simp)
          refine bodyPost_ret (results_row_tmp2 rfl _ _ (w.heap.size + 1) _ _ _ _ rfl (setRow_heap w3 (w.heap.size + 1) _ #[.int .i64 2, .string (bs t.txt), .int .i64 0, .slice none 0 0, .slice none 0 0, .int .i64 0, .int .i64 0, .int .i64 0, .string ⟨#[]⟩, .slice none 0 0, .slice none 0 0] _ _ hR3) Tryz.underlying36 rfl (by kernel_rfl)) rfl ?_
          refine roper_mk (W := w3) hB3 ((Oth.refl _ _).row _) (by omega) ?_ hpl.out
          exact Fresh.mkEx (x := ⟨2, t.txt, noArr, noFn, .nil⟩) (Fresh.ints0 _ _) (Fresh.ints0 _ _) (fun i hi => by simp [noArr] at hi) (Fresh.nil _ _) (Fresh.nil _ _)
        · have t2 : (t.kind == 2) = false := by simpa using q2
          have his1 := ris_any t (.slice sa t.val.shape.length sc) (.slice ea t.val.elems.length ec) gAlpha _ rfl w3
          obtain ⟨G1, hG1⟩ : ∃ g, isG t gAlpha = g := ⟨_, rfl⟩
          rw [hG1] at his1
          have HG1 := hid hG1
          clear hG1
          go_wp2_with fail
          refine his1.mono ?_
          rintro e w4 ⟨rfl, b4⟩
          obtain ⟨hT4, hR4, hX4, hA4, hB4, hsz4⟩ := keep _ b4
          clear his1 m0 m1 m2 m3 m4
          cases G1 with
          | true =>
            have hpl : PlA T a b law (⟨3, [], noArr, noFn, .nil⟩ : Ex) m ins := pla_if Hbm.out hlt hbT Hm.out (wt_alpha HG1.out) hd (by rw [← Hlaw.out]; exact ro_alpha F n ins hlt hbT Ht0.out HG1.out)
            have hpl := hid hpl
            clear Hlaw HT keep HG1
            go_wp2_with (refine wpList_store_row rfl 36 _ _ rfl (w.heap.size + 1) _ rfl rfl 36 _ hR4 (by kernel_rfl) (by kernel_rfl) (by kernel_rfl) ?_; go_simp)
            refine bodyPost_ret (results_row_tmp2 rfl _ _ (w.heap.size + 1) _ _ _ _ rfl (setRow_heap w4 (w.heap.size + 1) _ #[.int .i64 3, .string ⟨#[]⟩, .int .i64 0, .slice none 0 0, .slice none 0 0, .int .i64 0, .int .i64 0, .int .i64 0, .string ⟨#[]⟩, .slice none 0 0, .slice none 0 0] _ _ hR4) Tryz.underlying36 rfl (by kernel_rfl)) rfl ?_
            refine roper_mk (W := w4) hB4 ((Oth.refl _ _).row _) (by omega) ?_ hpl.out
            exact Fresh.mkEx (x := ⟨3, [], noArr, noFn, .nil⟩) (Fresh.ints0 _ _) (Fresh.ints0 _ _) (fun i hi => by simp [noArr] at hi) (Fresh.nil _ _) (Fresh.nil _ _)
          | false =>
            obtain ⟨m0, m1, m2, m3, m4⟩ := (fn_facts hT4).1
            have his2 := ris_any t (.slice sa t.val.shape.length sc) (.slice ea t.val.elems.length ec) gOmega _ rfl w4
            obtain ⟨G2, hG2⟩ : ∃ g, isG t gOmega = g := ⟨_, rfl⟩
            rw [hG2] at his2
            have HG2 := hid hG2
            clear hG2
            go_wp2_with fail
            refine his2.mono ?_
            rintro e w5 ⟨rfl, b5⟩
            replace b5 := b4.trans (b5.mono b4.size)
            clear hT4 hR4 hX4 hA4 hB4 hsz4 his2 m0 m1 m2 m3 m4
            obtain ⟨hT5, hR5, hX5, hA5, hB5, hsz5⟩ := keep _ b5
            cases G2 with
            | true =>
              have hpl : PlA T a b law (⟨4, [], noArr, noFn, .nil⟩ : Ex) m ins := pla_if Hbm.out hlt hbT Hm.out (wt_omega HG2.out) hd (by rw [← Hlaw.out]; exact ro_omega F n ins hlt hbT Ht0.out HG2.out)
              have hpl := hid hpl
              clear Hlaw HT keep HG1 HG2
              go_wp2_with (refine wpList_store_row rfl 36 _ _ rfl (w.heap.size + 1) _ rfl rfl 36 _ hR5 (by kernel_rfl) (by kernel_rfl) (by kernel_rfl) ?_; go_simp)
              refine bodyPost_ret (results_row_tmp2 rfl _ _ (w.heap.size + 1) _ _ _ _ rfl (setRow_heap w5 (w.heap.size + 1) _ #[.int .i64 4, .string ⟨#[]⟩, .int .i64 0, .slice none 0 0, .slice none 0 0, .int .i64 0, .int .i64 0, .int .i64 0, .string ⟨#[]⟩, .slice none 0 0, .slice none 0 0] _ _ hR5) Tryz.underlying36 rfl (by kernel_rfl)) rfl ?_
              refine roper_mk (W := w5) hB5 ((Oth.refl _ _).row _) (by omega) ?_ hpl.out
              exact Fresh.mkEx (x := ⟨4, [], noArr, noFn, .nil⟩) (Fresh.ints0 _ _) (Fresh.ints0 _ _) (fun i hi => by simp [noArr] at hi) (Fresh.nil _ _) (Fresh.nil _ _)
            | false =>
              obtain ⟨m0, m1, m2, m3, m4⟩ := (fn_facts hT5).1
              have his3 := ris_any t (.slice sa t.val.shape.length sc) (.slice ea t.val.elems.length ec) gRP _ rfl w5
              obtain ⟨G3, hG3⟩ : ∃ g, isG t gRP = g := ⟨_, rfl⟩
              rw [hG3] at his3
              have HG3 := hid hG3
              clear hG3
              go_wp2_with fail
              refine his3.mono ?_
              rintro e w6 ⟨rfl, b6⟩
              replace b6 := b5.trans (b6.mono b5.size)
              clear hT5 hR5 hX5 hA5 hB5 hsz5 his3 m0 m1 m2 m3 m4
              obtain ⟨hT6, hR6, hX6, hA6, hB6, hsz6⟩ := keep _ b6
              obtain ⟨X0, X1, X2⟩ := (ln_facts hX6).1
              have hx6 := hx.below hB6
              cases G3 with
              | true =>
                obtain ⟨o', ho0, ho1, ho2, ho3, ho4, hl6⟩ := ro_paren2 (F := F) hC.ok n ins Hbm.out hlt hbT Hm.out hd HG3.out
                rw [Hoo.out] at ho0
                obtain rfl := Option.some.inj ho0
                rw [Hlaw.out] at hl6
                have hwo : IntKind.i64.wrap ((oo : Int) + 1) = ((oo + 1 : Nat) : Int) := by rw [show (oo : Int) + 1 = ((oo + 1 : Nat) : Int) by omega]; exact IntWalk.i64_in _ (by omega)
                have hcall := hE n (Nat.le_refl _) w6 _ (oo + 1) m ins hx6 (by omega) (by omega) ho4 (by have := Hbm.out; omega)
                have Hl6 := hid hl6
                clear hl6 Hlaw HT ho0
                go_wp2_with fail
                refine hcall.mono ?_
                rintro e w7 ⟨xv, x, ok, rfl, b7, fx, la⟩
                obtain ⟨vs, ve, vb, vc, rfl, j1, j2, j3, j4, j5⟩ := fx.ex
                have hform := And.intro j1.self.parts (And.intro j2.self.parts (And.intro j4.self.parts j5.self.parts))
                obtain ⟨⟨xa, xc, rfl, -⟩, ⟨xe, xec, rfl, -⟩, ⟨xb, xbc, rfl, -⟩, ⟨xk, xkc, rfl, -⟩⟩ := hform
                have hb7 := b6.trans (b7.mono b6.size)
                obtain ⟨-, hR7, -, -, hB7, hsz7⟩ := keep _ hb7
                have hR8 := fun O => (heap_alloc_old w7 O hsz7).trans hR7
                have hN8 := heap_alloc_new w7 (.cells #[.int .i64 x.kind, .string (bs x.name), .int .i64 x.val.kind, .slice xa x.val.shape.length xc, .slice xe x.val.elems.length xec, .int .i64 x.fn.kind, .int .i64 x.fn.f, .int .i64 x.fn.g, .string (bs x.fn.name), .slice xb x.fn.body.len xbc, .slice xk x.kids.len xkc] 36)
                have hpl := hid (LaA.paren (law := law) (T := T) (a := a) (b := b) la (fun h => by rw [Hl6.out, h]) (fun z h => by rw [Hl6.out, h]) ho1 (by have := Hbm.out; omega) ho3)
                have hf := (fx.weak (base' := fun k => w.heap.size + 1 < k) (fun k hk => by unfold Up at hk; omega)).soft (Soft.alloc _ (.cells #[.int .i64 x.kind, .string (bs x.name), .int .i64 x.val.kind, .slice xa x.val.shape.length xc, .slice xe x.val.elems.length xec, .int .i64 x.fn.kind, .int .i64 x.fn.f, .int .i64 x.fn.g, .string (bs x.fn.name), .slice xb x.fn.body.len xbc, .slice xk x.kids.len xkc] 36))
                have hB8 := hB7.alloc hB7.size (.cells #[.int .i64 x.kind, .string (bs x.name), .int .i64 x.val.kind, .slice xa x.val.shape.length xc, .slice xe x.val.elems.length xec, .int .i64 x.fn.kind, .int .i64 x.fn.f, .int .i64 x.fn.g, .string (bs x.fn.name), .slice xb x.fn.body.len xbc, .slice xk x.kids.len xkc] 36)
                clear hcall keep hR7 la Hl6 X0 X1 X2 hT6 hR6 hX6 hA6
                go_wp2_with (first | (refine wpList_load_rowE rfl 36 _ rfl w7.heap.size rfl 36 _ _ _ hN8 Tryz.underlying36 rfl (by kernel_rfl) ?_; go_simp) | (refine wpList_store_row rfl 36 _ _ rfl (w.heap.size + 1) _ rfl rfl 36 _ (hR8 _) (by kernel_rfl) (by kernel_rfl) (by kernel_rfl) ?_; go_simp))
                refine bodyPost_ret (results_row_tmp2 rfl _ _ (w.heap.size + 1) _ _ _ _ rfl (setRow_heap (w7.alloc _) (w.heap.size + 1) _ #[.int .i64 x.kind, .string (bs x.name), .int .i64 x.val.kind, .slice xa x.val.shape.length xc, .slice xe x.val.elems.length xec, .int .i64 x.fn.kind, .int .i64 x.fn.f, .int .i64 x.fn.g, .string (bs x.fn.name), .slice xb x.fn.body.len xbc, .slice xk x.kids.len xkc] _ _ (hR8 _)) Tryz.underlying36 rfl (by kernel_rfl)) rfl ?_
                exact roper_mk hB8 ((Oth.refl _ _).row _) (by omega) hf hpl.out
              | false =>
                have HG5 : isG t gRB = true := by
                  have := HT.out
                  unfold endsT at this
                  rw [HG1.out, HG2.out, HG3.out] at this
                  simpa [q1, q2] using this
                obtain ⟨o', ho0, ho1, ho2, ho3, ho4, hl6⟩ := ro_brack2 (F := F) hC.ok n ins Hbm.out hlt hbT Hm.out hd HG5
                rw [Hoo.out] at ho0
                obtain rfl := Option.some.inj ho0
                rw [Hlaw.out] at hl6
                have hl0 : operandF F n ins (sg T a oo) = none → law = none := fun h => by rw [hl6, h]
                have hl1 : ∀ x r, operandF F n ins (sg T a oo) = some (x, r) → axesF F n ins (partsF (sg T (oo + 1) m) gSemi) = none → law = none := fun x r h k => by rw [hl6, h]; simp only; rw [k]
                have hl2 : ∀ x r k, operandF F n ins (sg T a oo) = some (x, r) → axesF F n ins (partsF (sg T (oo + 1) m) gSemi) = some k → law = some (⟨7, [], noArr, noFn, x.cons k⟩, r) := fun x r k h1 h2 => by rw [hl6, h1]; simp only; rw [h2]
                have Hl0 := hid hl0
                have Hl1 := hid hl1
                have Hl2 := hid hl2
                have hbm := Hbm.out
                have hwo : IntKind.i64.wrap ((oo : Int) + 1) = ((oo + 1 : Nat) : Int) := by rw [show (oo : Int) + 1 = ((oo + 1 : Nat) : Int) by omega]; exact IntWalk.i64_in _ (by omega)
                have hcall := hO n (Nat.le_refl _) w6 _ a oo ins hx6 (by omega) ho3 (by omega)
                have hbml : 8 * (m - oo) ≤ n := by omega
                have hble : m < b := by omega
                clear hl6 Hlaw HT ho0 hl0 hl1 hl2 hbm
                go_wp2_with fail
                refine hcall.mono ?_
                rintro e w7 ⟨xv, x, pp, ok, rfl, b7, fx, pl⟩
                obtain ⟨vs, ve, vb, vc, rfl, j1, j2, j3, j4, j5⟩ := fx.ex
                have hform := And.intro j1.self.parts (And.intro j2.self.parts (And.intro j4.self.parts j5.self.parts))
                obtain ⟨⟨xa, xc, rfl, -⟩, ⟨xe, xec, rfl, -⟩, ⟨xb, xbc, rfl, -⟩, ⟨xk, xkc, rfl, -⟩⟩ := hform
                have hb7 := b6.trans (b7.mono b6.size)
                have hN8 := heap_alloc_new w7 (.cells #[.int .i64 x.kind, .string (bs x.name), .int .i64 x.val.kind, .slice xa x.val.shape.length xc, .slice xe x.val.elems.length xec, .int .i64 x.fn.kind, .int .i64 x.fn.f, .int .i64 x.fn.g, .string (bs x.fn.name), .slice xb x.fn.body.len xbc, .slice xk x.kids.len xkc] 36)
                have b8 := (Below.refl _ w7).alloc (Nat.le_refl _) (.cells #[.int .i64 x.kind, .string (bs x.name), .int .i64 x.val.kind, .slice xa x.val.shape.length xc, .slice xe x.val.elems.length xec, .int .i64 x.fn.kind, .int .i64 x.fn.f, .int .i64 x.fn.g, .string (bs x.fn.name), .slice xb x.fn.body.len xbc, .slice xk x.kids.len xkc] 36)
                have hsz78 : w6.heap.size ≤ w7.heap.size := b7.size
                clear hcall hT6 hR6 hX6 hA6 X0 X1 X2
                go_upto_region 19 with fail
                generalize w7.alloc (.cells #[.int .i64 x.kind, .string (bs x.name), .int .i64 x.val.kind, .slice xa x.val.shape.length xc, .slice xe x.val.elems.length xec, .int .i64 x.fn.kind, .int .i64 x.fn.f, .int .i64 x.fn.g, .string (bs x.fn.name), .slice xb x.fn.body.len xbc, .slice xk x.kids.len xkc] 36) = w8 at *
                have hb8 := hb7.trans (b8.mono hb7.size)
                obtain ⟨-, hR8, hX8, -, hB8, hsz8⟩ := keep _ hb8
                have hXB : w7.heap.size < w8.heap.size := (Array.getElem?_eq_some_iff.1 hN8).1
                cases ok with
                | false =>
                  have hpl : law = none := Hl0.out (by rcases pl with h | h; exact h.2; exact absurd h.1 (by simp))
                  have hpl := hid hpl
                  clear Hl0 Hl1 Hl2 pl keep
                  go_wp2_with (refine wpList_store_row rfl 36 _ _ rfl (w.heap.size + 1) _ rfl rfl 36 _ hR8 (by kernel_rfl) (by kernel_rfl) (by kernel_rfl) ?_; go_simp)
                  refine bodyPost_ret (results_row_tmp2 rfl _ _ (w.heap.size + 1) _ _ _ _ rfl (setRow_heap w8 (w.heap.size + 1) _ #[.int .i64 0, .string ⟨#[]⟩, .int .i64 0, .slice none 0 0, .slice none 0 0, .int .i64 0, .int .i64 0, .int .i64 0, .string ⟨#[]⟩, .slice none 0 0, .slice none 0 0] _ _ hR8) Tryz.underlying36 rfl (by kernel_rfl)) rfl ?_
                  exact roper_mk hB8 ((Oth.refl _ _).row _) (by omega) (zeroE_fresh _ _) (p := 0) (.inl ⟨rfl, hpl.out⟩)
                | true =>
                  obtain ⟨-, hop, hpp1, hpp2, hpp3⟩ := pl.resolve_left (by simp)
                  have Hl1 := hid (Hl1.out x _ hop)
                  have Hl2 := hid (fun k => Hl2.out x _ k hop)
                  have h29 := two_new w8 (.cells #[.int .i64 x.kind, .string (bs x.name), .int .i64 x.val.kind, .slice xa x.val.shape.length xc, .slice xe x.val.elems.length xec, .int .i64 x.fn.kind, .int .i64 x.fn.f, .int .i64 x.fn.g, .string (bs x.fn.name), .slice xb x.fn.body.len xbc, .slice xk x.kids.len xkc] 36) (.cells #[.int .i64 7, .string ⟨#[]⟩, .int .i64 0, .slice none 0 0, .slice none 0 0, .int .i64 0, .int .i64 0, .int .i64 0, .string ⟨#[]⟩, .slice none 0 0, .slice (some ⟨w8.heap.size, 0, none⟩) 1 1] 36)
                  have hz9 : ((w8.alloc (.cells #[.int .i64 x.kind, .string (bs x.name), .int .i64 x.val.kind, .slice xa x.val.shape.length xc, .slice xe x.val.elems.length xec, .int .i64 x.fn.kind, .int .i64 x.fn.f, .int .i64 x.fn.g, .string (bs x.fn.name), .slice xb x.fn.body.len xbc, .slice xk x.kids.len xkc] 36)).alloc (.cells #[.int .i64 7, .string ⟨#[]⟩, .int .i64 0, .slice none 0 0, .slice none 0 0, .int .i64 0, .int .i64 0, .int .i64 0, .string ⟨#[]⟩, .slice none 0 0, .slice (some ⟨w8.heap.size, 0, none⟩) 1 1] 36)).heap.size = w8.heap.size + 2 := by simp
                  clear pl Hl0 hop
                  go_upto_region 22 with (refine wpList_load_rowE rfl 36 _ rfl w7.heap.size rfl 36 _ _ _ hN8 Tryz.underlying36 rfl (by kernel_rfl) ?_; go_simp)
                  generalize (w8.alloc (.cells #[.int .i64 x.kind, .string (bs x.name), .int .i64 x.val.kind, .slice xa x.val.shape.length xc, .slice xe x.val.elems.length xec, .int .i64 x.fn.kind, .int .i64 x.fn.f, .int .i64 x.fn.g, .string (bs x.fn.name), .slice xb x.fn.body.len xbc, .slice xk x.kids.len xkc] 36)).alloc (.cells #[.int .i64 7, .string ⟨#[]⟩, .int .i64 0, .slice none 0 0, .slice none 0 0, .int .i64 0, .int .i64 0, .int .i64 0, .string ⟨#[]⟩, .slice none 0 0, .slice (some ⟨w8.heap.size, 0, none⟩) 1 1] 36) = w9 at *
                  obtain ⟨hK9, hU9, b9⟩ := h29
                  have hb9 := hb8.trans (b9.mono hb8.size)
                  obtain ⟨-, hR9, hX9, -, hB9, hsz9⟩ := keep _ hb9
                  have hcut := rcut_any T A F hC.ok hC.gd (oo + 1) m gSemi _ rfl (wt_semi _ (by decide)) (by omega) (by omega) ho4 hC.le _ w9 (hx.below hB9)
                  have hs79 : Soft w7 w9 := (Soft.of_below b8).trans (Soft.of_below b9)
                  have hKd : w8.heap.size = w8.heap.size := rfl
                  obtain ⟨X0, X1, X2⟩ := (ln_facts hX9).1
                  clear hR8 hX8 b8 b9 hN8
                  generalize w8.heap.size = K at *
                  clear hKd
                  have hrow9 : w9.ownsRow K 36 11 (.slice (some ⟨K, 0, none⟩) 1 1) 1 (exL x (.slice xa x.val.shape.length xc) (.slice xe x.val.elems.length xec) (.slice xb x.fn.body.len xbc) (.slice xk x.kids.len xkc)) :=
                    ⟨rfl, .inr ⟨K, 1, _, rfl, Nat.le_refl _, hK9, Nat.le_refl _, by simp [maxLen], rfl, rfl⟩⟩
                  go_wp2_with fail
                  refine hcut.mono ?_
                  rintro e w10 ⟨⟨cv, out, rfl, hown, hparts, hpf⟩, b10⟩
                  have hb10 := hb9.trans (b10.mono hb9.size)
                  obtain ⟨-, hR10, hX10, -, hB10, hsz10⟩ := keep _ hb10
                  have hU10 := (b10.block _ (by omega)).trans hU9
                  have hrow10 := own_below hrow9 b10
                  have hs10 := hs79.trans (Soft.of_below b10)
                  obtain ⟨pa, pc, rfl⟩ := own_slice hown
                  have hplen : out.length ≤ T.length + 1 := by
                    have h1 := parts_count gSemi (sg T (oo + 1) m)
                    rw [hpf, List.length_map, sg_len (by omega)] at h1; omega
                  have hnp := need_parts gSemi (sg T (oo + 1) m)
                  rw [sg_len (by omega)] at hnp
                  have hst := AxesSt.start F n ins false (partsF (sg T (oo + 1) m) gSemi) (by omega)
                  have hyo : ∀ k, Up w6.heap.size k → k < w7.heap.size → w.heap.size + 1 < k ∧ k ≠ K + 1 ∧ (Value.slice (some ⟨K, 0, none⟩) 1 1).ownBlock ≠ some k := fun k h1 h2 => by
                    unfold Up at h1
                    exact ⟨by omega, by omega, fun e => Nat.lt_irrefl k (by have e2 : K = k := (Option.some.inj e); omega)⟩
                  have hcells : Cells (fun b => w.heap.size + 1 < b ∧ b ≠ K + 1 ∧ (Value.slice (some ⟨K, 0, none⟩) 1 1).ownBlock ≠ some b) w10 (chainE [x]) [exL x (.slice xa x.val.shape.length xc) (.slice xe x.val.elems.length xec) (.slice xb x.fn.body.len xbc) (.slice xk x.kids.len xkc)] :=
                    .ex x _ _ _ _ .nil [] (j1.young hs10 hyo) (j2.young hs10 hyo) j3 (j4.young hs10 hyo) (j5.young hs10 hyo) .nil
                  have hKR : w.heap.size + 1 < K := hsz8
                  have hz10 : K + 2 ≤ w10.heap.size := by have := b10.size; omega
                  obtain ⟨lawA, hlA⟩ : ∃ r, axesF F n ins (partsF (sg T (oo + 1) m) gSemi) = r := ⟨_, rfl⟩
                  rw [hlA] at hst Hl1 Hl2
                  rw [hpf] at hst
                  have Hst := hid hst
                  obtain ⟨i0, hi, hz0, hz1, hz2⟩ := info_parts (show (Tryz.prog.info? 36).map (fun i => (i.zero, i.size, i.bytes)) = some (some (.agg #[.int .i64 0, .string ⟨#[]⟩, .int .i64 0, .slice none 0 0, .slice none 0 0, .int .i64 0, .int .i64 0, .int .i64 0, .string ⟨#[]⟩, .slice none 0 0, .slice none 0 0]), 11, 168) by kernel_rfl)
                  clear hst hlA hcut hpf keep hR9 hX9 X0 X1 X2 hU9 hrow9 hK9 hs10 hs79 j1 j2 j3 j4 j5 fx hyo
                  go_wp2_with fail
                  go_loopw [22] (fun vi wr => RIndexR T F n ins lawA w10 (w.heap.size + 1) K x out vi wr) (fun vi _ => out.length - (intOf vi).toNat)
                  case atStart =>
                    exact ⟨0, [], _, _, Nat.zero_le _, rfl, Nat.le_refl _, ⟨Below.refl _ _, (fun _ _ _ => rfl), hU10, by simpa using hrow10, (fun e => Nat.lt_irrefl K (by have e2 : K = K + 1 := (Option.some.inj e); omega)), (fun j e => .inl (by have e2 : K = j := (Option.some.inj e); omega)), hcells⟩, Hst⟩
                  case round =>
                    obtain ⟨k, xs, us, kv, hk, rfl, hxs, hI, hS⟩ := hrel
                    obtain ⟨oa, oc, rfl⟩ := own_slice hI.own
                    have hKl := hI.lt
                    have hsz := hI.bl.size
                    by_cases hlt2 : k < out.length
                    · obtain ⟨p, hpk⟩ : ∃ p, out[k]? = some p := ⟨_, List.getElem?_eq_getElem hlt2⟩
                      obtain ⟨pg, pgc, hv, hg1, hg2, hgc⟩ := parts_at hown (by rintro rfl; simp at hlt2)
                      simp only [Value.slice.injEq] at hv
                      obtain ⟨rfl, -, rfl⟩ := hv
                      obtain ⟨c0, c1⟩ := hgc k p hpk
                      replace c0 := (World.cell?_of_block (w := w10) (hI.old pg (by omega) hg2)).trans c0
                      replace c1 := (World.cell?_of_block (w := w10) (hI.old pg (by omega) hg2)).trans c1
                      obtain ⟨hp1, hp2, hp3, hp4⟩ := hparts p (List.mem_of_getElem? hpk)
                      have hki : (k : Int) < (out.length : Int) := by omega
                      have hdr : out.drop k = p :: out.drop (k + 1) := by
                        obtain ⟨hl, e⟩ := List.getElem?_eq_some_iff.1 hpk
                        rw [List.drop_eq_getElem_cons hl, e]
                      rw [hdr, List.map_cons] at hS
                      obtain ⟨q, hm1, hm2, hm3⟩ := hS.out.fuel (by rw [sg_len (by omega)]; omega)
                      rw [sg_len (by omega)] at hm1
                      have bA := (Below.refl _ wr).alloc (Nat.le_refl _) (.cells #[.int .i64 8, .string ⟨#[]⟩, .int .i64 0, .slice none 0 0, .slice none 0 0, .int .i64 0, .int .i64 0, .int .i64 0, .string ⟨#[]⟩, .slice none 0 0, .slice none 0 0] 36)
                      have hAX := heap_alloc_new wr (.cells #[.int .i64 8, .string ⟨#[]⟩, .int .i64 0, .slice none 0 0, .slice none 0 0, .int .i64 0, .int .i64 0, .int .i64 0, .string ⟨#[]⟩, .slice none 0 0, .slice none 0 0] 36)
                      have hbxX := (hI.bl.block w.heap.size (by omega)).trans hX10
                      have hbxR := (hI.bl.block (w.heap.size + 1) (by omega)).trans hR10
                      clear hdr hpk hgc hS
                      go_upto_region 27 with fail
                      generalize wr.alloc (.cells #[.int .i64 8, .string ⟨#[]⟩, .int .i64 0, .slice none 0 0, .slice none 0 0, .int .i64 0, .int .i64 0, .int .i64 0, .string ⟨#[]⟩, .slice none 0 0, .slice none 0 0] 36) = w11 at *
                      have hI1 := hI.go bA
                      have hAXl : wr.heap.size < w11.heap.size := (Array.getElem?_eq_some_iff.1 hAX).1
                      have keep2 : ∀ V, Below w11.heap.size w11 V → (V.cell? ⟨pg, k * 2, none⟩ = some (.int .i64 (p.1 : Int)) ∧ V.cell? ⟨pg, k * 2 + 1, none⟩ = some (.int .i64 (p.2 : Int))) ∧ V.cell? ⟨w.heap.size, 0, none⟩ = some (.slice (some ⟨tb, o, none⟩) T.length tc) ∧ V.cell? ⟨w.heap.size, 1, none⟩ = some (.slice (some ⟨ab, ao, none⟩) A.length ac) ∧ V.cell? ⟨w.heap.size, 2, none⟩ = some (.slice fa F.length fc) := fun V hV => by
                        have hBV := bA.trans (hV.mono bA.size)
                        obtain ⟨x0, x1, x2⟩ := (ln_facts ((hBV.block _ (by omega)).trans hbxX)).1
                        exact ⟨⟨(hBV.cell (p := ⟨pg, k * 2, none⟩) (by show pg < _; omega)).trans c0, (hBV.cell (p := ⟨pg, k * 2 + 1, none⟩) (by show pg < _; omega)).trans c1⟩, x0, x1, x2⟩
                      obtain ⟨⟨c0', c1'⟩, X0', X1', X2'⟩ := keep2 _ (Below.refl _ _)
                      clear c0 c1
                      by_cases hpq : p.1 < p.2
                      · have hpi : (p.1 : Int) < (p.2 : Int) := by omega
                        go_upto_region 28 with (go_quiet (fail))
                        clear c0' c1' X0' X1' X2'
                        have bA : Below wr.heap.size wr (w11.drewN nq) := below_drewN bA nq
                        have hAX : (w11.drewN nq).heap[wr.heap.size]? = some (.cells #[.int .i64 8, .string ⟨#[]⟩, .int .i64 0, .slice none 0 0, .slice none 0 0, .int .i64 0, .int .i64 0, .int .i64 0, .string ⟨#[]⟩, .slice none 0 0, .slice none 0 0] 36) := hAX
                        have hI1 := hI.go bA
                        have hAXl : wr.heap.size < (w11.drewN nq).heap.size := hAXl
                        have keep2 : ∀ V, Below (w11.drewN nq).heap.size (w11.drewN nq) V → (V.cell? ⟨pg, k * 2, none⟩ = some (.int .i64 (p.1 : Int)) ∧ V.cell? ⟨pg, k * 2 + 1, none⟩ = some (.int .i64 (p.2 : Int))) ∧ V.cell? ⟨w.heap.size, 0, none⟩ = some (.slice (some ⟨tb, o, none⟩) T.length tc) ∧ V.cell? ⟨w.heap.size, 1, none⟩ = some (.slice (some ⟨ab, ao, none⟩) A.length ac) ∧ V.cell? ⟨w.heap.size, 2, none⟩ = some (.slice fa F.length fc) := fun V hV => keep2 V ((below_drewN (Below.refl w11.heap.size w11) nq).trans hV)
                        generalize w11.drewN nq = w12 at *
                        have g0 := Below.refl w12.heap.size w12
                        have hBr := hB10.trans (hI.bl.mono (by omega))
                        have hB11 := hBr.trans (bA.mono hBr.size)
                        have Hm3 := hid (fun bo2 y (h : Res false bo2 (exprF F q ins (sg T p.1 p.2)) y) => hm3 bo2 y (by unfold axisF; rw [if_neg (fun e => by have h1 := sg_len (T := T) (a := p.1) (b := p.2) (by omega); rw [e] at h1; simp at h1; omega)]; exact h))
                        have rC : ∀ V, Below w12.heap.size w12 V → Calls Tryz.prog 37 #[.agg #[.slice (some ⟨tb, o, none⟩) T.length tc, .slice (some ⟨ab, ao, none⟩) A.length ac, .slice fa F.length fc], .int .i64 (p.1 : Int), .int .i64 (p.2 : Int), .bool ins] V fun e w' => RExprA V w' (exprF F q ins (sg T p.1 p.2)) e := fun V hV =>
                          hE q hm2 V _ p.1 p.2 ins (hx.below (hB11.trans (hV.mono hB11.size))) hp2 (by omega) hp4 hm1
                        clear hm3
                        have gA := fun O => ((Below.refl w12.heap.size w12).alloc (Nat.le_refl _) O).drew
                        have keepA := fun O => keep2 _ (gA O)
                        go_region_held3 (fun V => (V.cell? ⟨pg, k * 2, none⟩ = some (.int .i64 (p.1 : Int)) ∧ V.cell? ⟨pg, k * 2 + 1, none⟩ = some (.int .i64 (p.2 : Int))) ∧ V.cell? ⟨w.heap.size, 0, none⟩ = some (.slice (some ⟨tb, o, none⟩) T.length tc) ∧ V.cell? ⟨w.heap.size, 1, none⟩ = some (.slice (some ⟨ab, ao, none⟩) A.length ac) ∧ V.cell? ⟨w.heap.size, 2, none⟩ = some (.slice fa F.length fc))
                          (first | with_reducible exact keep2 _ g0.drew | with_reducible exact keepA _ | with_reducible exact keep2 _ g1 | with_reducible exact keep2 _ (g1.alloc g1.size _) | (refine keep2 _ ?_; (repeat (with_reducible refine Below.setCell ?_ (by first | exact Nat.le_refl _ | exact g1.size) _)); first | with_reducible exact g1 | with_reducible exact g1.alloc g1.size _) | fail)
                          (first
                            | (go_at_call 37; refine (rC _ g0.drew).mono ?_; rintro e v1 ⟨yv, y, ok2, rfl, b1, fy, la2⟩; obtain ⟨yvs, yve, yvb, yvc, rfl, y1, y2, y3, y4, y5⟩ := fy.ex; have yform := And.intro y1.self.parts (And.intro y2.self.parts (And.intro y4.self.parts y5.self.parts)); obtain ⟨⟨ya, yc, rfl, -⟩, ⟨ye, yec, rfl, -⟩, ⟨yb, ybc, rfl, -⟩, ⟨yk, ykc, rfl, -⟩⟩ := yform; have g1 := g0.drew.trans (b1.mono (Nat.le_refl _)); have hE1 := heap_alloc_new v1 (.cells #[.int .i64 0, .string ⟨#[]⟩, .int .i64 0, .slice none 0 0, .slice none 0 0, .int .i64 0, .int .i64 0, .int .i64 0, .string ⟨#[]⟩, .slice none 0 0, .slice none 0 0] 36); obtain ⟨⟨r0, r1, r2, r3, r4, r5, r6, r7, r8, r9, r10⟩, ⟨z0, z1, z2, z3, z4, z5, z6, z7, z8, z9, z10⟩⟩ := ex_facts hE1)
                            | (go_at_call 37; refine (rC _ (gA _)).mono ?_; rintro e v1 ⟨yv, y, ok2, rfl, b1, fy, la2⟩; obtain ⟨yvs, yve, yvb, yvc, rfl, y1, y2, y3, y4, y5⟩ := fy.ex; have yform := And.intro y1.self.parts (And.intro y2.self.parts (And.intro y4.self.parts y5.self.parts)); obtain ⟨⟨ya, yc, rfl, -⟩, ⟨ye, yec, rfl, -⟩, ⟨yb, ybc, rfl, -⟩, ⟨yk, ykc, rfl, -⟩⟩ := yform; have g1 := (gA (.cells #[.int .i64 0, .string ⟨#[]⟩, .int .i64 0, .slice none 0 0, .slice none 0 0, .int .i64 0, .int .i64 0, .int .i64 0, .string ⟨#[]⟩, .slice none 0 0, .slice none 0 0] 36)).trans (b1.mono (gA _).size); have hE1 := (b1.block w12.heap.size (by show w12.heap.size < (w12.alloc _).heap.size; simp)).trans (heap_alloc_new w12 (.cells #[.int .i64 0, .string ⟨#[]⟩, .int .i64 0, .slice none 0 0, .slice none 0 0, .int .i64 0, .int .i64 0, .int .i64 0, .string ⟨#[]⟩, .slice none 0 0, .slice none 0 0] 36)); obtain ⟨⟨r0, r1, r2, r3, r4, r5, r6, r7, r8, r9, r10⟩, ⟨z0, z1, z2, z3, z4, z5, z6, z7, z8, z9, z10⟩⟩ := ex_facts hE1)
                            | fail)
                        · have hNv := heap_alloc_new v1 (.cells #[.int .i64 y.kind, .string (bs y.name), .int .i64 y.val.kind, .slice ya y.val.shape.length yc, .slice ye y.val.elems.length yec, .int .i64 y.fn.kind, .int .i64 y.fn.f, .int .i64 y.fn.g, .string (bs y.fn.name), .slice yb y.fn.body.len ybc, .slice yk y.kids.len ykc] 36)
                          have g2 := g1.alloc g1.size (.cells #[.int .i64 y.kind, .string (bs y.name), .int .i64 y.val.kind, .slice ya y.val.shape.length yc, .slice ye y.val.elems.length yec, .int .i64 y.fn.kind, .int .i64 y.fn.f, .int .i64 y.fn.g, .string (bs y.fn.name), .slice yb y.fn.body.len ybc, .slice yk y.kids.len ykc] 36)
                          have yo : ∀ k, Up w12.drew.heap.size k → k < v1.heap.size → w12.heap.size ≤ k ∧ k ≠ v1.heap.size := fun k h1 h2 => ⟨h1, by omega⟩
                          have hs := Soft.alloc v1 (.cells #[.int .i64 y.kind, .string (bs y.name), .int .i64 y.val.kind, .slice ya y.val.shape.length yc, .slice ye y.val.elems.length yec, .int .i64 y.fn.kind, .int .i64 y.fn.f, .int .i64 y.fn.g, .string (bs y.fn.name), .slice yb y.fn.body.len ybc, .slice yk y.kids.len ykc] 36)
                          have hAY : w12.heap.size ≤ v1.heap.size := g1.size
                          replace y1 := y1.young hs yo
                          replace y2 := y2.young hs yo
                          replace y4 := y4.young hs yo
                          replace y5 := y5.young hs yo
                          clear r0 r1 r2 r3 r4 r5 r6 r7 r8 r9 r10 z0 z1 z2 z3 z4 z5 z6 z7 z8 z9 z10 hE1 b1 g1 fy hs yo keep2 keepA gA g0 rC
                          generalize v1.alloc (.cells #[.int .i64 y.kind, .string (bs y.name), .int .i64 y.val.kind, .slice ya y.val.shape.length yc, .slice ye y.val.elems.length yec, .int .i64 y.fn.kind, .int .i64 y.fn.f, .int .i64 y.fn.g, .string (bs y.fn.name), .slice yb y.fn.body.len ybc, .slice yk y.kids.len ykc] 36) = W2 at *
                          generalize v1.heap.size = AY at *
                          have hAXv := (g2.block _ hAXl).trans hAX
                          have gw := bA.trans (g2.mono bA.size)
                          cases ok2 with
                          | false =>
                            have hla : lawA = none := by
                              have h1 : exprF F q ins (sg T p.1 p.2) = none := by rcases la2 with h | h; exact h.2; exact absurd h.1 (by simp)
                              rcases Hm3.out true y (Res.none h1 false y) with ⟨-, h⟩ | ⟨h, -⟩
                              · exact h.resolve_left (by simp)
                              · exact absurd h (by simp)
                            have hpl := hid (Hl1.out hla)
                            have hRv := (gw.block _ (by omega)).trans hbxR
                            have hBv := hBr.trans (gw.mono hBr.size)
                            clear Hl1 Hl2 Hm3 la2 hla
                            go_wp2_with (refine wpList_store_row rfl 36 _ _ rfl (w.heap.size + 1) _ rfl rfl 36 _ hRv (by kernel_rfl) (by kernel_rfl) (by kernel_rfl) ?_; go_simp)
                            refine bodyPost_ret (results_row_tmp2 rfl _ _ (w.heap.size + 1) _ _ _ _ rfl (setRow_heap W2 (w.heap.size + 1) _ #[.int .i64 0, .string ⟨#[]⟩, .int .i64 0, .slice none 0 0, .slice none 0 0, .int .i64 0, .int .i64 0, .int .i64 0, .string ⟨#[]⟩, .slice none 0 0, .slice none 0 0] _ _ hRv) Tryz.underlying36 rfl (by kernel_rfl)) rfl ?_
                            exact roper_mk hBv ((Oth.refl _ _).row _) (by omega) (zeroE_fresh _ _) (p := 0) (.inl ⟨rfl, hpl.out⟩)
                          | true =>
                            have hla : exprF F q ins (sg T p.1 p.2) = some y := by rcases la2 with h | h; exact absurd h.1 (by simp); exact h.2
                            have hSt := hid (Hm3.out false y (Res.some hla false))
                            have hW := Below.setRow (g := wr.heap.size) gw (Nat.le_refl _) #[.int .i64 y.kind, .string (bs y.name), .int .i64 y.val.kind, .slice ya y.val.shape.length yc, .slice ye y.val.elems.length yec, .int .i64 y.fn.kind, .int .i64 y.fn.f, .int .i64 y.fn.g, .string (bs y.fn.name), .slice yb y.fn.body.len ybc, .slice yk y.kids.len ykc]
                            have hI2 := hI.go hW
                            have hAX2 := setRow_heap W2 wr.heap.size _ #[.int .i64 y.kind, .string (bs y.name), .int .i64 y.val.kind, .slice ya y.val.shape.length yc, .slice ye y.val.elems.length yec, .int .i64 y.fn.kind, .int .i64 y.fn.f, .int .i64 y.fn.g, .string (bs y.fn.name), .slice yb y.fn.body.len ybc, .slice yk y.kids.len ykc] _ _ hAXv
                            have hsF : SoftF (fun b => w12.heap.size ≤ b ∧ b ≠ AY) W2 (W2.setRow wr.heap.size #[.int .i64 y.kind, .string (bs y.name), .int .i64 y.val.kind, .slice ya y.val.shape.length yc, .slice ye y.val.elems.length yec, .int .i64 y.fn.kind, .int .i64 y.fn.f, .int .i64 y.fn.g, .string (bs y.fn.name), .slice yb y.fn.body.len ybc, .slice yk y.kids.len ykc]) := ((Oth.refl _ _).row _).soft (fun h => by omega)
                            have hw1 : ∀ j, (w12.heap.size ≤ j ∧ j ≠ AY) → (w.heap.size + 1 < j ∧ j ≠ K + 1 ∧ (Value.slice oa (xs.length + 1) oc).ownBlock ≠ some j) := fun j h => ⟨by omega, by omega, fun e => by have := (hI.own.lt j e).2; omega⟩
                            have f1 := (y1.softF hsF).weak hw1
                            have f2 := (y2.softF hsF).weak hw1
                            have f4 := (y4.softF hsF).weak hw1
                            have f5 := (y5.softF hsF).weak hw1
                            clear Hm3 la2 hla y1 y2 y4 y5 hsF hw1
                            go_upto_region 32 with (first | (refine wpList_load_rowE rfl 36 _ rfl AY rfl 36 _ _ _ hNv Tryz.underlying36 rfl (by kernel_rfl) ?_; go_simp) | (refine wpList_store_row rfl 36 _ _ rfl wr.heap.size _ rfl rfl 36 _ hAXv (by kernel_rfl) (by kernel_rfl) (by kernel_rfl) ?_; go_simp))
                            generalize W2.setRow wr.heap.size #[.int .i64 y.kind, .string (bs y.name), .int .i64 y.val.kind, .slice ya y.val.shape.length yc, .slice ye y.val.elems.length yec, .int .i64 y.fn.kind, .int .i64 y.fn.f, .int .i64 y.fn.g, .string (bs y.fn.name), .slice yb y.fn.body.len ybc, .slice yk y.kids.len ykc] = W1 at *
                            have c10 := (ex_facts hI2.hU).1.2.2.2.2.2.2.2.2.2.2; have hI2l := hI2.lt
                            clear hNv hAXv hbxX hbxR
                            go_wp2_with (first
                              | (refine wpList_load_rowE rfl 36 _ rfl wr.heap.size rfl 36 _ _ _ hAX2 Tryz.underlying36 rfl (by kernel_rfl) ?_; go_simp)
                              | (at_builtin; go_must (refine wpList_append_own_at _ rfl _ _ 34 rfl K 36 i0 (.agg #[.int .i64 0, .string ⟨#[]⟩, .int .i64 0, .slice none 0 0, .slice none 0 0, .int .i64 0, .int .i64 0, .int .i64 0, .string ⟨#[]⟩, .slice none 0 0, .slice none 0 0]) 11 168 Tryz.underlying34 hi hz0 hz1 hz2 rfl (by decide) _ _ _ rfl (hI2.own.alloc _) ⟨W1.heap.size, 0, none⟩ 1 1 [.int .i64 y.kind, .string (bs y.name), .int .i64 y.val.kind, .slice ya y.val.shape.length yc, .slice ye y.val.elems.length yec, .int .i64 y.fn.kind, .int .i64 y.fn.f, .int .i64 y.fn.g, .string (bs y.fn.name), .slice yb y.fn.body.len ybc, .slice yk y.kids.len ykc] rfl rfl (row_new W1 _ 36) (by simp [Value.oneCell']) (by simp [maxLen]; omega) (by omega) (by simp; omega) ?_); intro v' w6 hown' hgrow _ hat; obtain ⟨g', cap', rfl⟩ := ownsRow_succ hown'; obtain ⟨⟨r0, r1, r2, r3, r4, r5, r6, r7, r8, r9, r10⟩, ⟨z0, z1, z2, z3, z4, z5, z6, z7, z8, z9, z10⟩⟩ := ex_facts ((hgrow.block (K + 1) (by simp; omega) (fun e => hI2.kvn e.symm)).trans ((heap_alloc_old W1 _ hI2.lt).trans hI2.hU))))
                            go_roundw
                            case rel =>
                              refine ⟨k + 1, xs ++ [y], us ++ [exL y (.slice ya y.val.shape.length yc) (.slice ye y.val.elems.length yec) (.slice yb y.fn.body.len ybc) (.slice yk y.kids.len ykc)], .slice (some ⟨g', 0, none⟩) (xs.length + 1 + 1) cap', by omega, by go_num, by simp; omega, ?_, hSt⟩
                              exact (hI2.go ((Below.refl _ W1).alloc (Nat.le_refl _) _)).put hKR (y := y) hown' hgrow hat (f1.soft (Soft.alloc _ _)) (f2.soft (Soft.alloc _ _)) y3 (f4.soft (Soft.alloc _ _)) (f5.soft (Soft.alloc _ _))
                            case measure => simp [intOf]; omega
                        · have hNv := ex_set hE1 (.int .i64 y.kind) (.string (bs y.name)) (.int .i64 y.val.kind) (.slice ya y.val.shape.length yc) (.slice ye y.val.elems.length yec) (.int .i64 y.fn.kind) (.int .i64 y.fn.f) (.int .i64 y.fn.g) (.string (bs y.fn.name)) (.slice yb y.fn.body.len ybc) (.slice yk y.kids.len ykc)
                          have g2 : Below w12.heap.size w12 (((((((((((v1.setCell ⟨w12.heap.size, 0, none⟩ (.int .i64 y.kind)).setCell ⟨w12.heap.size, 1, none⟩ (.string (bs y.name))).setCell ⟨w12.heap.size, 2, none⟩ (.int .i64 y.val.kind)).setCell ⟨w12.heap.size, 3, none⟩ (.slice ya y.val.shape.length yc)).setCell ⟨w12.heap.size, 4, none⟩ (.slice ye y.val.elems.length yec)).setCell ⟨w12.heap.size, 5, none⟩ (.int .i64 y.fn.kind)).setCell ⟨w12.heap.size, 6, none⟩ (.int .i64 y.fn.f)).setCell ⟨w12.heap.size, 7, none⟩ (.int .i64 y.fn.g)).setCell ⟨w12.heap.size, 8, none⟩ (.string (bs y.fn.name))).setCell ⟨w12.heap.size, 9, none⟩ (.slice yb y.fn.body.len ybc)).setCell ⟨w12.heap.size, 10, none⟩ (.slice yk y.kids.len ykc)) := by
                            (repeat (with_reducible refine Below.setCell ?_ (by exact Nat.le_refl _) _)); exact g1
                          have ho : Oth w12.heap.size v1 (((((((((((v1.setCell ⟨w12.heap.size, 0, none⟩ (.int .i64 y.kind)).setCell ⟨w12.heap.size, 1, none⟩ (.string (bs y.name))).setCell ⟨w12.heap.size, 2, none⟩ (.int .i64 y.val.kind)).setCell ⟨w12.heap.size, 3, none⟩ (.slice ya y.val.shape.length yc)).setCell ⟨w12.heap.size, 4, none⟩ (.slice ye y.val.elems.length yec)).setCell ⟨w12.heap.size, 5, none⟩ (.int .i64 y.fn.kind)).setCell ⟨w12.heap.size, 6, none⟩ (.int .i64 y.fn.f)).setCell ⟨w12.heap.size, 7, none⟩ (.int .i64 y.fn.g)).setCell ⟨w12.heap.size, 8, none⟩ (.string (bs y.fn.name))).setCell ⟨w12.heap.size, 9, none⟩ (.slice yb y.fn.body.len ybc)).setCell ⟨w12.heap.size, 10, none⟩ (.slice yk y.kids.len ykc)) := by
                            (repeat (with_reducible refine Oth.put ?_ _ _)); exact Oth.refl _ _
                          have yo : ∀ k, Up (w12.alloc (.cells #[.int .i64 0, .string ⟨#[]⟩, .int .i64 0, .slice none 0 0, .slice none 0 0, .int .i64 0, .int .i64 0, .int .i64 0, .string ⟨#[]⟩, .slice none 0 0, .slice none 0 0] 36)).drew.heap.size k → w12.heap.size ≤ k ∧ k ≠ w12.heap.size := fun k h1 => by
                            have h2 : (w12.alloc (.cells #[.int .i64 0, .string ⟨#[]⟩, .int .i64 0, .slice none 0 0, .slice none 0 0, .int .i64 0, .int .i64 0, .int .i64 0, .string ⟨#[]⟩, .slice none 0 0, .slice none 0 0] 36)).heap.size ≤ k := h1
                            simp at h2
                            exact ⟨by omega, by omega⟩
                          have hsf := ho.soft (base := fun b => w12.heap.size ≤ b ∧ b ≠ w12.heap.size) (fun h => h.2 rfl)
                          have hAY : w12.heap.size ≤ w12.heap.size := Nat.le_refl _
                          replace y1 := (y1.weak yo).softF hsf
                          replace y2 := (y2.weak yo).softF hsf
                          replace y4 := (y4.weak yo).softF hsf
                          replace y5 := (y5.weak yo).softF hsf
                          clear r0 r1 r2 r3 r4 r5 r6 r7 r8 r9 r10 z0 z1 z2 z3 z4 z5 z6 z7 z8 z9 z10 hE1 b1 g1 fy yo hsf ho keep2 keepA gA g0 rC
                          generalize (((((((((((v1.setCell ⟨w12.heap.size, 0, none⟩ (.int .i64 y.kind)).setCell ⟨w12.heap.size, 1, none⟩ (.string (bs y.name))).setCell ⟨w12.heap.size, 2, none⟩ (.int .i64 y.val.kind)).setCell ⟨w12.heap.size, 3, none⟩ (.slice ya y.val.shape.length yc)).setCell ⟨w12.heap.size, 4, none⟩ (.slice ye y.val.elems.length yec)).setCell ⟨w12.heap.size, 5, none⟩ (.int .i64 y.fn.kind)).setCell ⟨w12.heap.size, 6, none⟩ (.int .i64 y.fn.f)).setCell ⟨w12.heap.size, 7, none⟩ (.int .i64 y.fn.g)).setCell ⟨w12.heap.size, 8, none⟩ (.string (bs y.fn.name))).setCell ⟨w12.heap.size, 9, none⟩ (.slice yb y.fn.body.len ybc)).setCell ⟨w12.heap.size, 10, none⟩ (.slice yk y.kids.len ykc)) = W2 at *
                          have hAXv := (g2.block _ hAXl).trans hAX
                          have gw := bA.trans (g2.mono bA.size)
                          cases ok2 with
                          | false =>
                            have hla : lawA = none := by
                              have h1 : exprF F q ins (sg T p.1 p.2) = none := by rcases la2 with h | h; exact h.2; exact absurd h.1 (by simp)
                              rcases Hm3.out true y (Res.none h1 false y) with ⟨-, h⟩ | ⟨h, -⟩
                              · exact h.resolve_left (by simp)
                              · exact absurd h (by simp)
                            have hpl := hid (Hl1.out hla)
                            have hRv := (gw.block _ (by omega)).trans hbxR
                            have hBv := hBr.trans (gw.mono hBr.size)
                            clear Hl1 Hl2 Hm3 la2 hla
                            go_wp2_with (refine wpList_store_row rfl 36 _ _ rfl (w.heap.size + 1) _ rfl rfl 36 _ hRv (by kernel_rfl) (by kernel_rfl) (by kernel_rfl) ?_; go_simp)
                            refine bodyPost_ret (results_row_tmp2 rfl _ _ (w.heap.size + 1) _ _ _ _ rfl (setRow_heap W2 (w.heap.size + 1) _ #[.int .i64 0, .string ⟨#[]⟩, .int .i64 0, .slice none 0 0, .slice none 0 0, .int .i64 0, .int .i64 0, .int .i64 0, .string ⟨#[]⟩, .slice none 0 0, .slice none 0 0] _ _ hRv) Tryz.underlying36 rfl (by kernel_rfl)) rfl ?_
                            exact roper_mk hBv ((Oth.refl _ _).row _) (by omega) (zeroE_fresh _ _) (p := 0) (.inl ⟨rfl, hpl.out⟩)
                          | true =>
                            have hla : exprF F q ins (sg T p.1 p.2) = some y := by rcases la2 with h | h; exact absurd h.1 (by simp); exact h.2
                            have hSt := hid (Hm3.out false y (Res.some hla false))
                            have hW := Below.setRow (g := wr.heap.size) gw (Nat.le_refl _) #[.int .i64 y.kind, .string (bs y.name), .int .i64 y.val.kind, .slice ya y.val.shape.length yc, .slice ye y.val.elems.length yec, .int .i64 y.fn.kind, .int .i64 y.fn.f, .int .i64 y.fn.g, .string (bs y.fn.name), .slice yb y.fn.body.len ybc, .slice yk y.kids.len ykc]
                            have hI2 := hI.go hW
                            have hAX2 := setRow_heap W2 wr.heap.size _ #[.int .i64 y.kind, .string (bs y.name), .int .i64 y.val.kind, .slice ya y.val.shape.length yc, .slice ye y.val.elems.length yec, .int .i64 y.fn.kind, .int .i64 y.fn.f, .int .i64 y.fn.g, .string (bs y.fn.name), .slice yb y.fn.body.len ybc, .slice yk y.kids.len ykc] _ _ hAXv
                            have hsF : SoftF (fun b => w12.heap.size ≤ b ∧ b ≠ w12.heap.size) W2 (W2.setRow wr.heap.size #[.int .i64 y.kind, .string (bs y.name), .int .i64 y.val.kind, .slice ya y.val.shape.length yc, .slice ye y.val.elems.length yec, .int .i64 y.fn.kind, .int .i64 y.fn.f, .int .i64 y.fn.g, .string (bs y.fn.name), .slice yb y.fn.body.len ybc, .slice yk y.kids.len ykc]) := ((Oth.refl _ _).row _).soft (fun h => by omega)
                            have hw1 : ∀ j, (w12.heap.size ≤ j ∧ j ≠ w12.heap.size) → (w.heap.size + 1 < j ∧ j ≠ K + 1 ∧ (Value.slice oa (xs.length + 1) oc).ownBlock ≠ some j) := fun j h => ⟨by omega, by omega, fun e => by have := (hI.own.lt j e).2; omega⟩
                            have f1 := (y1.softF hsF).weak hw1
                            have f2 := (y2.softF hsF).weak hw1
                            have f4 := (y4.softF hsF).weak hw1
                            have f5 := (y5.softF hsF).weak hw1
                            clear Hm3 la2 hla y1 y2 y4 y5 hsF hw1
                            go_upto_region 32 with (first | (refine wpList_load_rowE rfl 36 _ rfl w12.heap.size rfl 36 _ _ _ hNv Tryz.underlying36 rfl (by kernel_rfl) ?_; go_simp) | (refine wpList_store_row rfl 36 _ _ rfl wr.heap.size _ rfl rfl 36 _ hAXv (by kernel_rfl) (by kernel_rfl) (by kernel_rfl) ?_; go_simp))
                            generalize W2.setRow wr.heap.size #[.int .i64 y.kind, .string (bs y.name), .int .i64 y.val.kind, .slice ya y.val.shape.length yc, .slice ye y.val.elems.length yec, .int .i64 y.fn.kind, .int .i64 y.fn.f, .int .i64 y.fn.g, .string (bs y.fn.name), .slice yb y.fn.body.len ybc, .slice yk y.kids.len ykc] = W1 at *
                            have c10 := (ex_facts hI2.hU).1.2.2.2.2.2.2.2.2.2.2; have hI2l := hI2.lt
                            clear hNv hAXv hbxX hbxR
                            go_wp2_with (first
                              | (refine wpList_load_rowE rfl 36 _ rfl wr.heap.size rfl 36 _ _ _ hAX2 Tryz.underlying36 rfl (by kernel_rfl) ?_; go_simp)
                              | (at_builtin; go_must (refine wpList_append_own_at _ rfl _ _ 34 rfl K 36 i0 (.agg #[.int .i64 0, .string ⟨#[]⟩, .int .i64 0, .slice none 0 0, .slice none 0 0, .int .i64 0, .int .i64 0, .int .i64 0, .string ⟨#[]⟩, .slice none 0 0, .slice none 0 0]) 11 168 Tryz.underlying34 hi hz0 hz1 hz2 rfl (by decide) _ _ _ rfl (hI2.own.alloc _) ⟨W1.heap.size, 0, none⟩ 1 1 [.int .i64 y.kind, .string (bs y.name), .int .i64 y.val.kind, .slice ya y.val.shape.length yc, .slice ye y.val.elems.length yec, .int .i64 y.fn.kind, .int .i64 y.fn.f, .int .i64 y.fn.g, .string (bs y.fn.name), .slice yb y.fn.body.len ybc, .slice yk y.kids.len ykc] rfl rfl (row_new W1 _ 36) (by simp [Value.oneCell']) (by simp [maxLen]; omega) (by omega) (by simp; omega) ?_); intro v' w6 hown' hgrow _ hat; obtain ⟨g', cap', rfl⟩ := ownsRow_succ hown'; obtain ⟨⟨r0, r1, r2, r3, r4, r5, r6, r7, r8, r9, r10⟩, ⟨z0, z1, z2, z3, z4, z5, z6, z7, z8, z9, z10⟩⟩ := ex_facts ((hgrow.block (K + 1) (by simp; omega) (fun e => hI2.kvn e.symm)).trans ((heap_alloc_old W1 _ hI2.lt).trans hI2.hU))))
                            go_roundw
                            case rel =>
                              refine ⟨k + 1, xs ++ [y], us ++ [exL y (.slice ya y.val.shape.length yc) (.slice ye y.val.elems.length yec) (.slice yb y.fn.body.len ybc) (.slice yk y.kids.len ykc)], .slice (some ⟨g', 0, none⟩) (xs.length + 1 + 1) cap', by omega, by go_num, by simp; omega, ?_, hSt⟩
                              exact (hI2.go ((Below.refl _ W1).alloc (Nat.le_refl _) _)).put hKR (y := y) hown' hgrow hat (f1.soft (Soft.alloc _ _)) (f2.soft (Soft.alloc _ _)) y3 (f4.soft (Soft.alloc _ _)) (f5.soft (Soft.alloc _ _))
                            case measure => simp [intOf]; omega
                      · have hpi : ¬ (p.1 : Int) < (p.2 : Int) := by omega
                        have hpe : p.1 = p.2 := by omega
                        have hSt := hid (hm3 false ⟨8, [], noArr, noFn, .nil⟩ (Res.some (by unfold axisF; rw [hpe, sg_nil, if_pos rfl]) false))
                        clear hm1 hm2 hm3
                        go_upto_region 32 with (go_quiet (fail))
                        clear c0' c1' X0' X1' X2'
                        have bA : Below wr.heap.size wr (w11.drewN nq) := below_drewN bA nq
                        have hAX : (w11.drewN nq).heap[wr.heap.size]? = some (.cells #[.int .i64 8, .string ⟨#[]⟩, .int .i64 0, .slice none 0 0, .slice none 0 0, .int .i64 0, .int .i64 0, .int .i64 0, .string ⟨#[]⟩, .slice none 0 0, .slice none 0 0] 36) := hAX
                        have hI1 := hI.go bA
                        have hAXl : wr.heap.size < (w11.drewN nq).heap.size := hAXl
                        have keep2 : ∀ V, Below (w11.drewN nq).heap.size (w11.drewN nq) V → (V.cell? ⟨pg, k * 2, none⟩ = some (.int .i64 (p.1 : Int)) ∧ V.cell? ⟨pg, k * 2 + 1, none⟩ = some (.int .i64 (p.2 : Int))) ∧ V.cell? ⟨w.heap.size, 0, none⟩ = some (.slice (some ⟨tb, o, none⟩) T.length tc) ∧ V.cell? ⟨w.heap.size, 1, none⟩ = some (.slice (some ⟨ab, ao, none⟩) A.length ac) ∧ V.cell? ⟨w.heap.size, 2, none⟩ = some (.slice fa F.length fc) := fun V hV => keep2 V ((below_drewN (Below.refl w11.heap.size w11) nq).trans hV)
                        generalize w11.drewN nq = w12 at *
                        have hI2 := hI1
                        have c10 := (ex_facts hI2.hU).1.2.2.2.2.2.2.2.2.2.2; have hI2l := hI2.lt
                        have hAX2 := hAX
                        clear keep2 bA
                        go_wp2_with (first
                          | (refine wpList_load_rowE rfl 36 _ rfl wr.heap.size rfl 36 _ _ _ hAX2 Tryz.underlying36 rfl (by kernel_rfl) ?_; go_simp)
                          | (at_builtin; go_must (refine wpList_append_own_at _ rfl _ _ 34 rfl K 36 i0 (.agg #[.int .i64 0, .string ⟨#[]⟩, .int .i64 0, .slice none 0 0, .slice none 0 0, .int .i64 0, .int .i64 0, .int .i64 0, .string ⟨#[]⟩, .slice none 0 0, .slice none 0 0]) 11 168 Tryz.underlying34 hi hz0 hz1 hz2 rfl (by decide) _ _ _ rfl (hI2.own.alloc _) ⟨w12.heap.size, 0, none⟩ 1 1 [.int .i64 8, .string ⟨#[]⟩, .int .i64 0, .slice none 0 0, .slice none 0 0, .int .i64 0, .int .i64 0, .int .i64 0, .string ⟨#[]⟩, .slice none 0 0, .slice none 0 0] rfl rfl (row_new w12 _ 36) (by simp [Value.oneCell']) (by simp [maxLen]; omega) (by omega) (by simp; omega) ?_); intro v' w6 hown' hgrow _ hat; obtain ⟨g', cap', rfl⟩ := ownsRow_succ hown'; obtain ⟨⟨r0, r1, r2, r3, r4, r5, r6, r7, r8, r9, r10⟩, ⟨z0, z1, z2, z3, z4, z5, z6, z7, z8, z9, z10⟩⟩ := ex_facts ((hgrow.block (K + 1) (by simp; omega) (fun e => hI2.kvn e.symm)).trans ((heap_alloc_old w12 _ hI2.lt).trans hI2.hU))))
                        go_roundw
                        case rel =>
                          refine ⟨k + 1, xs ++ [⟨8, [], noArr, noFn, .nil⟩], us ++ [exL ⟨8, [], noArr, noFn, .nil⟩ (.slice none 0 0) (.slice none 0 0) (.slice none 0 0) (.slice none 0 0)], .slice (some ⟨g', 0, none⟩) (xs.length + 1 + 1) cap', by omega, by go_num, by simp; omega, ?_, hSt⟩
                          exact (hI2.go ((Below.refl _ w12).alloc (Nat.le_refl _) _)).put hKR (y := ⟨8, [], noArr, noFn, .nil⟩) hown' hgrow hat (Fresh.ints0 _ _) (Fresh.ints0 _ _) (fun i hi => by simp [noArr] at hi) (Fresh.nil _ _) (Fresh.nil _ _)
                        case measure => simp [intOf]; omega
                    · have hkeq : k = out.length := by omega
                      have hki : ¬ (k : Int) < (out.length : Int) := by omega
                      have hS2 := hS.out
                      rw [List.drop_eq_nil_of_le (by omega), List.map_nil] at hS2
                      have hRd := hS2.done.good.2
                      have hRr := (hI.bl.block (w.heap.size + 1) (by omega)).trans hR10
                      have hKs := hI.cl.own (S2 := fun b => w.heap.size + 1 < b) (fun b hb => hb.1) hI.own (by rw [chainE_len]; rfl) (fun b hb => by omega)
                      have hpl : PlA T a b law (⟨7, [], noArr, noFn, x.cons (chainE xs)⟩ : Ex) pp true := .inr ⟨rfl, Hl2.out _ hRd, hpp1, by omega, hpp3⟩
                      have hpl := hid hpl
                      have hU := hI.hU
                      have hBr := hB10.trans (hI.bl.mono (by omega))
                      clear hS2 hRd hS Hl1 Hl2
                      go_wp2_with (first | (refine wpList_load_rowE rfl 36 _ rfl (K + 1) rfl 36 _ _ _ hU Tryz.underlying36 rfl (by kernel_rfl) ?_; go_simp) | (refine wpList_store_row rfl 36 _ _ rfl (w.heap.size + 1) _ rfl rfl 36 _ hRr (by kernel_rfl) (by kernel_rfl) (by kernel_rfl) ?_; go_simp))
                      refine bodyPost_ret (results_row_tmp2 rfl _ _ (w.heap.size + 1) _ _ _ _ rfl (setRow_heap wr (w.heap.size + 1) _ #[.int .i64 7, .string ⟨#[]⟩, .int .i64 0, .slice none 0 0, .slice none 0 0, .int .i64 0, .int .i64 0, .int .i64 0, .string ⟨#[]⟩, .slice none 0 0, .slice oa (xs.length + 1) oc] _ _ hRr) Tryz.underlying36 rfl (by kernel_rfl)) rfl ?_
                      exact roper_mk hBr ((Oth.refl _ _).row _) (by omega) (Fresh.mkEx (x := ⟨7, [], noArr, noFn, x.cons (chainE xs)⟩) (Fresh.ints0 _ _) (Fresh.ints0 _ _) (fun i hi => by simp [noArr] at hi) (Fresh.nil _ _) hKs) hpl.out
  · have hle : (b : Int) ≤ (a : Int) := by omega
    have hn := hid (show law = none by rw [← Hlaw.out]; exact ro_none F (n + 1) ins (by omega))
    clear Hlaw
    go_wp2_with (refine wpList_store_row rfl 36 _ _ rfl (w.heap.size + 1) _ rfl rfl 36 _ hR1 (by kernel_rfl) (by kernel_rfl) (by kernel_rfl) ?_; go_simp)
    refine bodyPost_ret (results_row_tmp2 rfl _ _ (w.heap.size + 1) _ _ _ _ rfl (setRow_heap w1 (w.heap.size + 1) _ #[.int .i64 0, .string ⟨#[]⟩, .int .i64 0, .slice none 0 0, .slice none 0 0, .int .i64 0, .int .i64 0, .int .i64 0, .string ⟨#[]⟩, .slice none 0 0, .slice none 0 0] _ _ hR1) Tryz.underlying36 rfl (by kernel_rfl)) rfl ?_
    exact roper_mk hB1 ((Oth.refl _ _).row _) (by omega) (zeroE_fresh _ _) (p := 0) (.inl ⟨rfl, hn.out⟩)
end Go.Proofs.YthlingdlehdlhaaGreatDoor.Par
