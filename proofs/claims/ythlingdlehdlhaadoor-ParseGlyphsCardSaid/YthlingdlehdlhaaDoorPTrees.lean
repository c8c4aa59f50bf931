/- parse: all readings together; a statement, walked.
   parse.Statement, walked; the tree of a text.
   Layer 18's law: its small functions. -/
import Derived.Test.YthlingdlehdlhaaDoorPFuncs
import Derived.Test.YthlingdlehdlhaaDoorPIndexs
import Derived.Test.YthlingdlehdlhaaDoorPExpr
import Derived.Test.YthlingdlehdlhaaDoorPLine
import Derived.Test.YthlingdlehdlhaaDoorPE
import Derived.Test.YthlingdlehdlhaaDoorPD
import Derived.Test.YthlingdlehdlhaaDoorToks
import Derived.Test.YthlingdlehdlhaaDoorLexLaw
namespace Go.Proofs.YthlingdlehdlhaaDoor.Par
open Go.RowKit Go.Shelf
set_option linter.unusedVariables false
set_option linter.unusedSimpArgs false

theorem expr_nil (F : List (List UInt8)) (n : Nat) (ins : Bool) : exprF F n ins [] = none := by
  cases n with
  | zero => rw [exprF]
  | succ n =>
    rw [exprF]
    cases n with
    | zero => rw [operandF]
    | succ n => rw [operandF]; rfl
theorem Fresh.mkS {base : Nat → Prop} {w : World} {s : Stm} {vs ve vb vc vd : Value} (i1 : Fresh base w (Ints · vs s.expr.val.shape)) (i2 : Fresh base w (Ints · ve s.expr.val.elems)) (i3 : Rng s.expr.val.elems) (j1 : Fresh base w (IsTs · vb s.expr.fn.body)) (j2 : Fresh base w (IsTs · vc s.expr.kids)) (j3 : Fresh base w (IsTs · vd s.body)) :
    Fresh base w (IsS · (.agg #[.int .i64 s.kind, .string (bs s.name), .int .i64 s.expr.kind, .string (bs s.expr.name), .int .i64 s.expr.val.kind, vs, ve, .int .i64 s.expr.fn.kind, .int .i64 s.expr.fn.f, .int .i64 s.expr.fn.g, .string (bs s.expr.fn.name), vb, vc, vd]) s) :=
  fun w' h' => ⟨vs, ve, vb, vc, vd, rfl, i1 w' h', i2 w' h', i3, j1 w' h', j2 w' h', j3 w' h'⟩
theorem Fresh.stm {base : Nat → Prop} {w : World} {v : Value} {s : Stm} (h : Fresh base w (IsS · v s)) :
    ∃ vs ve vb vc vd, v = .agg #[.int .i64 s.kind, .string (bs s.name), .int .i64 s.expr.kind, .string (bs s.expr.name), .int .i64 s.expr.val.kind, vs, ve, .int .i64 s.expr.fn.kind, .int .i64 s.expr.fn.f, .int .i64 s.expr.fn.g, .string (bs s.expr.fn.name), vb, vc, vd] ∧
      Fresh base w (Ints · vs s.expr.val.shape) ∧ Fresh base w (Ints · ve s.expr.val.elems) ∧ Rng s.expr.val.elems ∧ Fresh base w (IsTs · vb s.expr.fn.body) ∧ Fresh base w (IsTs · vc s.expr.kids) ∧ Fresh base w (IsTs · vd s.body) := by
  obtain ⟨vs, ve, vb, vc, vd, e, i1, i2, i3, j1, j2, j3⟩ := h.self
  have key : ∀ w', SoftF base w w' → Ints w' vs s.expr.val.shape ∧ Ints w' ve s.expr.val.elems ∧ IsTs w' vb s.expr.fn.body ∧ IsTs w' vc s.expr.kids ∧ IsTs w' vd s.body := fun w' h' => by
    obtain ⟨vs', ve', vb', vc', vd', e', k1, k2, k3, l1, l2, l3⟩ := h w' h'
    rw [e] at e'
    simp only [Value.agg.injEq, Array.mk.injEq, List.cons.injEq, true_and, and_true] at e'
    obtain ⟨rfl, rfl, rfl, rfl, rfl⟩ := e'
    exact ⟨k1, k2, l1, l2, l3⟩
  exact ⟨vs, ve, vb, vc, vd, e, fun w' h' => (key w' h').1, fun w' h' => (key w' h').2.1, i3, fun w' h' => (key w' h').2.2.1, fun w' h' => (key w' h').2.2.2.1, fun w' h' => (key w' h').2.2.2.2⟩
end Go.Proofs.YthlingdlehdlhaaDoor.Par

namespace Go.Proofs.YthlingdlehdlhaaDoor.Par
open Go.RowKit Go.Shelf
set_option linter.unusedVariables false
set_option linter.unusedSimpArgs false

/-- A list of tokens' tree, or the error. -/
def stateOf (F : List (List UInt8)) (l : List Tok) : Stm × Int :=
  if (matchedF l).2 = false then (noStm, 170) else if 50 < (matchedF l).1 then (noStm, 9) else match stmtF F l with | none => (noStm, 170) | some x => (x, 0)
theorem stateOf_ok (F : List (List UInt8)) (l : List Tok) : (stateOf F l).1.expr.ok = true ∧ (stateOf F l).1.body.ok false = true := by
  have h0 : noStm.expr.ok = true ∧ noStm.body.ok false = true := by decide
  unfold stateOf
  split
  · exact h0
  · split
    · exact h0
    · split
      · exact h0
      · rename_i x h; exact stmt_ok F l x h
theorem noStm_fresh (base : Nat → Prop) (w : World) : Fresh base w (IsS · (.agg #[.int .i64 0, .string ⟨#[]⟩, .int .i64 0, .string ⟨#[]⟩, .int .i64 0, .slice none 0 0, .slice none 0 0, .int .i64 0, .int .i64 0, .int .i64 0, .string ⟨#[]⟩, .slice none 0 0, .slice none 0 0, .slice none 0 0]) noStm) :=
  Fresh.mkS (s := noStm) (Fresh.ints0 _ _) (Fresh.ints0 _ _) (fun i hi => by simp [noStm, noEx, noArr] at hi) (Fresh.nil _ _) (Fresh.nil _ _) (Fresh.nil _ _)
/-- What is answered: a tree of new memory, and the error's number. -/
def StateA (w w' : World) (p : Stm × Int) (e : Ending) : Prop :=
  (∃ xv, e = .returned (.tuple #[xv, .int .i64 p.2]) ∧ Fresh (Up w.heap.size) w' (IsS · xv p.1)) ∧ Below w.heap.size w w'
theorem state_zero {w wf : World} {p : Stm × Int} {n : Int} (hp : p = (noStm, n)) (hb : Below w.heap.size w wf) : StateA w wf p (.returned (.tuple #[.agg #[.int .i64 0, .string ⟨#[]⟩, .int .i64 0, .string ⟨#[]⟩, .int .i64 0, .slice none 0 0, .slice none 0 0, .int .i64 0, .int .i64 0, .int .i64 0, .string ⟨#[]⟩, .slice none 0 0, .slice none 0 0, .slice none 0 0], .int .i64 n])) := by
  subst hp; exact ⟨⟨_, rfl, noStm_fresh _ _⟩, hb⟩
/-- A text's tree. -/
def treeOf (F : List (List UInt8)) (s : List UInt8) : Stm × Int := if (tokensOf s).2 = 0 then stateOf F (tokensOf s).1 else (noStm, (tokensOf s).2)
theorem treeOf_ok (F : List (List UInt8)) (s : List UInt8) : (treeOf F s).1.expr.ok = true ∧ (treeOf F s).1.body.ok false = true := by
  unfold treeOf
  split
  · exact stateOf_ok _ _
  · exact (show noStm.expr.ok = true ∧ noStm.body.ok false = true by decide)
theorem chain_good : ∀ T : List Tok, Chain T → ∀ t ∈ T, Good t
  | [], _, t, ht => by cases ht
  | u :: r, h, t, ht => by
    obtain ⟨h1, -, h3⟩ := h
    rcases List.mem_cons.1 ht with rfl | ht
    · exact h1
    · exact chain_good r h3 t ht
theorem chain_small {l : List Tok} (h : Chain l) : Small l := fun t ht => by
  have hg := chain_good l h t ht
  rcases hg with ⟨k, tx, hc, hr⟩ | ⟨k, hn, hv⟩ | ⟨k, hg, hv⟩
  · have h1 := (canV_parts hc).2.2.2.2
    unfold canV at hc
    simp only [Bool.and_eq_true, Bool.or_eq_true, decide_eq_true_eq] at hc
    exact ⟨by omega, by omega⟩
  · rw [hv]; exact ⟨by decide, by decide⟩
  · rw [hv]; exact ⟨by decide, by decide⟩
end Go.Proofs.YthlingdlehdlhaaDoor.Par

namespace Go.Proofs.YthlingdlehdlhaaDoor.Par
open Go.RowKit Go.Shelf
set_option linter.unusedVariables false
set_option linter.unusedSimpArgs false

def primF (f : Int) : Fn := ⟨1, f, 0, [], .nil⟩
def valX (n : Int) : Ex := ⟨1, [], ⟨1, [], [n]⟩, noFn, .nil⟩
def twoX (f : Fn) (x y : Ex) : Ex := ⟨6, [], noArr, f, x.cons (y.cons .nil)⟩
def oneX (f : Fn) (y : Ex) : Ex := ⟨5, [], noArr, f, y.cons .nil⟩
theorem four_new (w : World) (o1 o2 o3 o4 : Obj) : ((((w.alloc o1).alloc o2).alloc o3).alloc o4).heap[w.heap.size]? = some o1 ∧ ((((w.alloc o1).alloc o2).alloc o3).alloc o4).heap[w.heap.size + 1]? = some o2 ∧ ((((w.alloc o1).alloc o2).alloc o3).alloc o4).heap[w.heap.size + 2]? = some o3 ∧ ((((w.alloc o1).alloc o2).alloc o3).alloc o4).heap[w.heap.size + 3]? = some o4 ∧ Below w.heap.size w ((((w.alloc o1).alloc o2).alloc o3).alloc o4) ∧ ((((w.alloc o1).alloc o2).alloc o3).alloc o4).heap.size = w.heap.size + 4 := by
  have a2 : ((w.alloc o1).alloc o2).heap[w.heap.size + 1]? = some o2 := by have := heap_alloc_new (w.alloc o1) o2; simpa using this
  have a3 : (((w.alloc o1).alloc o2).alloc o3).heap[w.heap.size + 2]? = some o3 := by have := heap_alloc_new ((w.alloc o1).alloc o2) o3; simpa using this
  have a4 : ((((w.alloc o1).alloc o2).alloc o3).alloc o4).heap[w.heap.size + 3]? = some o4 := by have := heap_alloc_new (((w.alloc o1).alloc o2).alloc o3) o4; simpa using this
  refine ⟨(heap_alloc_old _ _ (by simp; omega)).trans ((heap_alloc_old _ _ (by simp; omega)).trans ((heap_alloc_old _ _ (by simp)).trans (heap_alloc_new _ _))), (heap_alloc_old _ _ (by simp)).trans ((heap_alloc_old _ _ (by simp)).trans a2), (heap_alloc_old _ _ (by simp)).trans a3, a4, (((((Below.refl _ w).alloc (Nat.le_refl _) o1).alloc (by simp) o2).alloc (by simp; omega) o3).alloc (by simp; omega) o4), by simp⟩
theorem three_new (w : World) (o1 o2 o3 : Obj) : (((w.alloc o1).alloc o2).alloc o3).heap[w.heap.size]? = some o1 ∧ (((w.alloc o1).alloc o2).alloc o3).heap[w.heap.size + 1]? = some o2 ∧ (((w.alloc o1).alloc o2).alloc o3).heap[w.heap.size + 2]? = some o3 ∧ Below w.heap.size w (((w.alloc o1).alloc o2).alloc o3) ∧ (((w.alloc o1).alloc o2).alloc o3).heap.size = w.heap.size + 3 := by
  have a2 : ((w.alloc o1).alloc o2).heap[w.heap.size + 1]? = some o2 := by have := heap_alloc_new (w.alloc o1) o2; simpa using this
  have a3 : (((w.alloc o1).alloc o2).alloc o3).heap[w.heap.size + 2]? = some o3 := by have := heap_alloc_new ((w.alloc o1).alloc o2) o3; simpa using this
  refine ⟨(heap_alloc_old _ _ (by simp; omega)).trans ((heap_alloc_old _ _ (by simp)).trans (heap_alloc_new _ _)), (heap_alloc_old _ _ (by simp)).trans a2, a3, ((((Below.refl _ w).alloc (Nat.le_refl _) o1).alloc (by simp) o2).alloc (by simp; omega) o3), by simp⟩
theorem StateA.row {w w' : World} {p : Stm × Int} {e : Ending} (h : StateA w w' p e) : ∃ a c a2 c2 b c3 k c4 d c5, e = .returned (.tuple #[.agg #[.int .i64 p.1.kind, .string (bs p.1.name), .int .i64 p.1.expr.kind, .string (bs p.1.expr.name), .int .i64 p.1.expr.val.kind, .slice a p.1.expr.val.shape.length c, .slice a2 p.1.expr.val.elems.length c2, .int .i64 p.1.expr.fn.kind, .int .i64 p.1.expr.fn.f, .int .i64 p.1.expr.fn.g, .string (bs p.1.expr.fn.name), .slice b p.1.expr.fn.body.len c3, .slice k p.1.expr.kids.len c4, .slice d p.1.body.len c5], .int .i64 p.2]) ∧
    IsS w' (.agg #[.int .i64 p.1.kind, .string (bs p.1.name), .int .i64 p.1.expr.kind, .string (bs p.1.expr.name), .int .i64 p.1.expr.val.kind, .slice a p.1.expr.val.shape.length c, .slice a2 p.1.expr.val.elems.length c2, .int .i64 p.1.expr.fn.kind, .int .i64 p.1.expr.fn.f, .int .i64 p.1.expr.fn.g, .string (bs p.1.expr.fn.name), .slice b p.1.expr.fn.body.len c3, .slice k p.1.expr.kids.len c4, .slice d p.1.body.len c5]) p.1 ∧ Below w.heap.size w w' := by
  obtain ⟨⟨xv, rfl, fx⟩, b⟩ := h
  obtain ⟨xvs, xve, xvb, xvc, xvd, rfl, x1, x2, x3, x4, x5, x6⟩ := fx.self
  obtain ⟨xa, xc, rfl, -⟩ := x1.parts
  obtain ⟨xe, xec, rfl, -⟩ := x2.parts
  obtain ⟨xb, xbc, rfl, -⟩ := x4.parts
  obtain ⟨xk, xkc, rfl, -⟩ := x5.parts
  obtain ⟨xd, xdc, rfl, -⟩ := x6.parts
  exact ⟨xa, xc, xe, xec, xb, xbc, xk, xkc, xd, xdc, rfl, ⟨_, _, _, _, _, rfl, x1, x2, x3, x4, x5, x6⟩, b⟩
def nameX (s : List UInt8) : Ex := ⟨2, s, noArr, noFn, .nil⟩
theorem al_one : treeOf [] [49, 45, 50, 45, 51] = (⟨1, [], twoX (primF 2) (valX 1) (twoX (primF 2) (valX 2) (valX 3)), .nil⟩, 0) := by decide +kernel
theorem al_two : treeOf [] [43, 47, 50, 195, 151, 97] = (⟨1, [], oneX ⟨2, 1, 0, [], .nil⟩ (twoX (primF 3) (valX 2) (nameX [97])), .nil⟩, 0) := by decide +kernel
theorem strs_nil (w : World) : Strs w (.slice none 0 0) (([] : List (List UInt8)).map bs) := ⟨none, 0, rfl, Nat.le_refl _, by omega, fun _ => rfl, fun i hi => by simp at hi⟩
end Go.Proofs.YthlingdlehdlhaaDoor.Par
