/- parse: kids are expressions, bodies are lines. Plain.
   parse: trees as lists of expressions, of lines, in memory.
   parse.Same: whether two trees are the same. -/
import Derived.Test.YthlingdlehdlhaaGreatDoorPA
import Derived.Test.YthlingdlehdlhaaGreatDoorPC
import Derived.Deep.Cut
namespace Go.Proofs.YthlingdlehdlhaaGreatDoor.Par
open Go.RowKit Go.Shelf
set_option linter.unusedVariables false
set_option linter.unusedSimpArgs false

/-- A list of expressions (or of lines), all through. -/
def Tr.ok : Tr → Bool → Bool
  | .nil, _ => true
  | .ex _ _ _ _ _ _ _ body kids next, e => e && body.ok false && kids.ok true && next.ok true
  | .ln _ _ kids next, e => !e && kids.ok true && next.ok false
def Ex.ok (x : Ex) : Bool := x.fn.body.ok false && x.kids.ok true
theorem ok_ex (x : Ex) (r : Tr) : (x.cons r).ok true = (x.ok && r.ok true) := by
  unfold Ex.cons Ex.ok; rw [Tr.ok]; rfl
theorem ok_ln (y : Ln) (r : Tr) : (y.cons r).ok false = (y.kids.ok true && r.ok false) := by
  unfold Ln.cons; rw [Tr.ok]; rfl
theorem ok_nil (e : Bool) : Tr.nil.ok e = true := by rw [Tr.ok]
theorem all_ok (F : List (List UInt8)) : ∀ n : Nat,
    (∀ ins l x r, operandF F n ins l = some (x, r) → x.ok = true) ∧
    (∀ ins ls k, axesF F n ins ls = some k → k.ok true = true) ∧
    (∀ ins l f r, functionF F n ins l = some (f, r) → f.body.ok false = true) ∧
    (∀ ins l x, exprF F n ins l = some x → x.ok = true) ∧
    (∀ ins x l y, x.ok = true → loopF F n ins x l = some y → y.ok = true) ∧
    (∀ l b, linesF F n l = some b → b.ok false = true) ∧
    (∀ ls b, manyF F n ls = some b → b.ok false = true) ∧
    (∀ l y, lineF F n l = some y → y.kids.ok true = true) := by
  intro n
  induction n with
  | zero =>
    refine ⟨?_, ?_, ?_, ?_, ?_, ?_, ?_, ?_⟩
    · intro ins l x r h; rw [operandF] at h; cases h
    · intro ins l x h; rw [axesF] at h; cases h
    · intro ins l x r h; rw [functionF] at h; cases h
    · intro ins l x h; rw [exprF] at h; cases h
    · intro ins x l y _ h; rw [loopF] at h; cases h
    · intro l b h; rw [linesF] at h; cases h
    · intro l b h; rw [manyF] at h; cases h
    · intro l b h; rw [lineF] at h; cases h
  | succ n ih =>
    obtain ⟨hO, hA, hF, hE, hL, hLs, hM, hLn⟩ := ih
    refine ⟨?_, ?_, ?_, ?_, ?_, ?_, ?_, ?_⟩
    · intro ins l x r h
      rw [operandF] at h
      cases ht : l.getLast? with
      | none => rw [ht] at h; cases h
      | some t =>
        rw [ht] at h
        simp only at h
        repeat' split at h
        all_goals first
          | (cases h; done)
          | (injection h with h; injection h with q1 q2; subst q1; first | rfl | skip)
        all_goals rename_i he
        all_goals first
          | exact hE _ _ _ he
          | (have h1 := hA _ _ _ he
             rename_i hy _ _
             have h2 := hO _ _ _ _ hy
             unfold Ex.ok; rw [ok_ex, h2, h1]; rfl)
    · intro ins ls k h
      cases ls with
      | nil => rw [axesF] at h; injection h with h; subst h; rfl
      | cons a r =>
        rw [axesF] at h
        by_cases ha : a = []
        · rw [if_pos ha] at h
          simp only at h
          split at h
          · cases h
          · rename_i k' hk
            injection h with h; subst h
            rw [ok_ex, hA _ _ _ hk]; rfl
        · rw [if_neg ha] at h
          split at h
          · cases h
          · rename_i y he
            split at h
            · cases h
            · rename_i k' hk
              injection h with h; subst h
              rw [ok_ex, hA _ _ _ hk, hE _ _ _ he]; rfl
    · intro ins l f r h
      rw [functionF] at h
      cases ht : l.getLast? with
      | none => rw [ht] at h; cases h
      | some t =>
        rw [ht] at h
        simp only at h
        repeat' split at h
        all_goals first
          | (cases h; done)
          | (injection h with h; injection h with q1 q2; subst q1; first | rfl | skip)
        all_goals rename_i he
        all_goals exact hLs _ _ he
    · intro ins l x h
      rw [exprF] at h
      split at h
      · cases h
      · rename_i y r he
        exact hL _ _ _ _ (hO _ _ _ _ he) h
    · intro ins x l y hx h
      rw [loopF] at h
      split at h
      · injection h with h; subst h; exact hx
      · split at h
        · cases h
        · rename_i f r1 hf
          split at h
          · split at h
            · cases h
            · rename_i z r2 hz
              split at h
              · refine hL _ _ _ _ ?_ h
                unfold Ex.ok; rw [ok_ex, ok_ex, hx, hO _ _ _ _ hz, hF _ _ _ _ hf]; rfl
              · cases h
          · split at h
            · refine hL _ _ _ _ ?_ h
              unfold Ex.ok; rw [ok_ex, hx, hF _ _ _ _ hf]; rfl
            · cases h
    · intro l b h
      rw [linesF] at h
      cases hm : manyF F n ((partsF l gDia).filter (· ≠ [])) with
      | none => rw [hm] at h; cases h
      | some k =>
        rw [hm] at h
        have := hM _ _ hm
        cases k with
        | nil => cases h
        | ex => injection h with h; subst h; exact this
        | ln => injection h with h; subst h; exact this
    · intro ls b h
      cases ls with
      | nil => rw [manyF] at h; injection h with h; subst h; rfl
      | cons a r =>
        rw [manyF] at h
        split at h
        · cases h
        · rename_i y hy
          split at h
          · cases h
          · rename_i k hk
            injection h with h; subst h
            rw [ok_ln, hLn _ _ hy, hM _ _ hk]; rfl
    · intro l y h
      rw [lineF] at h
      split at h
      · split at h
        · cases h
        · rename_i a ha
          split at h
          · cases h
          · rename_i b hb
            injection h with h; subst h
            show (a.cons (b.cons .nil)).ok true = true
            rw [ok_ex, ok_ex, hE _ _ _ ha, hE _ _ _ hb]; rfl
      · split at h
        · split at h
          · cases h
          · split at h
            · cases h
            · rename_i a ha
              injection h with h; subst h
              show (a.cons .nil).ok true = true
              rw [ok_ex, hE _ _ _ ha]; rfl
        · split at h
          · cases h
          · rename_i a ha
            injection h with h; subst h
            show (a.cons .nil).ok true = true
            rw [ok_ex, hE _ _ _ ha]; rfl
      · cases h
theorem stmt_ok (F : List (List UInt8)) (l : List Tok) (x : Stm) (h : stmtF F l = some x) : x.expr.ok = true ∧ x.body.ok false = true := by
  unfold stmtF at h
  split at h
  · simp only [Option.map_eq_some_iff] at h
    obtain ⟨y, hy, rfl⟩ := h
    exact ⟨(all_ok F _).2.2.2.1 _ _ _ hy, rfl⟩
  · split at h
    · cases h
    · split at h
      · simp only [Option.map_eq_some_iff] at h
        obtain ⟨b, hb, rfl⟩ := h
        exact ⟨rfl, (all_ok _ _).2.2.2.2.2.1 _ _ hb⟩
      · simp only [Option.map_eq_some_iff] at h
        obtain ⟨y, hy, rfl⟩ := h
        exact ⟨(all_ok F _).2.2.2.1 _ _ _ hy, rfl⟩
end Go.Proofs.YthlingdlehdlhaaGreatDoor.Par

namespace Go.Proofs.YthlingdlehdlhaaGreatDoor.Par
open Go.RowKit Go.Shelf
set_option linter.unusedVariables false
set_option linter.unusedSimpArgs false

def exsOf : Tr → List Ex
  | .nil => []
  | .ex k n val fk ff fg fn body kids next => ⟨k, n, val, ⟨fk, ff, fg, fn, body⟩, kids⟩ :: exsOf next
  | .ln _ _ _ _ => []
def lnsOf : Tr → List Ln
  | .nil => []
  | .ex _ _ _ _ _ _ _ _ _ _ => []
  | .ln k n kids next => ⟨k, n, kids⟩ :: lnsOf next
theorem exs_len : ∀ t : Tr, t.ok true = true → t.len = (exsOf t).length
  | .nil, _ => rfl
  | .ex k n val fk ff fg fn body kids next, h => by
    rw [Tr.ok] at h
    simp only [Bool.and_eq_true] at h
    show next.len + 1 = (exsOf next).length + 1
    rw [exs_len next h.2]
  | .ln _ _ _ _, h => by rw [Tr.ok] at h; simp at h
theorem lns_len : ∀ t : Tr, t.ok false = true → t.len = (lnsOf t).length
  | .nil, _ => rfl
  | .ex _ _ _ _ _ _ _ _ _ _, h => by rw [Tr.ok] at h; simp at h
  | .ln k n kids next, h => by
    rw [Tr.ok] at h
    simp only [Bool.and_eq_true] at h
    show next.len + 1 = (lnsOf next).length + 1
    rw [lns_len next h.2]
theorem exs_inj : ∀ s t : Tr, s.ok true = true → t.ok true = true → exsOf s = exsOf t → s = t
  | .nil, .nil, _, _, _ => rfl
  | .nil, .ex _ _ _ _ _ _ _ _ _ _, _, _, e => by cases e
  | .nil, .ln _ _ _ _, _, h, _ => by rw [Tr.ok] at h; simp at h
  | .ex _ _ _ _ _ _ _ _ _ _, .nil, _, _, e => by cases e
  | .ex k n val fk ff fg fn body kids next, .ex k' n' val' fk' ff' fg' fn' body' kids' next', h, h', e => by
    rw [Tr.ok] at h h'
    simp only [Bool.and_eq_true] at h h'
    have e' : (⟨k, n, val, ⟨fk, ff, fg, fn, body⟩, kids⟩ : Ex) = ⟨k', n', val', ⟨fk', ff', fg', fn', body'⟩, kids'⟩ ∧ exsOf next = exsOf next' := by
      unfold exsOf at e; exact ⟨(List.cons.inj e).1, (List.cons.inj e).2⟩
    obtain ⟨e1, e2⟩ := e'
    have := exs_inj next next' h.2 h'.2 e2
    simp only [Ex.mk.injEq, Fn.mk.injEq] at e1
    obtain ⟨rfl, rfl, rfl, ⟨rfl, rfl, rfl, rfl, rfl⟩, rfl⟩ := e1
    rw [this]
  | .ex _ _ _ _ _ _ _ _ _ _, .ln _ _ _ _, _, h, _ => by rw [Tr.ok] at h; simp at h
  | .ln _ _ _ _, _, h, _, _ => by rw [Tr.ok] at h; simp at h
theorem lns_inj : ∀ s t : Tr, s.ok false = true → t.ok false = true → lnsOf s = lnsOf t → s = t
  | .nil, .nil, _, _, _ => rfl
  | .nil, .ln _ _ _ _, _, _, e => by cases e
  | .nil, .ex _ _ _ _ _ _ _ _ _ _, _, h, _ => by rw [Tr.ok] at h; simp at h
  | .ln _ _ _ _, .nil, _, _, e => by cases e
  | .ln k n kids next, .ln k' n' kids' next', h, h', e => by
    rw [Tr.ok] at h h'
    simp only [Bool.and_eq_true] at h h'
    have e' : (⟨k, n, kids⟩ : Ln) = ⟨k', n', kids'⟩ ∧ lnsOf next = lnsOf next' := by
      unfold lnsOf at e; exact ⟨(List.cons.inj e).1, (List.cons.inj e).2⟩
    obtain ⟨e1, e2⟩ := e'
    have := lns_inj next next' h.2 h'.2 e2
    simp only [Ln.mk.injEq] at e1
    obtain ⟨rfl, rfl, rfl⟩ := e1
    rw [this]
  | .ln _ _ _ _, .ex _ _ _ _ _ _ _ _ _ _, _, h, _ => by rw [Tr.ok] at h; simp at h
  | .ex _ _ _ _ _ _ _ _ _ _, _, h, _, _ => by rw [Tr.ok] at h; simp at h
theorem exs_ok : ∀ t : Tr, t.ok true = true → ∀ x ∈ exsOf t, x.ok = true
  | .nil, _, x, hx => by cases hx
  | .ex k n val fk ff fg fn body kids next, h, x, hx => by
    rw [Tr.ok] at h
    simp only [Bool.and_eq_true] at h
    unfold exsOf at hx
    rcases List.mem_cons.1 hx with rfl | hx
    · unfold Ex.ok; simp [h.1.1.2, h.1.2]
    · exact exs_ok next h.2 x hx
  | .ln _ _ _ _, h, _, _ => by rw [Tr.ok] at h; simp at h
theorem lns_ok : ∀ t : Tr, t.ok false = true → ∀ x ∈ lnsOf t, x.kids.ok true = true
  | .nil, _, x, hx => by cases hx
  | .ln k n kids next, h, x, hx => by
    rw [Tr.ok] at h
    simp only [Bool.and_eq_true] at h
    unfold lnsOf at hx
    rcases List.mem_cons.1 hx with rfl | hx
    · exact h.1.2
    · exact lns_ok next h.2 x hx
  | .ex _ _ _ _ _ _ _ _ _ _, h, _, _ => by rw [Tr.ok] at h; simp at h
/-- How many nodes. -/
def Tr.sz : Tr → Nat
  | .nil => 0
  | .ex _ _ _ _ _ _ _ body kids next => body.sz + kids.sz + next.sz + 1
  | .ln _ _ kids next => kids.sz + next.sz + 1
def Ex.sz (x : Ex) : Nat := x.fn.body.sz + x.kids.sz + 1
theorem exs_sz : ∀ t : Tr, ∀ x ∈ exsOf t, x.sz ≤ t.sz
  | .nil, x, hx => by cases hx
  | .ex k n val fk ff fg fn body kids next, x, hx => by
    unfold exsOf at hx
    rw [Tr.sz]
    rcases List.mem_cons.1 hx with rfl | hx
    · unfold Ex.sz; simp only; omega
    · have := exs_sz next x hx; omega
  | .ln _ _ _ _, x, hx => by cases hx
theorem lns_sz : ∀ t : Tr, ∀ x ∈ lnsOf t, x.kids.sz + 1 ≤ t.sz
  | .nil, x, hx => by cases hx
  | .ln k n kids next, x, hx => by
    unfold lnsOf at hx
    rw [Tr.sz]
    rcases List.mem_cons.1 hx with rfl | hx
    · simp only; omega
    · have := lns_sz next x hx; omega
  | .ex _ _ _ _ _ _ _ _ _ _, x, hx => by cases hx
/-- The cells of one of them. -/
theorem at_ex (w : World) : ∀ (t : Tr) (b o : Nat), AtT w t b o → ∀ k x, (exsOf t)[k]? = some x →
    ∃ vs ve vb vc, ExAt w b (o + k * 11) x.kind x.name x.val.kind vs ve x.fn.kind x.fn.f x.fn.g x.fn.name vb vc ∧ Ints w vs x.val.shape ∧ Ints w ve x.val.elems ∧ Rng x.val.elems ∧ IsTs w vb x.fn.body ∧ IsTs w vc x.kids
  | .nil, b, o, _, k, x, h => by simp [exsOf] at h
  | .ex kd n val fk ff fg fn body kids next, b, o, hat, k, x, h => by
    obtain ⟨h1, h2⟩ := hat
    unfold exsOf at h
    cases k with
    | zero =>
      simp only [List.getElem?_cons_zero, Option.some.injEq] at h
      subst h
      rw [Nat.zero_mul, Nat.add_zero]
      exact h1
    | succ k =>
      have := at_ex w next b (o + 11) h2 k x (by simpa using h)
      rw [show o + 11 + k * 11 = o + (k + 1) * 11 by omega] at this
      exact this
  | .ln _ _ _ _, b, o, _, k, x, h => by simp [exsOf] at h
theorem at_ln (w : World) : ∀ (t : Tr) (b o : Nat), AtT w t b o → ∀ k y, (lnsOf t)[k]? = some y →
    ∃ vc, LnAt w b (o + k * 3) y.kind y.name vc ∧ IsTs w vc y.kids
  | .nil, b, o, _, k, x, h => by simp [lnsOf] at h
  | .ln kd n kids next, b, o, hat, k, x, h => by
    obtain ⟨h1, h2⟩ := hat
    unfold lnsOf at h
    cases k with
    | zero =>
      simp only [List.getElem?_cons_zero, Option.some.injEq] at h
      subst h
      rw [Nat.zero_mul, Nat.add_zero]
      exact h1
    | succ k =>
      have := at_ln w next b (o + 3) h2 k x (by simpa using h)
      rw [show o + 3 + k * 3 = o + (k + 1) * 3 by omega] at this
      exact this
  | .ex _ _ _ _ _ _ _ _ _ _, b, o, _, k, x, h => by simp [lnsOf] at h
end Go.Proofs.YthlingdlehdlhaaGreatDoor.Par

namespace Go.Proofs.YthlingdlehdlhaaGreatDoor.Par
open Go.RowKit Go.Shelf
set_option linter.unusedVariables false
set_option linter.unusedSimpArgs false

theorem IsE.below {w w' : World} {v : Value} {x : Ex} (h : IsE w v x) (hb : Below w.heap.size w w') : IsE w' v x := h.soft (Soft.of_below hb)
theorem IsLn.below {w w' : World} {v : Value} {x : Ln} (h : IsLn w v x) (hb : Below w.heap.size w w') : IsLn w' v x := h.soft (Soft.of_below hb)
theorem IsTs.below {w w' : World} {v : Value} {x : Tr} (h : IsTs w v x) (hb : Below w.heap.size w w') : IsTs w' v x := h.soft (Soft.of_below hb)
/-- Whether two expressions are the same: by how many nodes the first one has. -/
def SameEC (k : Nat) : Prop := ∀ (x y : Ex) (va vb : Value) (w : World), x.sz ≤ k → x.ok = true → y.ok = true → IsE w va x → IsE w vb y →
  Calls Tryz.prog 13 #[va, vb] w fun e w' => e = .returned (.bool (decide (x = y))) ∧ Below w.heap.size w w'
def SameLC (k : Nat) : Prop := ∀ (x y : Ln) (va vb : Value) (w : World), x.kids.sz ≤ k → x.kids.ok true = true → y.kids.ok true = true → IsLn w va x → IsLn w vb y →
  Calls Tryz.prog 47 #[va, vb] w fun e w' => e = .returned (.bool (decide (x = y))) ∧ Below w.heap.size w w'

set_option maxRecDepth 100000 in
set_option maxHeartbeats 8000000 in
theorem equalE_step (kk : Nat) (hC : SameEC kk) (s t : Tr) (va vb : Value) (w : World) (hsz : ∀ x ∈ exsOf s, x.sz ≤ kk) (hs : s.ok true = true) (ht : t.ok true = true) (hx : IsTs w va s) (hy : IsTs w vb t) :
    Calls Tryz.prog 45 #[va, vb, .func (.func 13) #[] #[]] w fun e w' => e = .returned (.bool (decide (s = t))) ∧ Below w.heap.size w w' := by
  have hdec : decide (s = t) = decide (exsOf s = exsOf t) := by
    rw [Bool.eq_iff_iff, decide_eq_true_eq, decide_eq_true_eq]
    exact ⟨fun e => by rw [e], fun e => exs_inj s t hs ht e⟩
  rw [hdec]
  have hoks := exs_ok s hs
  have hokt := exs_ok t ht
  obtain ⟨a, cap, rfl, h1, h2, h3, hc⟩ := hx
  obtain ⟨a', cap', rfl, h1', h2', h3', hc'⟩ := hy
  rw [exs_len s hs] at *
  rw [exs_len t ht] at *
  have hX : 0 < (exsOf s).length → ∃ b o, a = some ⟨b, o, none⟩ ∧ ∀ V, Below w.heap.size w V → ∀ k x, (exsOf s)[k]? = some x → _ := fun h => by
    obtain ⟨b, o, e, hat⟩ := hc h
    exact ⟨b, o, e, fun V hV => at_ex V s b o (hat.soft (Soft.of_below hV) s b o)⟩
  have hY : 0 < (exsOf t).length → ∃ b o, a' = some ⟨b, o, none⟩ ∧ ∀ V, Below w.heap.size w V → ∀ k x, (exsOf t)[k]? = some x → _ := fun h => by
    obtain ⟨b, o, e, hat⟩ := hc' h
    exact ⟨b, o, e, fun V hV => at_ex V t b o (hat.soft (Soft.of_below hV) t b o)⟩
  generalize exsOf s = X at *
  generalize exsOf t = Y at *
  clear hc hc' hs ht hdec
  have hen : ∀ args w, (callFunc 13 args).run Tryz.prog w = .ok (.enter 13 args) w := by
    intro args w
    exact enters_of Tryz.func13 (by kernel_rfl) rfl args w
  go_enter Tryz.func45, Tryz.ntmps45
  by_cases hlen : X.length = Y.length
  · have t3 : ((X.length : Int) != (Y.length : Int)) = false := by simp [hlen]
    have Hlen := hid hlen
    have hlen' : ¬ X.length < Y.length := by omega
    have hlen2 : ¬ Y.length < X.length := by omega
    clear hlen
    go_wp2_with fail
    go_loopw [7, 8, 9, 17] (fun _ _ _ i wr => ∃ k : Nat, k ≤ X.length ∧ i = .int .i64 k ∧ Hid (X.take k = Y.take k) ∧ Below w.heap.size w wr) (fun _ _ _ i _ => X.length - (intOf i).toNat)
    case atStart => exact ⟨0, by omega, rfl, hid (by simp), Below.refl _ _⟩
    case round =>
      obtain ⟨k, hk, rfl, Ht, hB⟩ := hrel
      by_cases hlt : k < X.length
      · have hd : decide (k < X.length) = true := by simpa using hlt
        have hkX : X[k]? = some X[k] := List.getElem?_eq_getElem hlt
        have hkY : Y[k]? = some (Y[k]'(by omega)) := List.getElem?_eq_getElem (by omega)
        generalize X[k] = x at *
        generalize Y[k]'(by omega) = y at *
        obtain ⟨b, o, rfl, hX1⟩ := hX (by omega)
        obtain ⟨b', o', rfl, hY1⟩ := hY (by omega)
        have hox := hoks x (List.mem_of_getElem? hkX)
        have hoy := hokt y (List.mem_of_getElem? hkY)
        have hzx := hsz x (List.mem_of_getElem? hkX)
        obtain ⟨xvs, xve, xvb, xvc, ⟨c0, c1, c2, c3, c4, c5, c6, c7, c8, c9, c10⟩, x1, x2, x3, x4, x5⟩ := hX1 wr hB k x hkX
        obtain ⟨xa, xc, rfl, -⟩ := x1.parts
        obtain ⟨xe, xec, rfl, -⟩ := x2.parts
        obtain ⟨xb, xbc, rfl, -⟩ := x4.parts
        obtain ⟨xk, xkc, rfl, -⟩ := x5.parts
        have HX := hid (show IsE wr (.agg #[.int .i64 x.kind, .string (bs x.name), .int .i64 x.val.kind, .slice xa x.val.shape.length xc, .slice xe x.val.elems.length xec, .int .i64 x.fn.kind, .int .i64 x.fn.f, .int .i64 x.fn.g, .string (bs x.fn.name), .slice xb x.fn.body.len xbc, .slice xk x.kids.len xkc]) x from ⟨_, _, _, _, rfl, x1, x2, x3, x4, x5⟩)
        clear x1 x2 x3 x4 x5
        obtain ⟨yvs, yve, yvb, yvc, ⟨d0, d1, d2, d3, d4, d5, d6, d7, d8, d9, d10⟩, y1, y2, y3, y4, y5⟩ := hY1 wr hB k y hkY
        obtain ⟨ya, yc, rfl, -⟩ := y1.parts
        obtain ⟨ye, yec, rfl, -⟩ := y2.parts
        obtain ⟨yb, ybc, rfl, -⟩ := y4.parts
        obtain ⟨yk, ykc, rfl, -⟩ := y5.parts
        have HY := hid (show IsE wr (.agg #[.int .i64 y.kind, .string (bs y.name), .int .i64 y.val.kind, .slice ya y.val.shape.length yc, .slice ye y.val.elems.length yec, .int .i64 y.fn.kind, .int .i64 y.fn.f, .int .i64 y.fn.g, .string (bs y.fn.name), .slice yb y.fn.body.len ybc, .slice yk y.kids.len ykc]) y from ⟨_, _, _, _, rfl, y1, y2, y3, y4, y5⟩)
        clear y1 y2 y3 y4 y5
        have T4 := hid (take_one X k x hkX)
        have T5 := hid (take_one Y k y hkY)
        have hki : (k : Int) < (X.length : Int) := by omega
        have hki' : (k : Int) < (Y.length : Int) := by omega
        have hold := fun O => (Below.refl _ wr).alloc (Nat.le_refl _) O
        have hnew := fun O => heap_alloc_new wr O
        clear hkX hkY hX1 hY1 hX hY hoks hokt hsz
        go_upto_region 6 with fail
        have hB1 := hold (.cells #[.int .i64 x.kind, .string (bs x.name), .int .i64 x.val.kind, .slice xa x.val.shape.length xc, .slice xe x.val.elems.length xec, .int .i64 x.fn.kind, .int .i64 x.fn.f, .int .i64 x.fn.g, .string (bs x.fn.name), .slice xb x.fn.body.len xbc, .slice xk x.kids.len xkc] 36)
        have hx1 := hnew (.cells #[.int .i64 x.kind, .string (bs x.name), .int .i64 x.val.kind, .slice xa x.val.shape.length xc, .slice xe x.val.elems.length xec, .int .i64 x.fn.kind, .int .i64 x.fn.f, .int .i64 x.fn.g, .string (bs x.fn.name), .slice xb x.fn.body.len xbc, .slice xk x.kids.len xkc] 36)
        have hz1 : wr.heap.size < (wr.alloc (.cells #[.int .i64 x.kind, .string (bs x.name), .int .i64 x.val.kind, .slice xa x.val.shape.length xc, .slice xe x.val.elems.length xec, .int .i64 x.fn.kind, .int .i64 x.fn.f, .int .i64 x.fn.g, .string (bs x.fn.name), .slice xb x.fn.body.len xbc, .slice xk x.kids.len xkc] 36)).heap.size := by simp
        generalize wr.alloc (.cells #[.int .i64 x.kind, .string (bs x.name), .int .i64 x.val.kind, .slice xa x.val.shape.length xc, .slice xe x.val.elems.length xec, .int .i64 x.fn.kind, .int .i64 x.fn.f, .int .i64 x.fn.g, .string (bs x.fn.name), .slice xb x.fn.body.len xbc, .slice xk x.kids.len xkc] 36) = w1 at *

        replace d0 := (hB1.cell (World.block_lt_of_cell? wr _ d0)).trans d0
        replace d1 := (hB1.cell (World.block_lt_of_cell? wr _ d1)).trans d1
        replace d2 := (hB1.cell (World.block_lt_of_cell? wr _ d2)).trans d2
        replace d3 := (hB1.cell (World.block_lt_of_cell? wr _ d3)).trans d3
        replace d4 := (hB1.cell (World.block_lt_of_cell? wr _ d4)).trans d4
        replace d5 := (hB1.cell (World.block_lt_of_cell? wr _ d5)).trans d5
        replace d6 := (hB1.cell (World.block_lt_of_cell? wr _ d6)).trans d6
        replace d7 := (hB1.cell (World.block_lt_of_cell? wr _ d7)).trans d7
        replace d8 := (hB1.cell (World.block_lt_of_cell? wr _ d8)).trans d8
        replace d9 := (hB1.cell (World.block_lt_of_cell? wr _ d9)).trans d9
        replace d10 := (hB1.cell (World.block_lt_of_cell? wr _ d10)).trans d10
        clear c0 c1 c2 c3 c4 c5 c6 c7 c8 c9 c10 hold hnew
        have hold := fun O => (Below.refl _ w1).alloc (Nat.le_refl _) O
        have hnew := fun O => heap_alloc_new w1 O
        have holdx := fun O => (heap_alloc_old w1 O hz1).trans hx1
        go_upto_region 7 with fail
        have hB2 := hB1.trans ((hold (.cells #[.int .i64 y.kind, .string (bs y.name), .int .i64 y.val.kind, .slice ya y.val.shape.length yc, .slice ye y.val.elems.length yec, .int .i64 y.fn.kind, .int .i64 y.fn.f, .int .i64 y.fn.g, .string (bs y.fn.name), .slice yb y.fn.body.len ybc, .slice yk y.kids.len ykc] 36)).mono hB1.size)
        have hx2 := holdx (.cells #[.int .i64 y.kind, .string (bs y.name), .int .i64 y.val.kind, .slice ya y.val.shape.length yc, .slice ye y.val.elems.length yec, .int .i64 y.fn.kind, .int .i64 y.fn.f, .int .i64 y.fn.g, .string (bs y.fn.name), .slice yb y.fn.body.len ybc, .slice yk y.kids.len ykc] 36)
        have hy2 := hnew (.cells #[.int .i64 y.kind, .string (bs y.name), .int .i64 y.val.kind, .slice ya y.val.shape.length yc, .slice ye y.val.elems.length yec, .int .i64 y.fn.kind, .int .i64 y.fn.f, .int .i64 y.fn.g, .string (bs y.fn.name), .slice yb y.fn.body.len ybc, .slice yk y.kids.len ykc] 36)
        generalize w1.alloc (.cells #[.int .i64 y.kind, .string (bs y.name), .int .i64 y.val.kind, .slice ya y.val.shape.length yc, .slice ye y.val.elems.length yec, .int .i64 y.fn.kind, .int .i64 y.fn.f, .int .i64 y.fn.g, .string (bs y.fn.name), .slice yb y.fn.body.len ybc, .slice yk y.kids.len ykc] 36) = w2 at *
        clear d0 d1 d2 d3 d4 d5 d6 d7 d8 d9 d10 hold hnew holdx hx1
        have hcall := hC x y (.agg #[.int .i64 x.kind, .string (bs x.name), .int .i64 x.val.kind, .slice xa x.val.shape.length xc, .slice xe x.val.elems.length xec, .int .i64 x.fn.kind, .int .i64 x.fn.f, .int .i64 x.fn.g, .string (bs x.fn.name), .slice xb x.fn.body.len xbc, .slice xk x.kids.len xkc]) (.agg #[.int .i64 y.kind, .string (bs y.name), .int .i64 y.val.kind, .slice ya y.val.shape.length yc, .slice ye y.val.elems.length yec, .int .i64 y.fn.kind, .int .i64 y.fn.f, .int .i64 y.fn.g, .string (bs y.fn.name), .slice yb y.fn.body.len ybc, .slice yk y.kids.len ykc]) w2 hzx hox hoy (HX.out.below hB2) (HY.out.below hB2)
        obtain ⟨R, hR⟩ : ∃ r, decide (x = y) = r := ⟨_, rfl⟩
        rw [hR] at hcall
        go_wp2_with (first
          | (refine wpList_load_rowE rfl 36 _ rfl wr.heap.size rfl 36 _ _ _ hx2 Tryz.underlying36 rfl (by kernel_rfl) ?_; go_simp)
          | (refine wpList_load_rowE rfl 36 _ rfl w1.heap.size rfl 36 _ _ _ hy2 Tryz.underlying36 rfl (by kernel_rfl) ?_; go_simp))
        refine hcall.mono ?_
        rintro e w' ⟨rfl, hb⟩
        have hB5 := hB.trans ((hB2.trans (hb.mono hB2.size)).mono hB.size)
        clear hcall hx2 hy2
        cases R with
        | true =>
          have hxy : x = y := by simpa using hR
          have HN : Hid (X.take (k + 1) = Y.take (k + 1)) := hid (by rw [T4.out, T5.out, Ht.out, hxy])
          clear hxy hR
          go_wp2_with fail
          go_roundw
          case rel => exact ⟨k + 1, by omega, by go_num, HN, hB5⟩
          case measure => simp [intOf]; omega
        | false =>
          have hxy : ¬ x = y := by simpa using hR
          have HN : Hid (X ≠ Y) := hid (fun e => by
            rw [e] at T4; have := T4.out.symm.trans T5.out; simp at this; exact hxy this)
          clear hxy hR
          go_wp2_with fail
          go_ret
          exact ⟨by rw [decide_eq_false HN.out]; rfl, hB5⟩
      · have hd : decide (k < X.length) = false := by simpa using hlt
        have HE : Hid (X = Y) := hid (by
          have := Hlen.out
          have ht := Ht.out
          rw [List.take_of_length_le (by omega), List.take_of_length_le (by omega)] at ht; exact ht)
        clear Ht
        go_wp2_with fail
        go_ret
        exact ⟨by rw [decide_eq_true HE.out]; rfl, hB⟩
  · have t3 : ((X.length : Int) != (Y.length : Int)) = true := by rw [bne_iff_ne]; omega
    have HN : Hid (X ≠ Y) := hid (fun e => hlen (by rw [e]))
    clear hlen
    go_wp2_with fail
    go_ret
    exact ⟨by rw [decide_eq_false HN.out]; rfl, Below.refl _ _⟩
set_option maxRecDepth 100000 in
set_option maxHeartbeats 8000000 in
theorem equalL_step (kk : Nat) (hC : SameLC kk) (s t : Tr) (va vb : Value) (w : World) (hsz : ∀ x ∈ lnsOf s, x.kids.sz ≤ kk) (hs : s.ok false = true) (ht : t.ok false = true) (hx : IsTs w va s) (hy : IsTs w vb t) :
    Calls Tryz.prog 46 #[va, vb, .func (.func 47) #[] #[]] w fun e w' => e = .returned (.bool (decide (s = t))) ∧ Below w.heap.size w w' := by
  have hdec : decide (s = t) = decide (lnsOf s = lnsOf t) := by
    rw [Bool.eq_iff_iff, decide_eq_true_eq, decide_eq_true_eq]
    exact ⟨fun e => by rw [e], fun e => lns_inj s t hs ht e⟩
  rw [hdec]
  have hoks := lns_ok s hs
  have hokt := lns_ok t ht
  obtain ⟨a, cap, rfl, h1, h2, h3, hc⟩ := hx
  obtain ⟨a', cap', rfl, h1', h2', h3', hc'⟩ := hy
  rw [lns_len s hs] at *
  rw [lns_len t ht] at *
  have hX : 0 < (lnsOf s).length → ∃ b o, a = some ⟨b, o, none⟩ ∧ ∀ V, Below w.heap.size w V → ∀ k x, (lnsOf s)[k]? = some x → _ := fun h => by
    obtain ⟨b, o, e, hat⟩ := hc h
    exact ⟨b, o, e, fun V hV => at_ln V s b o (hat.soft (Soft.of_below hV) s b o)⟩
  have hY : 0 < (lnsOf t).length → ∃ b o, a' = some ⟨b, o, none⟩ ∧ ∀ V, Below w.heap.size w V → ∀ k x, (lnsOf t)[k]? = some x → _ := fun h => by
    obtain ⟨b, o, e, hat⟩ := hc' h
    exact ⟨b, o, e, fun V hV => at_ln V t b o (hat.soft (Soft.of_below hV) t b o)⟩
  generalize lnsOf s = X at *
  generalize lnsOf t = Y at *
  clear hc hc' hs ht hdec
  have hen : ∀ args w, (callFunc 47 args).run Tryz.prog w = .ok (.enter 47 args) w := by
    intro args w
    exact enters_of Tryz.func47 (by kernel_rfl) rfl args w
  go_enter Tryz.func46, Tryz.ntmps46
  by_cases hlen : X.length = Y.length
  · have t3 : ((X.length : Int) != (Y.length : Int)) = false := by simp [hlen]
    have Hlen := hid hlen
    have hlen' : ¬ X.length < Y.length := by omega
    have hlen2 : ¬ Y.length < X.length := by omega
    clear hlen
    go_wp2_with fail
    go_loopw [7, 8, 9, 17] (fun _ _ _ i wr => ∃ k : Nat, k ≤ X.length ∧ i = .int .i64 k ∧ Hid (X.take k = Y.take k) ∧ Below w.heap.size w wr) (fun _ _ _ i _ => X.length - (intOf i).toNat)
    case atStart => exact ⟨0, by omega, rfl, hid (by simp), Below.refl _ _⟩
    case round =>
      obtain ⟨k, hk, rfl, Ht, hB⟩ := hrel
      by_cases hlt : k < X.length
      · have hd : decide (k < X.length) = true := by simpa using hlt
        have hkX : X[k]? = some X[k] := List.getElem?_eq_getElem hlt
        have hkY : Y[k]? = some (Y[k]'(by omega)) := List.getElem?_eq_getElem (by omega)
        generalize X[k] = x at *
        generalize Y[k]'(by omega) = y at *
        obtain ⟨b, o, rfl, hX1⟩ := hX (by omega)
        obtain ⟨b', o', rfl, hY1⟩ := hY (by omega)
        have hox := hoks x (List.mem_of_getElem? hkX)
        have hoy := hokt y (List.mem_of_getElem? hkY)
        have hzx := hsz x (List.mem_of_getElem? hkX)
        obtain ⟨xvc, ⟨c0, c1, c2⟩, x5⟩ := hX1 wr hB k x hkX
        obtain ⟨xk, xkc, rfl, -⟩ := x5.parts
        have HX := hid (show IsLn wr (.agg #[.int .i64 x.kind, .string (bs x.name), .slice xk x.kids.len xkc]) x from ⟨_, rfl, x5⟩)
        clear x5
        obtain ⟨yvc, ⟨d0, d1, d2⟩, y5⟩ := hY1 wr hB k y hkY
        obtain ⟨yk, ykc, rfl, -⟩ := y5.parts
        have HY := hid (show IsLn wr (.agg #[.int .i64 y.kind, .string (bs y.name), .slice yk y.kids.len ykc]) y from ⟨_, rfl, y5⟩)
        clear y5
        have T4 := hid (take_one X k x hkX)
        have T5 := hid (take_one Y k y hkY)
        have hki : (k : Int) < (X.length : Int) := by omega
        have hki' : (k : Int) < (Y.length : Int) := by omega
        have hold := fun O => (Below.refl _ wr).alloc (Nat.le_refl _) O
        have hnew := fun O => heap_alloc_new wr O
        clear hkX hkY hX1 hY1 hX hY hoks hokt hsz
        go_upto_region 6 with fail
        have hB1 := hold (.cells #[.int .i64 x.kind, .string (bs x.name), .slice xk x.kids.len xkc] 93)
        have hx1 := hnew (.cells #[.int .i64 x.kind, .string (bs x.name), .slice xk x.kids.len xkc] 93)
        have hz1 : wr.heap.size < (wr.alloc (.cells #[.int .i64 x.kind, .string (bs x.name), .slice xk x.kids.len xkc] 93)).heap.size := by simp
        generalize wr.alloc (.cells #[.int .i64 x.kind, .string (bs x.name), .slice xk x.kids.len xkc] 93) = w1 at *

        replace d0 := (hB1.cell (World.block_lt_of_cell? wr _ d0)).trans d0
        replace d1 := (hB1.cell (World.block_lt_of_cell? wr _ d1)).trans d1
        replace d2 := (hB1.cell (World.block_lt_of_cell? wr _ d2)).trans d2
        clear c0 c1 c2 hold hnew
        have hold := fun O => (Below.refl _ w1).alloc (Nat.le_refl _) O
        have hnew := fun O => heap_alloc_new w1 O
        have holdx := fun O => (heap_alloc_old w1 O hz1).trans hx1
        go_upto_region 7 with fail
        have hB2 := hB1.trans ((hold (.cells #[.int .i64 y.kind, .string (bs y.name), .slice yk y.kids.len ykc] 93)).mono hB1.size)
        have hx2 := holdx (.cells #[.int .i64 y.kind, .string (bs y.name), .slice yk y.kids.len ykc] 93)
        have hy2 := hnew (.cells #[.int .i64 y.kind, .string (bs y.name), .slice yk y.kids.len ykc] 93)
        generalize w1.alloc (.cells #[.int .i64 y.kind, .string (bs y.name), .slice yk y.kids.len ykc] 93) = w2 at *
        clear d0 d1 d2 hold hnew holdx hx1
        have hcall := hC x y (.agg #[.int .i64 x.kind, .string (bs x.name), .slice xk x.kids.len xkc]) (.agg #[.int .i64 y.kind, .string (bs y.name), .slice yk y.kids.len ykc]) w2 hzx hox hoy (HX.out.below hB2) (HY.out.below hB2)
        obtain ⟨R, hR⟩ : ∃ r, decide (x = y) = r := ⟨_, rfl⟩
        rw [hR] at hcall
        go_wp2_with (first
          | (refine wpList_load_rowE rfl 93 _ rfl wr.heap.size rfl 93 _ _ _ hx2 Tryz.underlying93 rfl (by kernel_rfl) ?_; go_simp)
          | (refine wpList_load_rowE rfl 93 _ rfl w1.heap.size rfl 93 _ _ _ hy2 Tryz.underlying93 rfl (by kernel_rfl) ?_; go_simp))
        refine hcall.mono ?_
        rintro e w' ⟨rfl, hb⟩
        have hB5 := hB.trans ((hB2.trans (hb.mono hB2.size)).mono hB.size)
        clear hcall hx2 hy2
        cases R with
        | true =>
          have hxy : x = y := by simpa using hR
          have HN : Hid (X.take (k + 1) = Y.take (k + 1)) := hid (by rw [T4.out, T5.out, Ht.out, hxy])
          clear hxy hR
          go_wp2_with fail
          go_roundw
          case rel => exact ⟨k + 1, by omega, by go_num, HN, hB5⟩
          case measure => simp [intOf]; omega
        | false =>
          have hxy : ¬ x = y := by simpa using hR
          have HN : Hid (X ≠ Y) := hid (fun e => by
            rw [e] at T4; have := T4.out.symm.trans T5.out; simp at this; exact hxy this)
          clear hxy hR
          go_wp2_with fail
          go_ret
          exact ⟨by rw [decide_eq_false HN.out]; rfl, hB5⟩
      · have hd : decide (k < X.length) = false := by simpa using hlt
        have HE : Hid (X = Y) := hid (by
          have := Hlen.out
          have ht := Ht.out
          rw [List.take_of_length_le (by omega), List.take_of_length_le (by omega)] at ht; exact ht)
        clear Ht
        go_wp2_with fail
        go_ret
        exact ⟨by rw [decide_eq_true HE.out]; rfl, hB⟩
  · have t3 : ((X.length : Int) != (Y.length : Int)) = true := by rw [bne_iff_ne]; omega
    have HN : Hid (X ≠ Y) := hid (fun e => hlen (by rw [e]))
    clear hlen
    go_wp2_with fail
    go_ret
    exact ⟨by rw [decide_eq_false HN.out]; rfl, Below.refl _ _⟩
/-- A statement, as a value. -/
def IsS (w : World) (v : Value) (s : Stm) : Prop :=
  ∃ vs ve vb vc vd, v = .agg #[.int .i64 s.kind, .string (bs s.name), .int .i64 s.expr.kind, .string (bs s.expr.name), .int .i64 s.expr.val.kind, vs, ve, .int .i64 s.expr.fn.kind, .int .i64 s.expr.fn.f, .int .i64 s.expr.fn.g, .string (bs s.expr.fn.name), vb, vc, vd] ∧ Ints w vs s.expr.val.shape ∧ Ints w ve s.expr.val.elems ∧ Rng s.expr.val.elems ∧ IsTs w vb s.expr.fn.body ∧ IsTs w vc s.expr.kids ∧ IsTs w vd s.body
theorem two_new (w : World) (o1 o2 : Obj) : ((w.alloc o1).alloc o2).heap[w.heap.size]? = some o1 ∧ ((w.alloc o1).alloc o2).heap[w.heap.size + 1]? = some o2 ∧ Below w.heap.size w ((w.alloc o1).alloc o2) :=
  ⟨(heap_alloc_old _ _ (by simp)).trans (heap_alloc_new _ _), by have := heap_alloc_new (w.alloc o1) o2; simpa using this, ((Below.refl _ w).alloc (Nat.le_refl _) o1).alloc (by simp) o2⟩
theorem st_facts {w : World} {b : Nat} {a0 a1 a2 a3 a4 a5 a6 a7 a8 a9 a10 a11 a12 a13 : Value} {T : TypeId} (z : w.heap[b]? = some (.cells #[a0, a1, a2, a3, a4, a5, a6, a7, a8, a9, a10, a11, a12, a13] T)) : w.cell? ⟨b, 0, none⟩ = some a0 ∧ w.cell? ⟨b, 1, none⟩ = some a1 ∧ w.cell? ⟨b, 2, none⟩ = some a2 ∧ w.cell? ⟨b, 3, none⟩ = some a3 ∧ w.cell? ⟨b, 4, none⟩ = some a4 ∧ w.cell? ⟨b, 5, none⟩ = some a5 ∧ w.cell? ⟨b, 6, none⟩ = some a6 ∧ w.cell? ⟨b, 7, none⟩ = some a7 ∧ w.cell? ⟨b, 8, none⟩ = some a8 ∧ w.cell? ⟨b, 9, none⟩ = some a9 ∧ w.cell? ⟨b, 10, none⟩ = some a10 ∧ w.cell? ⟨b, 11, none⟩ = some a11 ∧ w.cell? ⟨b, 12, none⟩ = some a12 ∧ w.cell? ⟨b, 13, none⟩ = some a13 := by
  refine ⟨?_, ?_, ?_, ?_, ?_, ?_, ?_, ?_, ?_, ?_, ?_, ?_, ?_, ?_⟩
  all_goals (rw [Lib.cell_of_heap z]; rfl)
set_option maxRecDepth 100000 in
set_option maxHeartbeats 8000000 in
theorem sameL1_step (kk : Nat) (hC : SameEC kk) : SameLC kk := by
  intro x y va vb w hz hx hy ix iy
  obtain ⟨xv, rfl, xi⟩ := ix
  obtain ⟨yv, rfl, yi⟩ := iy
  obtain ⟨xk, xkc, rfl, -⟩ := xi.parts
  obtain ⟨yk, ykc, rfl, -⟩ := yi.parts
  obtain ⟨D, hD⟩ : ∃ d, decide (x = y) = d := ⟨_, rfl⟩
  rw [hD]
  have HD := hid hD.symm
  clear hD
  go_enter Tryz.func47, Tryz.ntmps47
  go_upto_region 1 with fail
  obtain ⟨hX, hY, hB⟩ := two_new w (.cells #[.int .i64 x.kind, .string (bs x.name), .slice xk x.kids.len xkc] 93) (.cells #[.int .i64 y.kind, .string (bs y.name), .slice yk y.kids.len ykc] 93)
  generalize (w.alloc (.cells #[.int .i64 x.kind, .string (bs x.name), .slice xk x.kids.len xkc] 93)).alloc (.cells #[.int .i64 y.kind, .string (bs y.name), .slice yk y.kids.len ykc] 93) = w2 at *
  have hXl := (Array.getElem?_eq_some_iff.1 hX).1
  have hYl := (Array.getElem?_eq_some_iff.1 hY).1
  obtain ⟨c0, c1, c2⟩ := (ln_facts hX).1
  obtain ⟨d0, d1, d2⟩ := (ln_facts hY).1
  by_cases h0 : x.kind = y.kind
  · have t0 : (x.kind == y.kind) = true := by simp [h0]
    have h0 := hid h0
    by_cases h1 : x.name = y.name
    · have t1 : ((bs x.name).toList == (bs y.name).toList) = true := by rw [bs_txt]; exact decide_eq_true h1
      have h1 := hid h1
      have hcall := equalE_step kk hC x.kids y.kids _ _ w2 (fun z hz2 => Nat.le_trans (exs_sz _ z hz2) hz) hx hy (xi.below hB) (yi.below hB)
      obtain ⟨R, hR⟩ : ∃ r, decide (x.kids = y.kids) = r := ⟨_, rfl⟩
      rw [hR] at hcall
      have HR := hid hR
      clear hR
      go_wp2_with fail
      refine hcall.mono ?_
      rintro e w' ⟨rfl, hb⟩
      clear c0 c1 c2 d0 d1 d2 hcall
      have HN : Hid (D = R) := hid (by
        rw [HD.out, ← HR.out, Bool.eq_iff_iff, decide_eq_true_eq, decide_eq_true_eq]
        have e0 := h0.out
        have e1 := h1.out
        obtain ⟨k, n, ks⟩ := x
        obtain ⟨k', n', ks'⟩ := y
        simp only at e0 e1
        subst e0 e1
        simp)
      clear HD
      go_wp2_with fail
      go_ret
      exact ⟨by rw [HN.out]; rfl, hB.trans (hb.mono hB.size)⟩
    · have t1 : ((bs x.name).toList == (bs y.name).toList) = false := by rw [bs_txt]; exact decide_eq_false h1
      have HN : Hid (D = false) := hid (by rw [HD.out]; exact decide_eq_false (fun e => h1 (by rw [e])))
      clear HD h1
      go_wp2_with fail
      go_ret
      exact ⟨by rw [HN.out]; rfl, hB⟩
  · have t0 : (x.kind == y.kind) = false := by simpa using h0
    have HN : Hid (D = false) := hid (by rw [HD.out]; exact decide_eq_false (fun e => h0 (by rw [e])))
    clear HD h0
    go_wp2_with fail
    go_ret
    exact ⟨by rw [HN.out]; rfl, hB⟩
set_option maxRecDepth 100000 in
theorem sameLines_step (kk : Nat) (hC : SameEC kk) (s t : Tr) (va vb : Value) (w : World) (hz : s.sz ≤ kk) (hs : s.ok false = true) (ht : t.ok false = true) (hx : IsTs w va s) (hy : IsTs w vb t) :
    Calls Tryz.prog 14 #[va, vb] w fun e w' => e = .returned (.bool (decide (s = t))) ∧ Below w.heap.size w w' := by
  have h := equalL_step kk (sameL1_step kk hC) s t va vb w (fun z hz2 => by have := lns_sz _ z hz2; omega) hs ht hx hy
  obtain ⟨a, c, rfl, -⟩ := hx.parts
  obtain ⟨a', c', rfl, -⟩ := hy.parts
  obtain ⟨D, hD⟩ : ∃ d, decide (s = t) = d := ⟨_, rfl⟩
  rw [hD] at h ⊢
  clear hD
  go_enter Tryz.func14, Tryz.ntmps14
  go_wp2_with fail
  refine h.mono ?_
  rintro e w' ⟨rfl, hb⟩
  go_wp2_with fail
  go_ret
  exact ⟨rfl, hb⟩
set_option maxRecDepth 100000 in
set_option maxHeartbeats 8000000 in
theorem sameFun_step (kk : Nat) (hC : SameEC kk) (x y : Fn) (va vb : Value) (w : World) (hz : x.body.sz ≤ kk) (hx : x.body.ok false = true) (hy : y.body.ok false = true) (ix : IsF w va x) (iy : IsF w vb y) :
    Calls Tryz.prog 44 #[va, vb] w fun e w' => e = .returned (.bool (decide (x = y))) ∧ Below w.heap.size w w' := by
  obtain ⟨xv, rfl, xi⟩ := ix
  obtain ⟨yv, rfl, yi⟩ := iy
  obtain ⟨xb, xbc, rfl, -⟩ := xi.parts
  obtain ⟨yb, ybc, rfl, -⟩ := yi.parts
  obtain ⟨D, hD⟩ : ∃ d, decide (x = y) = d := ⟨_, rfl⟩
  rw [hD]
  have HD := hid hD.symm
  clear hD
  go_enter Tryz.func44, Tryz.ntmps44
  go_upto_region 1 with fail
  obtain ⟨hX, hY, hB⟩ := two_new w (.cells #[.int .i64 x.kind, .int .i64 x.f, .int .i64 x.g, .string (bs x.name), .slice xb x.body.len xbc] 33) (.cells #[.int .i64 y.kind, .int .i64 y.f, .int .i64 y.g, .string (bs y.name), .slice yb y.body.len ybc] 33)
  generalize (w.alloc (.cells #[.int .i64 x.kind, .int .i64 x.f, .int .i64 x.g, .string (bs x.name), .slice xb x.body.len xbc] 33)).alloc (.cells #[.int .i64 y.kind, .int .i64 y.f, .int .i64 y.g, .string (bs y.name), .slice yb y.body.len ybc] 33) = w2 at *
  have hXl := (Array.getElem?_eq_some_iff.1 hX).1
  have hYl := (Array.getElem?_eq_some_iff.1 hY).1
  obtain ⟨c0, c1, c2, c3, c4⟩ := (fn_facts hX).1
  obtain ⟨d0, d1, d2, d3, d4⟩ := (fn_facts hY).1
  by_cases h0 : x.kind = y.kind
  · have t0 : (x.kind == y.kind) = true := by simp [h0]
    have h0 := hid h0
    by_cases h1 : x.f = y.f
    · have t1 : (x.f == y.f) = true := by simp [h1]
      have h1 := hid h1
      by_cases h2 : x.g = y.g
      · have t2 : (x.g == y.g) = true := by simp [h2]
        have h2 := hid h2
        by_cases h3 : x.name = y.name
        · have t3 : ((bs x.name).toList == (bs y.name).toList) = true := by rw [bs_txt]; exact decide_eq_true h3
          have h3 := hid h3
          have hcall := sameLines_step kk hC x.body y.body _ _ w2 hz hx hy (xi.below hB) (yi.below hB)
          obtain ⟨R, hR⟩ : ∃ r, decide (x.body = y.body) = r := ⟨_, rfl⟩
          rw [hR] at hcall
          have HR := hid hR
          clear hR
          go_wp2_with fail
          refine hcall.mono ?_
          rintro e w' ⟨rfl, hb⟩
          clear c0 c1 c2 c3 c4 d0 d1 d2 d3 d4 hcall
          have HN : Hid (D = R) := hid (by
            rw [HD.out, ← HR.out, Bool.eq_iff_iff, decide_eq_true_eq, decide_eq_true_eq]
            have e0 := h0.out
            have e1 := h1.out
            have e2 := h2.out
            have e3 := h3.out
            obtain ⟨k, f, g, n, ks⟩ := x
            obtain ⟨k', f', g', n', ks'⟩ := y
            simp only at e0 e1 e2 e3
            subst e0 e1 e2 e3
            simp)
          clear HD
          go_wp2_with fail
          go_ret
          exact ⟨by rw [HN.out]; rfl, hB.trans (hb.mono hB.size)⟩
        · have t3 : ((bs x.name).toList == (bs y.name).toList) = false := by rw [bs_txt]; exact decide_eq_false h3
          have HN : Hid (D = false) := hid (by rw [HD.out]; exact decide_eq_false (fun e => h3 (by rw [e])))
          clear HD h3
          go_wp2_with fail
          go_ret
          exact ⟨by rw [HN.out]; rfl, hB⟩
      · have t2 : (x.g == y.g) = false := by simpa using h2
        have HN : Hid (D = false) := hid (by rw [HD.out]; exact decide_eq_false (fun e => h2 (by rw [e])))
        clear HD h2
        go_wp2_with fail
        go_ret
        exact ⟨by rw [HN.out]; rfl, hB⟩
    · have t1 : (x.f == y.f) = false := by simpa using h1
      have HN : Hid (D = false) := hid (by rw [HD.out]; exact decide_eq_false (fun e => h1 (by rw [e])))
      clear HD h1
      go_wp2_with fail
      go_ret
      exact ⟨by rw [HN.out]; rfl, hB⟩
  · have t0 : (x.kind == y.kind) = false := by simpa using h0
    have HN : Hid (D = false) := hid (by rw [HD.out]; exact decide_eq_false (fun e => h0 (by rw [e])))
    clear HD h0
    go_wp2_with fail
    go_ret
    exact ⟨by rw [HN.out]; rfl, hB⟩
theorem same_dec (va vb : Value) (x y : Arr) (w : World) (hx : IsArr w va x) (hy : IsArr w vb y) : Calls Tryz.prog 43 #[va, vb] w fun e w' => e = .returned (.bool (decide (x = y))) ∧ Below w.heap.size w w' := by
  have e : sameB x y = decide (x = y) := by rw [Bool.eq_iff_iff, sameB_eq, decide_eq_true_eq]
  rw [← e]; exact same_any va vb x y w hx hy
set_option maxRecDepth 100000 in
set_option maxHeartbeats 8000000 in
theorem sameExpr_step (kk : Nat) (hC : SameEC kk) : SameEC (kk + 1) := by
  intro x y va vb w hz hx hy ix iy
  obtain ⟨xvs, xve, xvb, xvc, rfl, x1, x2, x3, x4, x5⟩ := ix
  obtain ⟨yvs, yve, yvb, yvc, rfl, y1, y2, y3, y4, y5⟩ := iy
  unfold Ex.sz at hz
  unfold Ex.ok at hx hy
  simp only [Bool.and_eq_true] at hx hy
  obtain ⟨xa, xc, rfl, -⟩ := x1.parts
  obtain ⟨xe, xec, rfl, -⟩ := x2.parts
  obtain ⟨xb, xbc, rfl, -⟩ := x4.parts
  obtain ⟨xk, xkc, rfl, -⟩ := x5.parts
  obtain ⟨ya, yc, rfl, -⟩ := y1.parts
  obtain ⟨ye, yec, rfl, -⟩ := y2.parts
  obtain ⟨yb, ybc, rfl, -⟩ := y4.parts
  obtain ⟨yk, ykc, rfl, -⟩ := y5.parts
  obtain ⟨D, hD⟩ : ∃ d, decide (x = y) = d := ⟨_, rfl⟩
  rw [hD]
  have HD := hid hD.symm
  clear hD
  go_enter Tryz.func13, Tryz.ntmps13
  go_upto_region 1 with fail
  obtain ⟨hX, hY, hB⟩ := two_new w (.cells #[.int .i64 x.kind, .string (bs x.name), .int .i64 x.val.kind, .slice xa x.val.shape.length xc, .slice xe x.val.elems.length xec, .int .i64 x.fn.kind, .int .i64 x.fn.f, .int .i64 x.fn.g, .string (bs x.fn.name), .slice xb x.fn.body.len xbc, .slice xk x.kids.len xkc] 36) (.cells #[.int .i64 y.kind, .string (bs y.name), .int .i64 y.val.kind, .slice ya y.val.shape.length yc, .slice ye y.val.elems.length yec, .int .i64 y.fn.kind, .int .i64 y.fn.f, .int .i64 y.fn.g, .string (bs y.fn.name), .slice yb y.fn.body.len ybc, .slice yk y.kids.len ykc] 36)
  generalize (w.alloc (.cells #[.int .i64 x.kind, .string (bs x.name), .int .i64 x.val.kind, .slice xa x.val.shape.length xc, .slice xe x.val.elems.length xec, .int .i64 x.fn.kind, .int .i64 x.fn.f, .int .i64 x.fn.g, .string (bs x.fn.name), .slice xb x.fn.body.len xbc, .slice xk x.kids.len xkc] 36)).alloc (.cells #[.int .i64 y.kind, .string (bs y.name), .int .i64 y.val.kind, .slice ya y.val.shape.length yc, .slice ye y.val.elems.length yec, .int .i64 y.fn.kind, .int .i64 y.fn.f, .int .i64 y.fn.g, .string (bs y.fn.name), .slice yb y.fn.body.len ybc, .slice yk y.kids.len ykc] 36) = w2 at *
  have hXl := (Array.getElem?_eq_some_iff.1 hX).1
  have hYl := (Array.getElem?_eq_some_iff.1 hY).1
  obtain ⟨c0, c1, c2, c3, c4, c5, c6, c7, c8, c9, c10⟩ := (ex_facts hX).1
  obtain ⟨d0, d1, d2, d3, d4, d5, d6, d7, d8, d9, d10⟩ := (ex_facts hY).1
  by_cases h0 : x.kind = y.kind
  · have t0 : (x.kind == y.kind) = true := by simp [h0]
    have h0 := hid h0
    by_cases h1 : x.name = y.name
    · have t1 : ((bs x.name).toList == (bs y.name).toList) = true := by rw [bs_txt]; exact decide_eq_true h1
      have h1 := hid h1
      have hcall := same_dec (.agg #[.int .i64 x.val.kind, .slice xa x.val.shape.length xc, .slice xe x.val.elems.length xec]) (.agg #[.int .i64 y.val.kind, .slice ya y.val.shape.length yc, .slice ye y.val.elems.length yec]) x.val y.val w2 ⟨_, _, rfl, x1.below hB, x2.below hB, x3⟩ ⟨_, _, rfl, y1.below hB, y2.below hB, y3⟩
      obtain ⟨R, hR⟩ : ∃ r, decide (x.val = y.val) = r := ⟨_, rfl⟩
      rw [hR] at hcall
      have HR := hid hR
      clear hR
      go_wp2_with fail
      refine hcall.mono ?_
      rintro e w' ⟨rfl, hb⟩
      clear c0 c1 c2 c3 c4 c5 c6 c7 c8 c9 c10 d0 d1 d2 d3 d4 d5 d6 d7 d8 d9 d10 hcall
      replace hX := (hb.block _ hXl).trans hX
      replace hY := (hb.block _ hYl).trans hY
      replace hB := hB.trans (hb.mono hB.size)
      have hXl := (Array.getElem?_eq_some_iff.1 hX).1
      have hYl := (Array.getElem?_eq_some_iff.1 hY).1
      obtain ⟨c0, c1, c2, c3, c4, c5, c6, c7, c8, c9, c10⟩ := (ex_facts hX).1
      obtain ⟨d0, d1, d2, d3, d4, d5, d6, d7, d8, d9, d10⟩ := (ex_facts hY).1
      clear hb
      cases R with
      | false =>
        have h2 : ¬ x.val = y.val := by simpa using HR.out
        have HN : Hid (D = false) := hid (by rw [HD.out]; exact decide_eq_false (fun e => h2 (by rw [e])))
        clear HD
        go_wp2_with fail
        go_ret
        exact ⟨by rw [HN.out]; rfl, hB⟩
      | true =>
        have h2 := hid (show x.val = y.val by simpa using HR.out)
        clear HR
        have hcall := sameFun_step kk hC x.fn y.fn (.agg #[.int .i64 x.fn.kind, .int .i64 x.fn.f, .int .i64 x.fn.g, .string (bs x.fn.name), .slice xb x.fn.body.len xbc]) (.agg #[.int .i64 y.fn.kind, .int .i64 y.fn.f, .int .i64 y.fn.g, .string (bs y.fn.name), .slice yb y.fn.body.len ybc]) _ (by omega) hx.1 hy.1 ⟨_, rfl, x4.below hB⟩ ⟨_, rfl, y4.below hB⟩
        obtain ⟨R, hR⟩ : ∃ r, decide (x.fn = y.fn) = r := ⟨_, rfl⟩
        rw [hR] at hcall
        have HR := hid hR
        clear hR
        go_wp2_with fail
        refine hcall.mono ?_
        rintro e w' ⟨rfl, hb⟩
        clear c0 c1 c2 c3 c4 c5 c6 c7 c8 c9 c10 d0 d1 d2 d3 d4 d5 d6 d7 d8 d9 d10 hcall
        replace hX := (hb.block _ hXl).trans hX
        replace hY := (hb.block _ hYl).trans hY
        replace hB := hB.trans (hb.mono hB.size)
        have hXl := (Array.getElem?_eq_some_iff.1 hX).1
        have hYl := (Array.getElem?_eq_some_iff.1 hY).1
        obtain ⟨c0, c1, c2, c3, c4, c5, c6, c7, c8, c9, c10⟩ := (ex_facts hX).1
        obtain ⟨d0, d1, d2, d3, d4, d5, d6, d7, d8, d9, d10⟩ := (ex_facts hY).1
        clear hb
        cases R with
        | false =>
          have h3 : ¬ x.fn = y.fn := by simpa using HR.out
          have HN : Hid (D = false) := hid (by rw [HD.out]; exact decide_eq_false (fun e => h3 (by rw [e])))
          clear HD
          go_wp2_with fail
          go_ret
          exact ⟨by rw [HN.out]; rfl, hB⟩
        | true =>
          have h3 := hid (show x.fn = y.fn by simpa using HR.out)
          clear HR
          have hcall := equalE_step kk hC x.kids y.kids _ _ _ (fun z hz2 => by have := exs_sz _ z hz2; omega) hx.2 hy.2 (x5.below hB) (y5.below hB)
          obtain ⟨R, hR⟩ : ∃ r, decide (x.kids = y.kids) = r := ⟨_, rfl⟩
          rw [hR] at hcall
          have HR := hid hR
          clear hR
          go_wp2_with fail
          refine hcall.mono ?_
          rintro e w' ⟨rfl, hb⟩
          clear c0 c1 c2 c3 c4 c5 c6 c7 c8 c9 c10 d0 d1 d2 d3 d4 d5 d6 d7 d8 d9 d10 hcall
          have HN : Hid (D = R) := hid (by
            rw [HD.out, ← HR.out, Bool.eq_iff_iff, decide_eq_true_eq, decide_eq_true_eq]
            have e0 := h0.out
            have e1 := h1.out
            have e2 := h2.out
            have e3 := h3.out
            obtain ⟨k, n, v, f, ks⟩ := x
            obtain ⟨k', n', v', f', ks'⟩ := y
            simp only at e0 e1 e2 e3
            subst e0 e1 e2 e3
            simp)
          clear HD
          go_wp2_with fail
          go_ret
          exact ⟨by rw [HN.out]; rfl, hB.trans (hb.mono hB.size)⟩
    · have t1 : ((bs x.name).toList == (bs y.name).toList) = false := by rw [bs_txt]; exact decide_eq_false h1
      have HN : Hid (D = false) := hid (by rw [HD.out]; exact decide_eq_false (fun e => h1 (by rw [e])))
      clear HD h1
      go_wp2_with fail
      go_ret
      exact ⟨by rw [HN.out]; rfl, hB⟩
  · have t0 : (x.kind == y.kind) = false := by simpa using h0
    have HN : Hid (D = false) := hid (by rw [HD.out]; exact decide_eq_false (fun e => h0 (by rw [e])))
    clear HD h0
    go_wp2_with fail
    go_ret
    exact ⟨by rw [HN.out]; rfl, hB⟩
theorem sameExpr_any (k : Nat) : SameEC k := by
  induction k with
  | zero => intro x y va vb w hz; unfold Ex.sz at hz; omega
  | succ k ih => exact sameExpr_step k ih
set_option maxRecDepth 100000 in
set_option maxHeartbeats 8000000 in
theorem pSame_any (x y : Stm) (va vb : Value) (w : World) (hx1 : x.expr.ok = true) (hx2 : x.body.ok false = true) (hy1 : y.expr.ok = true) (hy2 : y.body.ok false = true) (ix : IsS w va x) (iy : IsS w vb y) :
    Calls Tryz.prog 12 #[va, vb] w fun e w' => e = .returned (.bool (decide (x = y))) ∧ Below w.heap.size w w' := by
  obtain ⟨xvs, xve, xvb, xvc, xvd, rfl, x1, x2, x3, x4, x5, x6⟩ := ix
  obtain ⟨yvs, yve, yvb, yvc, yvd, rfl, y1, y2, y3, y4, y5, y6⟩ := iy
  obtain ⟨xa, xc, rfl, -⟩ := x1.parts
  obtain ⟨xe, xec, rfl, -⟩ := x2.parts
  obtain ⟨xb, xbc, rfl, -⟩ := x4.parts
  obtain ⟨xk, xkc, rfl, -⟩ := x5.parts
  obtain ⟨xd, xdc, rfl, -⟩ := x6.parts
  obtain ⟨ya, yc, rfl, -⟩ := y1.parts
  obtain ⟨ye, yec, rfl, -⟩ := y2.parts
  obtain ⟨yb, ybc, rfl, -⟩ := y4.parts
  obtain ⟨yk, ykc, rfl, -⟩ := y5.parts
  obtain ⟨yd, ydc, rfl, -⟩ := y6.parts
  obtain ⟨D, hD⟩ : ∃ d, decide (x = y) = d := ⟨_, rfl⟩
  rw [hD]
  have HD := hid hD.symm
  clear hD
  go_enter Tryz.func12, Tryz.ntmps12
  go_upto_region 1 with fail
  obtain ⟨hX, hY, hB⟩ := two_new w (.cells #[.int .i64 x.kind, .string (bs x.name), .int .i64 x.expr.kind, .string (bs x.expr.name), .int .i64 x.expr.val.kind, .slice xa x.expr.val.shape.length xc, .slice xe x.expr.val.elems.length xec, .int .i64 x.expr.fn.kind, .int .i64 x.expr.fn.f, .int .i64 x.expr.fn.g, .string (bs x.expr.fn.name), .slice xb x.expr.fn.body.len xbc, .slice xk x.expr.kids.len xkc, .slice xd x.body.len xdc] 38) (.cells #[.int .i64 y.kind, .string (bs y.name), .int .i64 y.expr.kind, .string (bs y.expr.name), .int .i64 y.expr.val.kind, .slice ya y.expr.val.shape.length yc, .slice ye y.expr.val.elems.length yec, .int .i64 y.expr.fn.kind, .int .i64 y.expr.fn.f, .int .i64 y.expr.fn.g, .string (bs y.expr.fn.name), .slice yb y.expr.fn.body.len ybc, .slice yk y.expr.kids.len ykc, .slice yd y.body.len ydc] 38)
  generalize (w.alloc (.cells #[.int .i64 x.kind, .string (bs x.name), .int .i64 x.expr.kind, .string (bs x.expr.name), .int .i64 x.expr.val.kind, .slice xa x.expr.val.shape.length xc, .slice xe x.expr.val.elems.length xec, .int .i64 x.expr.fn.kind, .int .i64 x.expr.fn.f, .int .i64 x.expr.fn.g, .string (bs x.expr.fn.name), .slice xb x.expr.fn.body.len xbc, .slice xk x.expr.kids.len xkc, .slice xd x.body.len xdc] 38)).alloc (.cells #[.int .i64 y.kind, .string (bs y.name), .int .i64 y.expr.kind, .string (bs y.expr.name), .int .i64 y.expr.val.kind, .slice ya y.expr.val.shape.length yc, .slice ye y.expr.val.elems.length yec, .int .i64 y.expr.fn.kind, .int .i64 y.expr.fn.f, .int .i64 y.expr.fn.g, .string (bs y.expr.fn.name), .slice yb y.expr.fn.body.len ybc, .slice yk y.expr.kids.len ykc, .slice yd y.body.len ydc] 38) = w2 at *
  have hXl := (Array.getElem?_eq_some_iff.1 hX).1
  have hYl := (Array.getElem?_eq_some_iff.1 hY).1
  obtain ⟨c0, c1, c2, c3, c4, c5, c6, c7, c8, c9, c10, c11, c12, c13⟩ := st_facts hX
  obtain ⟨d0, d1, d2, d3, d4, d5, d6, d7, d8, d9, d10, d11, d12, d13⟩ := st_facts hY
  by_cases h0 : x.kind = y.kind
  · have t0 : (x.kind == y.kind) = true := by simp [h0]
    have h0 := hid h0
    by_cases h1 : x.name = y.name
    · have t1 : ((bs x.name).toList == (bs y.name).toList) = true := by rw [bs_txt]; exact decide_eq_true h1
      have h1 := hid h1
      have hcall := sameExpr_any x.expr.sz x.expr y.expr (.agg #[.int .i64 x.expr.kind, .string (bs x.expr.name), .int .i64 x.expr.val.kind, .slice xa x.expr.val.shape.length xc, .slice xe x.expr.val.elems.length xec, .int .i64 x.expr.fn.kind, .int .i64 x.expr.fn.f, .int .i64 x.expr.fn.g, .string (bs x.expr.fn.name), .slice xb x.expr.fn.body.len xbc, .slice xk x.expr.kids.len xkc]) (.agg #[.int .i64 y.expr.kind, .string (bs y.expr.name), .int .i64 y.expr.val.kind, .slice ya y.expr.val.shape.length yc, .slice ye y.expr.val.elems.length yec, .int .i64 y.expr.fn.kind, .int .i64 y.expr.fn.f, .int .i64 y.expr.fn.g, .string (bs y.expr.fn.name), .slice yb y.expr.fn.body.len ybc, .slice yk y.expr.kids.len ykc]) w2 (Nat.le_refl _) hx1 hy1 ⟨_, _, _, _, rfl, x1.below hB, x2.below hB, x3, x4.below hB, x5.below hB⟩ ⟨_, _, _, _, rfl, y1.below hB, y2.below hB, y3, y4.below hB, y5.below hB⟩
      obtain ⟨R, hR⟩ : ∃ r, decide (x.expr = y.expr) = r := ⟨_, rfl⟩
      rw [hR] at hcall
      have HR := hid hR
      clear hR
      go_wp2_with fail
      refine hcall.mono ?_
      rintro e w' ⟨rfl, hb⟩
      clear c0 c1 c2 c3 c4 c5 c6 c7 c8 c9 c10 c11 c12 c13 d0 d1 d2 d3 d4 d5 d6 d7 d8 d9 d10 d11 d12 d13 hcall
      replace hX := (hb.block _ hXl).trans hX
      replace hY := (hb.block _ hYl).trans hY
      replace hB := hB.trans (hb.mono hB.size)
      have hXl := (Array.getElem?_eq_some_iff.1 hX).1
      have hYl := (Array.getElem?_eq_some_iff.1 hY).1
      obtain ⟨c0, c1, c2, c3, c4, c5, c6, c7, c8, c9, c10, c11, c12, c13⟩ := st_facts hX
      obtain ⟨d0, d1, d2, d3, d4, d5, d6, d7, d8, d9, d10, d11, d12, d13⟩ := st_facts hY
      clear hb
      cases R with
      | false =>
        have h2 : ¬ x.expr = y.expr := by simpa using HR.out
        have HN : Hid (D = false) := hid (by rw [HD.out]; exact decide_eq_false (fun e => h2 (by rw [e])))
        clear HD
        go_wp2_with fail
        go_ret
        exact ⟨by rw [HN.out]; rfl, hB⟩
      | true =>
        have h2 := hid (show x.expr = y.expr by simpa using HR.out)
        clear HR
        have hcall := sameLines_step x.body.sz (sameExpr_any _) x.body y.body _ _ _ (Nat.le_refl _) hx2 hy2 (x6.below hB) (y6.below hB)
        obtain ⟨R, hR⟩ : ∃ r, decide (x.body = y.body) = r := ⟨_, rfl⟩
        rw [hR] at hcall
        have HR := hid hR
        clear hR
        go_wp2_with fail
        refine hcall.mono ?_
        rintro e w' ⟨rfl, hb⟩
        clear c0 c1 c2 c3 c4 c5 c6 c7 c8 c9 c10 c11 c12 c13 d0 d1 d2 d3 d4 d5 d6 d7 d8 d9 d10 d11 d12 d13 hcall
        have HN : Hid (D = R) := hid (by
          rw [HD.out, ← HR.out, Bool.eq_iff_iff, decide_eq_true_eq, decide_eq_true_eq]
          have e0 := h0.out
          have e1 := h1.out
          have e2 := h2.out
          obtain ⟨k, n, e, b⟩ := x
          obtain ⟨k', n', e', b'⟩ := y
          simp only at e0 e1 e2
          subst e0 e1 e2
          simp)
        clear HD
        go_wp2_with fail
        go_ret
        exact ⟨by rw [HN.out]; rfl, hB.trans (hb.mono hB.size)⟩
    · have t1 : ((bs x.name).toList == (bs y.name).toList) = false := by rw [bs_txt]; exact decide_eq_false h1
      have HN : Hid (D = false) := hid (by rw [HD.out]; exact decide_eq_false (fun e => h1 (by rw [e])))
      clear HD h1
      go_wp2_with fail
      go_ret
      exact ⟨by rw [HN.out]; rfl, hB⟩
  · have t0 : (x.kind == y.kind) = false := by simpa using h0
    have HN : Hid (D = false) := hid (by rw [HD.out]; exact decide_eq_false (fun e => h0 (by rw [e])))
    clear HD h0
    go_wp2_with fail
    go_ret
    exact ⟨by rw [HN.out]; rfl, hB⟩
end Go.Proofs.YthlingdlehdlhaaGreatDoor.Par
