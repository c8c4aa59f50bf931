/- parse: the text of what is told: its tokens can be told one behind the other, and are not many; the tree is whole. Plain. -/
import Derived.Test.YtijfnnjgcgmnaaaGreatDoorPBack0
import Derived.Test.YtijfnnjgcgmnaaaGreatDoorPTrees
import Derived.Test.YtijfnnjgcgmnaaaGreatDoorLexLaw
namespace Go.Proofs.YtijfnnjgcgmnaaaGreatDoor.Par
open Go.RowKit Go.Shelf
set_option linter.unusedVariables false
set_option linter.unusedSimpArgs false

/-- No two values side by side. -/
def NoTwo : List Tok → Prop
  | [] => True
  | t :: r => (∀ u s, r = u :: s → t.kind = 1 → u.kind ≠ 1) ∧ NoTwo r
theorem NoTwo.one (t : Tok) : NoTwo [t] := ⟨(fun u s e => by cases e), trivial⟩
theorem NoTwo.right {u : Tok} {m : List Tok} (h : NoTwo (u :: m)) (hu : u.kind ≠ 1) : ∀ {a : List Tok}, NoTwo a → NoTwo (a ++ u :: m) := by
  intro a
  induction a with
  | nil => intro _; exact h
  | cons t r ih =>
    intro ha
    refine ⟨fun v s e hk => ?_, ih ha.2⟩
    cases r with
    | nil => have e : u :: m = v :: s := e; injection e with e1 e2; subst e1; exact hu
    | cons v' s' => have e : v' :: (s' ++ u :: m) = v :: s := e; injection e with e1 e2; subst e1; exact ha.1 _ _ rfl hk
theorem NoTwo.left {w : Tok} (hw : w.kind ≠ 1) {b : List Tok} (hb : NoTwo b) : ∀ {m : List Tok}, NoTwo (m ++ [w]) → NoTwo (m ++ [w] ++ b) := by
  intro m
  induction m with
  | nil => intro _; exact ⟨(fun _ _ _ hk => absurd hk hw), hb⟩
  | cons t r ih =>
    intro h
    refine ⟨fun v s e hk => ?_, ih h.2⟩
    cases r with
    | nil => have e : w :: b = v :: s := e; injection e with e1 e2; subst e1; exact hw
    | cons v' s' => have e : v' :: (s' ++ [w] ++ b) = v :: s := e; injection e with e1 e2; subst e1; exact h.1 _ _ rfl hk
/-- Tokens that can be told one behind the other. -/
structure Fine (T : List Tok) : Prop where
  good : ∀ t ∈ T, Good t
  two : NoTwo T
theorem Fine.chain {T : List Tok} (h : Fine T) : Chain T := by
  induction T with
  | nil => trivial
  | cons t r ih =>
    refine ⟨h.good t (by simp), fun u s e hn => ?_, ih ⟨fun u hu => h.good u (by simp [hu]), h.two.2⟩⟩
    unfold isNumT at hn ⊢
    simp only [Bool.and_eq_true, decide_eq_true_eq] at hn
    have := h.two.1 u s e hn.1
    simp [this]
theorem Fine.nil : Fine [] := ⟨by simp, trivial⟩
theorem Fine.one {t : Tok} (h : Good t) : Fine [t] := ⟨by simpa using h, .one t⟩
theorem good_gl {s : List UInt8} (h : s ∈ glyChars) : Good (gl s) := .inr (.inr ⟨rfl, h, rfl⟩)
theorem good_nm {t : Tok} (h : Good t) (hk : t.kind = 2) : Good (nm t.txt) := by
  rcases h with ⟨k, -⟩ | ⟨k, hn, hv⟩ | ⟨k, -⟩
  · omega
  · exact .inr (.inl ⟨rfl, hn, rfl⟩)
  · omega
theorem good_vl {t : Tok} (h : Good t) (hk : t.kind = 1) : Good (vl t.val) := by
  rcases h with ⟨k, hn, hv, hr⟩ | ⟨k, -⟩ | ⟨k, -⟩
  · exact .inl ⟨rfl, rfl, hv, hr⟩
  · omega
  · omega
theorem gl_three (s : List UInt8) : (gl s).kind ≠ 1 := by show (3 : Int) ≠ 1; decide
theorem nm_two (s : List UInt8) : (nm s).kind ≠ 1 := by show (2 : Int) ≠ 1; decide
theorem Fine.cons {u : Tok} {b : List Tok} (hu : Good u) (h1 : u.kind ≠ 1) (hb : Fine b) : Fine (u :: b) :=
  ⟨fun t ht => by
    rcases List.mem_cons.1 ht with rfl | ht
    · exact hu
    · exact hb.good t ht, (fun _ _ _ hk => absurd hk h1), hb.two⟩
theorem Fine.right {u : Tok} {a m : List Tok} (ha : Fine a) (h : Fine (u :: m)) (hu : u.kind ≠ 1) : Fine (a ++ u :: m) :=
  ⟨fun t ht => by
    rcases List.mem_append.1 ht with ht | ht
    · exact ha.good t ht
    · exact h.good t ht, h.two.right hu ha.two⟩
theorem Fine.left {w : Tok} {m b : List Tok} (h : Fine (m ++ [w])) (hw : w.kind ≠ 1) (hb : Fine b) : Fine (m ++ [w] ++ b) :=
  ⟨fun t ht => by
    rcases List.mem_append.1 ht with ht | ht
    · exact h.good t ht
    · exact hb.good t ht, NoTwo.left hw hb.two h.two⟩
theorem Fine.glue {a b : List Tok} {s : List UInt8} (ha : Fine a) (hs : s ∈ glyChars) (hb : Fine b) : Fine (a ++ gl s :: b) := ha.right (.cons (good_gl hs) (gl_three s) hb) (gl_three s)
theorem Fine.encl {l : List Tok} {s t : List UInt8} (hl : Fine l) (hs : s ∈ glyChars) (ht : t ∈ glyChars) : Fine (encl (gl s) (gl t) l) := .cons (good_gl hs) (gl_three s) (hl.glue ht .nil)
theorem Fine.wrap {l : List Tok} (hl : Fine l) : Fine (wrap l) := hl.encl (s := gLP) (t := gRP) (by decide) (by decide)
theorem Fine.join {g : List UInt8} (hg : g ∈ glyChars) : ∀ ts : List (List Tok), (∀ t ∈ ts, Fine t) → Fine (joinG g ts) := by
  intro ts
  induction ts with
  | nil => intro _; exact .nil
  | cons a r ih =>
    intro h
    cases r with
    | nil => exact h a (by simp)
    | cons b r => exact (h a (by simp)).glue hg (ih fun t ht => h t (by simp only [List.mem_cons] at ht ⊢; exact .inr ht))
theorem join_len (g : List UInt8) : ∀ ts : List (List Tok), ts ≠ [] → (joinG g ts).length + 1 = need ts := by
  intro ts
  induction ts with
  | nil => intro h; exact absurd rfl h
  | cons a r ih =>
    intro _
    cases r with
    | nil => rw [need_cons, need_nil]; rfl
    | cons b r =>
      have := ih (by simp)
      rw [need_cons]
      show (a ++ gl g :: joinG g (b :: r)).length + 1 = _
      rw [List.length_append, List.length_cons]; omega
/-- A function's text. -/
structure FnT (T : List Tok) : Prop where
  fine : Fine T
  front : ∃ u m, T = u :: m ∧ u.kind ≠ 1
  back : ∃ m w, T = m ++ [w] ∧ w.kind ≠ 1
theorem FnT.of {a b : Tok} {l m : List Tok} (h : Fine (a :: l)) (ha : a.kind ≠ 1) (e : a :: l = m ++ [b]) (hb : b.kind ≠ 1) : FnT (a :: l) := ⟨h, ⟨a, l, rfl, ha⟩, ⟨m, b, e, hb⟩⟩
theorem FnT.one {s : List UInt8} (h : s ∈ glyChars) : FnT [gl s] := .of (.one (good_gl h)) (gl_three s) (m := []) rfl (gl_three s)
theorem FnT.two {s t : List UInt8} (h : s ∈ glyChars) (h2 : t ∈ glyChars) : FnT [gl s, gl t] := .of (.cons (good_gl h) (gl_three s) (.one (good_gl h2))) (gl_three s) (m := [gl s]) rfl (gl_three t)
theorem FnT.three {s t u : List UInt8} (h : s ∈ glyChars) (h2 : t ∈ glyChars) (h3 : u ∈ glyChars) : FnT [gl s, gl t, gl u] := .of (.cons (good_gl h) (gl_three s) (.cons (good_gl h2) (gl_three t) (.one (good_gl h3)))) (gl_three s) (m := [gl s, gl t]) rfl (gl_three u)
theorem FnT.name {s : List UInt8} (h : Good (nm s)) : FnT [nm s] := .of (.one h) (nm_two s) (m := []) rfl (nm_two s)
theorem FnT.brace {l : List Tok} (h : Fine l) : FnT (encl (gl gLC) (gl gRC) l) := .of (m := gl gLC :: l) (h.encl (by decide) (by decide)) (gl_three _) rfl (gl_three _)
theorem FnT.ahead {f x : List Tok} (hf : FnT f) (hx : Fine x) : Fine (f ++ x) := by
  obtain ⟨h, -, m, w, rfl, hw⟩ := hf
  exact h.left hw hx
theorem FnT.between {y f x : List Tok} (hy : Fine y) (hf : FnT f) (hx : Fine x) : Fine (y ++ f ++ x) := by
  have h1 : Fine (y ++ f) := by
    obtain ⟨h, ⟨u, m, rfl, hu⟩, -⟩ := hf
    exact hy.right h hu
  obtain ⟨-, -, m, w, rfl, hw⟩ := hf
  rw [← List.append_assoc] at h1 ⊢
  exact h1.left hw hx

/-- A tree that has what its kinds ask. -/
def WfT : Tr → Prop
  | .nil => True
  | .ex k _ val _ _ _ _ body kids next => (WfT body ∧ WfT kids ∧ (k = 5 → 1 ≤ kids.len) ∧ (k = 6 → 2 ≤ kids.len) ∧ (k = 7 → 1 ≤ kids.len) ∧ val.shape.length ≤ 1000000 ∧ val.elems.length ≤ 1000000) ∧ WfT next
  | .ln k _ kids next => (WfT kids ∧ 1 ≤ kids.len ∧ (k = 3 → 2 ≤ kids.len)) ∧ WfT next
def WfE (x : Ex) : Prop := WfT x.fn.body ∧ WfT x.kids ∧ (x.kind = 5 → 1 ≤ x.kids.len) ∧ (x.kind = 6 → 2 ≤ x.kids.len) ∧ (x.kind = 7 → 1 ≤ x.kids.len) ∧ x.val.shape.length ≤ 1000000 ∧ x.val.elems.length ≤ 1000000
def WfL (y : Ln) : Prop := WfT y.kids ∧ 1 ≤ y.kids.len ∧ (y.kind = 3 → 2 ≤ y.kids.len)
theorem wf_nil : WfT .nil := trivial
theorem wf_ex {x : Ex} {r : Tr} (hx : WfE x) (hr : WfT r) : WfT (x.cons r) := ⟨hx, hr⟩
theorem wf_ln {y : Ln} {r : Tr} (hx : WfL y) (hr : WfT r) : WfT (y.cons r) := ⟨hx, hr⟩
theorem wf_chainE : ∀ xs : List Ex, (∀ x ∈ xs, WfE x) → WfT (chainE xs)
  | [], _ => trivial
  | x :: r, h => wf_ex (h x (by simp)) (wf_chainE r fun y hy => h y (by simp [hy]))
theorem wf_chainL : ∀ xs : List Ln, (∀ x ∈ xs, WfL x) → WfT (chainL xs)
  | [], _ => trivial
  | x :: r, h => wf_ln (h x (by simp)) (wf_chainL r fun y hy => h y (by simp [hy]))
theorem wf_exs : ∀ t : Tr, WfT t → ∀ x ∈ exsOf t, WfE x
  | .nil, _, x, hx => by cases hx
  | .ex k n val fk ff fg fn body kids next, h, x, hx => by
    unfold exsOf at hx
    rcases List.mem_cons.1 hx with rfl | hx
    · exact h.1
    · exact wf_exs next h.2 x hx
  | .ln _ _ _ _, _, x, hx => by cases hx
theorem wf_lns : ∀ t : Tr, WfT t → ∀ x ∈ lnsOf t, WfL x
  | .nil, _, x, hx => by cases hx
  | .ln k n kids next, h, x, hx => by
    unfold lnsOf at hx
    rcases List.mem_cons.1 hx with rfl | hx
    · exact h.1
    · exact wf_lns next h.2 x hx
  | .ex _ _ _ _ _ _ _ _ _ _, _, x, hx => by cases hx
theorem show_exs : ∀ t : Tr, t.ok true = true → showT t = (exsOf t).map fun x => (textE x, closedE x)
  | .nil, _ => rfl
  | .ex k n val fk ff fg fn body kids next, h => by
    rw [Tr.ok] at h
    simp only [Bool.and_eq_true] at h
    unfold exsOf
    rw [List.map_cons, ← show_exs next h.2]
    rfl
  | .ln _ _ _ _, h => by rw [Tr.ok] at h; simp at h
theorem show_lns : ∀ t : Tr, t.ok false = true → (showT t).map Prod.fst = (lnsOf t).map textL
  | .nil, _ => rfl
  | .ln k n kids next, h => by
    rw [Tr.ok] at h
    simp only [Bool.and_eq_true] at h
    unfold lnsOf
    rw [List.map_cons, ← show_lns next h.2]
    rfl
  | .ex _ _ _ _ _ _ _ _ _ _, h => by rw [Tr.ok] at h; simp at h

/-- What is told of so many tokens. -/
structure XF (x : Ex) (c : Nat) : Prop where
  wf : WfE x
  fine : Fine (textE x)
  len : (closedE x).length + 2 ≤ 3 * c
theorem closed_le (x : Ex) : (textE x).length ≤ (closedE x).length := by
  unfold closedE
  split
  · rw [wrap_len]; omega
  · exact Nat.le_refl _
theorem closed_fine {x : Ex} (h : Fine (textE x)) : Fine (closedE x) := by
  unfold closedE
  split
  · exact h.wrap
  · exact h
theorem XF.base {x : Ex} {c : Nat} (hk : ¬ (x.kind = 5 ∨ x.kind = 6)) (wf : WfE x) (T : List Tok) (ht : textE x = T) (hf : Fine T) (hl : T.length + 2 ≤ 3 * c) : XF x c := by
  subst ht
  exact ⟨wf, hf, by rw [show closedE x = textE x from if_neg hk]; exact hl⟩
theorem XF.wrapped {x : Ex} {c : Nat} (hk : x.kind = 5 ∨ x.kind = 6) (wf : WfE x) (T : List Tok) (ht : textE x = T) (hf : Fine T) (hl : T.length + 4 ≤ 3 * c) : XF x c := by
  subst ht
  exact ⟨wf, hf, by rw [show closedE x = Par.wrap (textE x) from if_pos hk, wrap_len]; omega⟩
theorem XF.more {x : Ex} {c d : Nat} (h : XF x c) (hd : c ≤ d) : XF x d := ⟨h.wf, h.fine, by have := h.len; omega⟩
theorem XF.tlen {x : Ex} {c : Nat} (h : XF x c) : (textE x).length + 2 ≤ 3 * c := by have := h.len; have := closed_le x; omega
structure FF (f : Fn) (c : Nat) : Prop where
  wf : WfT f.body
  fn : FnT (textF f)
  len : (textF f).length + 2 ≤ 3 * c
structure LF (y : Ln) (c : Nat) : Prop where
  wf : WfL y
  fine : Fine (textL y)
  len : (textL y).length ≤ 3 * c
theorem openedR_le : ∀ (l : List Tok) (d : Int), openedR d l ≤ l.length - 1
  | [], d => Nat.le_refl _
  | t :: r, d => by
    rw [openedR]
    split
    · simp
    · have := openedR_le r (d + wt t)
      simp only [List.length_cons]; omega
theorem opened_le (l : List Tok) : openedF l ≤ l.length - 1 := by
  have := openedR_le l.reverse 0
  rw [List.length_reverse] at this; exact this
def Goods (l : List Tok) : Prop := ∀ t ∈ l, Good t
theorem Goods.take {l : List Tok} (h : Goods l) (k : Nat) : Goods (l.take k) := fun t ht => h t (List.mem_of_mem_take ht)
theorem Goods.drop {l : List Tok} (h : Goods l) (k : Nat) : Goods (l.drop k) := fun t ht => h t (List.mem_of_mem_drop ht)
theorem Goods.init {l : List Tok} (h : Goods l) : Goods l.dropLast := fun t ht => h t (List.dropLast_subset _ ht)
theorem Goods.last {l : List Tok} {t : Tok} (h : Goods l) (ht : l.getLast? = some t) : Good t := h t (List.mem_of_getLast? ht)
def Took (l r : List Tok) (c : Nat) : Prop := Goods r ∧ r.length + c = l.length ∧ 0 < c
theorem Took.init {l : List Tok} {t : Tok} (hg : Goods l) (h : l.getLast? = some t) : Took l l.dropLast 1 := ⟨hg.init, by have := (last_get h).2; rw [List.length_dropLast]; omega, by omega⟩
theorem Took.trans {l r s : List Tok} {c d : Nat} (h : Took l r c) (k : Took r s d) : Took l s (d + c) := ⟨k.1, by have := h.2.1; have := k.2.1; omega, by have := h.2.2; omega⟩
theorem good_fn {s : List UInt8} (h : 0 < fnF s) : s ∈ glyChars := by
  have h1 : ∀ s ∈ mixedG, s ∈ glyChars := by decide
  have h2 : ∀ s ∈ glyph12, s ∈ glyChars := by decide
  rcases fn_pos h with h | h
  · exact h1 s h
  · exact h2 s h
theorem good_12 {s : List UInt8} (h : s ∈ glyph12) : s ∈ glyChars := good_fn (bin_fn h)
theorem wf_no {k : Int} (hk : k ≠ 5 ∧ k ≠ 6 ∧ k ≠ 7) (s : List UInt8) (a : Arr) (ha : a.shape.length ≤ 1000000 ∧ a.elems.length ≤ 1000000) : WfE ⟨k, s, a, noFn, .nil⟩ :=
  ⟨trivial, trivial, (fun e => absurd e hk.1), (fun e => absurd e hk.2.1), (fun e => absurd e hk.2.2), ha.1, ha.2⟩
theorem noArr_small : noArr.shape.length ≤ 1000000 ∧ noArr.elems.length ≤ 1000000 := ⟨Nat.zero_le _, Nat.zero_le _⟩
theorem good_arr {t : Tok} (h : Good t) : t.val.shape.length ≤ 1000000 ∧ t.val.elems.length ≤ 1000000 :=
  chain_small (l := [t]) ⟨h, (fun u s e => by cases e), trivial⟩ t (by simp)
theorem goods_part {l : List Tok} (h : Goods l) (s : List UInt8) : ∀ a ∈ partsF l s, Goods a := fun a ha t ht => h t (part_sub ha ht)
section
variable (F : List (List UInt8))
theorem ff_prim {s : List UInt8} (h : 0 < fnF s) (c : Nat) (hc : 0 < c) : FF ⟨1, fnF s, 0, [], .nil⟩ c := by
  have ht : textF ⟨1, fnF s, 0, [], .nil⟩ = [gl s] := by simp [textF, funT, fn_gly h]
  exact ⟨trivial, by rw [ht]; exact .one (good_fn h), by rw [ht]; simp only [List.length_cons, List.length_nil]; omega⟩
set_option maxHeartbeats 1000000 in
/-- What is told of good tokens is whole, and its text is fine. -/
theorem all_fine : ∀ n : Nat,
    (∀ ins l x r, Goods l → operandF F n ins l = some (x, r) → ∃ c, Took l r c ∧ XF x c) ∧
    (∀ ins ls k, (∀ l ∈ ls, Goods l) → axesF F n ins ls = some k → ∃ xs, k = chainE xs ∧ (∀ x ∈ xs, WfE x ∧ Fine (textE x)) ∧ xs.length = ls.length ∧ need (xs.map textE) + 2 * ls.length ≤ 3 * need ls) ∧
    (∀ ins l f r, Goods l → functionF F n ins l = some (f, r) → ∃ c, Took l r c ∧ FF f c) ∧
    (∀ ins l x, Goods l → exprF F n ins l = some x → XF x l.length) ∧
    (∀ ins x l y c, Goods l → XF x c → loopF F n ins x l = some y → XF y (l.length + c)) ∧
    (∀ l b, Goods l → linesF F n l = some b → WfT b ∧ FnT (encl (gl gLC) (gl gRC) (joinG gDia ((showT b).map Prod.fst))) ∧ (joinG gDia ((showT b).map Prod.fst)).length ≤ 3 * l.length) ∧
    (∀ ls b, (∀ l ∈ ls, Goods l) → manyF F n ls = some b → ∃ ys, b = chainL ys ∧ (∀ y ∈ ys, WfL y ∧ Fine (textL y)) ∧ ys.length = ls.length ∧ need (ys.map textL) + 2 * ls.length ≤ 3 * need ls) ∧
    (∀ l y, Goods l → lineF F n l = some y → LF y l.length) := by
  intro n
  induction n with
  | zero =>
    refine ⟨?_, ?_, ?_, ?_, ?_, ?_, ?_, ?_⟩
    · intro ins l x r _ h; rw [operandF] at h; cases h
    · intro ins l x _ h; rw [axesF] at h; cases h
    · intro ins l x r _ h; rw [functionF] at h; cases h
    · intro ins l x _ h; rw [exprF] at h; cases h
    · intro ins x l y c _ _ h; rw [loopF] at h; cases h
    · intro l b _ h; rw [linesF] at h; cases h
    · intro l b _ h; rw [manyF] at h; cases h
    · intro l b _ h; rw [lineF] at h; cases h
  | succ n ih =>
    obtain ⟨hO, hA, hF, hE, hL, hLs, hM, hLn⟩ := ih
    refine ⟨?_, ?_, ?_, ?_, ?_, ?_, ?_, ?_⟩
    · intro ins l x r hg h
      rw [operandF] at h
      cases ht : l.getLast? with
      | none => rw [ht] at h; cases h
      | some t =>
        have hl := (last_get ht).2
        have hop := opened_le l
        have hgt := hg.last ht
        rw [ht] at h
        simp only at h
        by_cases k1 : t.kind = 1
        · rw [if_pos k1] at h
          injection h with h; injection h with h1 h2; subst h1 h2
          exact ⟨1, .init hg ht, .base (by simp) (wf_no (by decide) _ _ (good_arr hgt)) [vl t.val] (by simp [textE, exT]) (.one (good_vl hgt k1)) (by simp)⟩
        rw [if_neg k1] at h
        by_cases k2 : t.kind = 2
        · rw [if_pos k2] at h
          split at h
          · cases h
          injection h with h; injection h with h1 h2; subst h1 h2
          exact ⟨1, .init hg ht, .base (by simp) (wf_no (by decide) _ _ noArr_small) [nm t.txt] (by simp [textE, exT]) (.one (good_nm hgt k2)) (by simp)⟩
        rw [if_neg k2] at h
        split at h
        · split at h
          · cases h
          · rename_i y he
            injection h with h; injection h with h1 h2; subst h1 h2
            have hy := hE _ _ _ (hg.init.drop _) he
            have hlen : (l.dropLast.drop (openedF l + 1)).length = l.length - 1 - (openedF l + 1) := by rw [List.length_drop, List.length_dropLast]
            have h2 := hy.len
            rw [hlen] at h2
            refine ⟨l.length - openedF l, ⟨hg.take _, by rw [List.length_take]; omega, by omega⟩, hy.more (by rw [hlen]; omega)⟩
        split at h
        · split at h
          · cases h
          · rename_i y r' he
            split at h
            · cases h
            · rename_i k hk
              injection h with h; injection h with h1 h2; subst h1 h2
              obtain ⟨c, ⟨t1, t2, t3⟩, hx⟩ := hO _ _ _ _ (hg.take _) he
              obtain ⟨xs, rfl, e2, e3, e4⟩ := hA _ _ _ (goods_part (hg.init.drop _) _) hk
              rw [need_parts, List.length_drop, List.length_dropLast] at e4
              have hne : xs ≠ [] := fun e => by
                rw [e] at e3
                exact partsR_ne _ _ _ _ _ (List.eq_nil_of_length_eq_zero e3.symm)
              have hpos : 0 < xs.length := List.length_pos_iff.2 hne
              have htx : textE ⟨7, [], noArr, noFn, y.cons (chainE xs)⟩ = closedE y ++ encl (gl gLB) (gl gRB) (joinG gSemi (xs.map textE)) := by
                show exT 7 [] noArr (textF noFn) (showT (y.cons (chainE xs))) = _
                rw [showT_ex, showT_exs]
                simp [exT, nth, Function.comp_def]
              have hj := join_len gSemi (xs.map textE) (by simpa using hne)
              have hjf : Fine (joinG gSemi (xs.map textE)) := Fine.join (by decide) _ fun t ht => by
                obtain ⟨z, hz, rfl⟩ := List.mem_map.1 ht
                exact (e2 z hz).2
              rw [List.length_take] at t2
              have h2 := hx.len
              refine ⟨c + (l.length - openedF l), ⟨t1, by omega, by omega⟩, .base (by simp) ?_ _ htx ?_ ?_⟩
              · refine ⟨trivial, wf_ex hx.wf (wf_chainE _ fun z hz => (e2 z hz).1), (fun e => absurd (show (7 : Int) = 5 from e) (by decide)), (fun e => absurd (show (7 : Int) = 6 from e) (by decide)), (fun _ => by show 1 ≤ (chainE xs).len + 1; omega), Nat.zero_le _, Nat.zero_le _⟩
              · exact (closed_fine hx.fine).right (hjf.encl (by decide) (by decide)) (gl_three _)
              · rw [List.length_append, encl_len]; omega
        split at h
        · injection h with h; injection h with h1 h2; subst h1 h2
          exact ⟨1, .init hg ht, .base (by simp) (wf_no (by decide) _ _ noArr_small) [gl gAlpha] (by simp [textE, exT]) (.one (good_gl (by decide))) (by simp)⟩
        split at h
        · injection h with h; injection h with h1 h2; subst h1 h2
          exact ⟨1, .init hg ht, .base (by simp) (wf_no (by decide) _ _ noArr_small) [gl gOmega] (by simp [textE, exT]) (.one (good_gl (by decide))) (by simp)⟩
        · cases h
    · intro ins ls k hg h
      cases ls with
      | nil =>
        rw [axesF] at h; injection h with h; subst h
        exact ⟨[], rfl, by simp, rfl, by simp [need]⟩
      | cons a r =>
        rw [axesF] at h
        have hgr := fun l hl => hg l (List.mem_cons_of_mem a hl)
        by_cases ha : a = []
        · subst ha
          rw [if_pos rfl] at h
          simp only at h
          split at h
          · cases h
          · rename_i k' hk
            injection h with h; subst h
            obtain ⟨xs, rfl, e2, e3, e4⟩ := hA _ _ _ hgr hk
            refine ⟨noneEx :: xs, rfl, fun x hx => ?_, by simp [e3], ?_⟩
            · rcases List.mem_cons.1 hx with rfl | hx
              · exact ⟨wf_no (by decide) _ _ noArr_small, by rw [noneEx_text]; exact .nil⟩
              · exact e2 x hx
            · rw [List.map_cons, need_cons, need_cons, noneEx_text, List.length_cons]
              simp only [List.length_nil]; omega
        · rw [if_neg ha] at h
          split at h
          · cases h
          · rename_i y he
            split at h
            · cases h
            · rename_i k' hk
              injection h with h; subst h
              obtain ⟨xs, rfl, e2, e3, e4⟩ := hA _ _ _ hgr hk
              have hy := hE _ _ _ (hg a (by simp)) he
              have h2 := hy.tlen
              refine ⟨y :: xs, rfl, fun x hx => ?_, by simp [e3], ?_⟩
              · rcases List.mem_cons.1 hx with rfl | hx
                · exact ⟨hy.wf, hy.fine⟩
                · exact e2 x hx
              · rw [List.map_cons, need_cons, need_cons, List.length_cons]; omega
    · intro ins l f r hg h
      rw [functionF] at h
      cases ht : l.getLast? with
      | none => rw [ht] at h; cases h
      | some t =>
        have hl := (last_get ht).2
        have hop := opened_le l
        have hgt := hg.last ht
        have hT := Took.init hg ht
        rw [ht] at h
        simp only at h
        split at h
        · rename_i hf
          injection h with h; injection h with h1 h2; subst h1 h2
          unfold isFun at hf
          simp only [Bool.and_eq_true, decide_eq_true_eq] at hf
          have htx : textF ⟨6, 0, 0, t.txt, .nil⟩ = [nm t.txt] := by simp [textF, funT]
          exact ⟨1, hT, trivial, by rw [htx]; exact .name (good_nm hgt hf.1), by rw [htx]; simp⟩
        split at h
        · injection h with h; injection h with h1 h2; subst h1 h2
          have htx : textF ⟨8, 0, 0, [], .nil⟩ = [gl gDel] := by simp [textF, funT]
          exact ⟨1, hT, trivial, by rw [htx]; exact .one (by decide), by rw [htx]; simp⟩
        split at h
        · split at h
          · cases h
          · rename_i b hb
            injection h with h; injection h with h1 h2; subst h1 h2
            obtain ⟨w1, w2, w3⟩ := hLs _ _ (hg.init.drop _) hb
            rw [List.length_drop, List.length_dropLast] at w3
            have htx : textF ⟨7, 0, 0, [], b⟩ = encl (gl gLC) (gl gRC) (joinG gDia ((showT b).map Prod.fst)) := by simp [textF, funT]
            by_cases ho : openedF l + 2 ≤ l.length
            · exact ⟨l.length - openedF l, ⟨hg.take _, by rw [List.length_take]; omega, by omega⟩, w1, by rw [htx]; exact w2, by rw [htx, encl_len]; omega⟩
            · exfalso
              have hnil : l.dropLast.drop (openedF l + 1) = [] := List.drop_eq_nil_of_le (by rw [List.length_dropLast]; omega)
              rw [hnil] at hb
              cases n with
              | zero => rw [linesF] at hb; cases hb
              | succ n =>
                rw [linesF] at hb
                have : (partsF ([] : List Tok) gDia).filter (· ≠ []) = [] := by decide
                rw [this] at hb
                cases n with
                | zero => rw [manyF] at hb; cases hb
                | succ n => rw [manyF] at hb; cases hb
        split at h
        · split at h
          · rename_i hc
            injection h with h; injection h with h1 h2; subst h1 h2
            exact ⟨1, hT, ff_prim hc.2 1 (by omega)⟩
          · cases h
        · rename_i u hu
          have hT2 := Took.init hT.1 hu
          split at h
          · rename_i hc
            injection h with h; injection h with h1 h2; subst h1 h2
            obtain ⟨b1, b2, b3, b4, b5⟩ := bin_gly hc.2
            have htx : textF ⟨2, binT u, 0, [], .nil⟩ = [gl u.txt, gl gSlash] := by simp [textF, funT, b3]
            exact ⟨_, hT.trans hT2, trivial, by rw [htx]; exact .two (good_12 b2) (by decide), by rw [htx]; simp⟩
          split at h
          · rename_i hc
            injection h with h; injection h with h1 h2; subst h1 h2
            obtain ⟨b1, b2, b3, b4, b5⟩ := bin_gly hc.2
            have htx : textF ⟨3, binT u, 0, [], .nil⟩ = [gl u.txt, gl gBack] := by simp [textF, funT, b3]
            exact ⟨_, hT.trans hT2, trivial, by rw [htx]; exact .two (good_12 b2) (by decide), by rw [htx]; simp⟩
          split at h
          · split at h
            · rename_i hc
              injection h with h; injection h with h1 h2; subst h1 h2
              exact ⟨1, hT, ff_prim hc.2 1 (by omega)⟩
            · cases h
          · rename_i v hv
            have hT3 := Took.init hT2.1 hv
            split at h
            · rename_i hc
              injection h with h; injection h with h1 h2; subst h1 h2
              obtain ⟨b1, b2, b3, b4, b5⟩ := bin_gly hc.2.1
              have htx : textF ⟨4, binT t, 0, [], .nil⟩ = [gl gJot, gl gDot, gl t.txt] := by simp [textF, funT, b3]
              exact ⟨_, (hT.trans hT2).trans hT3, trivial, by rw [htx]; exact .three (by decide) (by decide) (good_12 b2), by rw [htx]; simp⟩
            split at h
            · rename_i hc
              injection h with h; injection h with h1 h2; subst h1 h2
              obtain ⟨b1, b2, b3, b4, b5⟩ := bin_gly hc.2.1
              obtain ⟨c1, c2, c3, c4, c5⟩ := bin_gly hc.2.2
              have htx : textF ⟨5, binT v, binT t, [], .nil⟩ = [gl v.txt, gl gDot, gl t.txt] := by simp [textF, funT, c3, b4]
              exact ⟨_, (hT.trans hT2).trans hT3, trivial, by rw [htx]; exact .three (good_12 c2) (by decide) (good_12 b2), by rw [htx]; simp⟩
            split at h
            · rename_i hc
              injection h with h; injection h with h1 h2; subst h1 h2
              exact ⟨1, hT, ff_prim hc.2 1 (by omega)⟩
            · cases h
    · intro ins l x hg h
      rw [exprF] at h
      split at h
      · cases h
      · rename_i y r he
        obtain ⟨c, ⟨t1, t2, t3⟩, hx⟩ := hO _ _ _ _ hg he
        have := hL _ _ _ _ c t1 hx h
        rw [t2] at this
        exact this
    · intro ins x l y c hg hx h
      rw [loopF] at h
      split at h
      · injection h with h; subst h; exact hx.more (by omega)
      · split at h
        · cases h
        · rename_i f r1 hf
          obtain ⟨cf, ⟨t1, t2, t3⟩, hff⟩ := hF _ _ _ _ hg hf
          have l1 := hx.len
          have l2 := hff.len
          have l1' := hx.tlen
          split at h
          · split at h
            · cases h
            · rename_i z r2 hz
              obtain ⟨cz, ⟨s1, s2, s3⟩, hzf⟩ := hO _ _ _ _ t1 hz
              have l3 := hzf.len
              split at h
              · have htx : textE ⟨6, [], noArr, f, z.cons (x.cons .nil)⟩ = closedE z ++ textF f ++ textE x := by
                  show exT 6 [] noArr (textF f) (showT (z.cons (x.cons .nil))) = _
                  rw [showT_ex, showT_ex]
                  simp [exT, nth]
                have := hL _ _ _ _ (cz + cf + c) s1 (.wrapped (.inr rfl) ⟨hff.wf, wf_ex hzf.wf (wf_ex hx.wf wf_nil), (fun e => absurd (show (6 : Int) = 5 from e) (by decide)), (fun _ => Nat.le_refl _), (fun e => absurd (show (6 : Int) = 7 from e) (by decide)), Nat.zero_le _, Nat.zero_le _⟩ _ htx (hff.fn.between (closed_fine hzf.fine) hx.fine) (by rw [List.length_append, List.length_append]; omega)) h
                exact this.more (by omega)
              · cases h
          · split at h
            · have htx : textE ⟨5, [], noArr, f, x.cons .nil⟩ = textF f ++ textE x := by
                show exT 5 [] noArr (textF f) (showT (x.cons .nil)) = _
                rw [showT_ex]
                simp [exT, nth]
              have := hL _ _ _ _ (cf + c) t1 (.wrapped (.inl rfl) ⟨hff.wf, wf_ex hx.wf wf_nil, (fun _ => Nat.le_refl _), (fun e => absurd (show (5 : Int) = 6 from e) (by decide)), (fun e => absurd (show (5 : Int) = 7 from e) (by decide)), Nat.zero_le _, Nat.zero_le _⟩ _ htx (hff.fn.ahead hx.fine) (by rw [List.length_append]; omega)) h
              exact this.more (by omega)
            · cases h
    · intro l b hg h
      rw [linesF] at h
      cases hm : manyF F n ((partsF l gDia).filter (· ≠ [])) with
      | none => rw [hm] at h; cases h
      | some k =>
        rw [hm] at h
        obtain ⟨ys, rfl, e2, e3, e4⟩ := hM _ _ (fun a ha => goods_part hg _ a (List.mem_filter.1 ha).1) hm
        cases ys with
        | nil => cases h
        | cons y ys =>
          have : some (chainL (y :: ys)) = some b := h
          injection this with this; subst this
          have hn := need_filter (partsF l gDia)
          rw [need_parts] at hn
          have hj := join_len gDia ((y :: ys).map textL) (by simp)
          rw [List.length_cons] at e3
          rw [gb_text]
          refine ⟨wf_chainL _ fun z hz => (e2 z hz).1, .brace (Fine.join (by decide) _ fun t ht => ?_), by omega⟩
          obtain ⟨z, hz, rfl⟩ := List.mem_map.1 ht
          exact (e2 z hz).2
    · intro ls b hg h
      cases ls with
      | nil =>
        rw [manyF] at h; injection h with h; subst h
        exact ⟨[], rfl, by simp, rfl, by simp [need]⟩
      | cons a r =>
        rw [manyF] at h
        split at h
        · cases h
        · rename_i y hy
          split at h
          · cases h
          · rename_i k hk
            injection h with h; subst h
            obtain ⟨ys, rfl, e2, e3, e4⟩ := hM _ _ (fun l hl => hg l (List.mem_cons_of_mem a hl)) hk
            have hy := hLn _ _ (hg a (by simp)) hy
            have h2 := hy.len
            refine ⟨y :: ys, rfl, fun x hx => ?_, by simp [e3], ?_⟩
            · rcases List.mem_cons.1 hx with rfl | hx
              · exact ⟨hy.wf, hy.fine⟩
              · exact e2 x hx
            · rw [List.map_cons, need_cons, need_cons, List.length_cons]; omega
    · intro l y hg h
      rw [lineF] at h
      split at h
      · rename_i a b hp
        have hga := goods_part hg gColon
        rw [hp] at hga
        have hn := need_parts gColon l
        rw [hp, need_cons, need_cons, need_nil] at hn
        split at h
        · cases h
        · rename_i xa ha
          split at h
          · cases h
          · rename_i xb hb
            injection h with h; subst h
            have h1 := hE _ _ _ (hga a (by simp)) ha
            have h2 := hE _ _ _ (hga b (by simp)) hb
            have l1 := h1.tlen
            have l2 := h2.tlen
            have htx : textL ⟨3, [], xa.cons (xb.cons .nil)⟩ = textE xa ++ gl gColon :: textE xb := by unfold textL lnT; simp only [showT_ex]; simp [nth]
            exact ⟨⟨wf_ex h1.wf (wf_ex h2.wf wf_nil), (show 1 ≤ 2 by omega), fun _ => Nat.le_refl _⟩, by rw [htx]; exact h1.fine.glue (by decide) h2.fine, by rw [htx, List.length_append, List.length_cons]; omega⟩
      · split at h
        · rename_i s r hs
          obtain ⟨t, m1, m2, m3, -⟩ := set_head hs
          split at h
          · cases h
          · split at h
            · cases h
            · rename_i xa ha
              injection h with h; subst h
              have hsub : Goods r ∧ r.length + 2 = l.length := by
                unfold setF at hs
                split at hs
                · split at hs
                  · injection hs with hs; injection hs with _ hs; subst hs
                    exact ⟨fun t ht => hg t (by simp [ht]), rfl⟩
                  · cases hs
                · cases hs
              have h1 := hE _ _ _ hsub.1 ha
              have l1 := h1.tlen
              have hlen := hsub.2
              have htx : textL ⟨2, s, xa.cons .nil⟩ = nm s :: gl gGets :: textE xa := by unfold textL lnT; simp only [showT_ex]; simp [nth]
              have hnm := good_nm (hg t m1) m2
              rw [m3] at hnm
              exact ⟨⟨wf_ex h1.wf wf_nil, Nat.le_refl _, fun e => absurd (show (2 : Int) = 3 from e) (by decide)⟩, by rw [htx]; exact .cons hnm (nm_two _) (.cons (good_gl (by decide)) (gl_three _) h1.fine), by rw [htx, List.length_cons, List.length_cons]; omega⟩
        · split at h
          · cases h
          · rename_i xa ha
            injection h with h; subst h
            have h1 := hE _ _ _ hg ha
            have l1 := h1.tlen
            have htx : textL ⟨1, [], xa.cons .nil⟩ = textE xa := by unfold textL lnT; simp only [showT_ex]; simp [nth]
            exact ⟨⟨wf_ex h1.wf wf_nil, Nat.le_refl _, fun e => absurd (show (1 : Int) = 3 from e) (by decide)⟩, by rw [htx]; exact h1.fine, by rw [htx]; omega⟩
      · cases h
end
/-- A statement that has what its kinds ask. -/
def WfS (s : Stm) : Prop := WfE s.expr ∧ WfT s.body
theorem wf_noEx : WfE noEx := ⟨trivial, trivial, (fun e => absurd e (by decide)), (fun e => absurd e (by decide)), (fun e => absurd e (by decide)), Nat.zero_le _, Nat.zero_le _⟩
/-- A statement's text can be told, and is not long. -/
theorem stm_fine (F : List (List UInt8)) (l : List Tok) (x : Stm) (hg : Goods l) (h : stmtF F l = some x) : WfS x ∧ Fine (textS x) ∧ (textS x).length ≤ 3 * l.length := by
  unfold stmtF at h
  cases hs : setF l with
  | none =>
    rw [hs] at h
    simp only [Option.map_eq_some_iff] at h
    obtain ⟨y, hy, rfl⟩ := h
    have h1 := (all_fine F _).2.2.2.1 _ _ _ hg hy
    have l1 := h1.tlen
    have ht : textS ⟨1, [], y, .nil⟩ = textE y := by unfold textS; simp
    exact ⟨⟨h1.wf, trivial⟩, by rw [ht]; exact h1.fine, by rw [ht]; omega⟩
  | some p =>
    obtain ⟨s, r⟩ := p
    obtain ⟨t, m1, m2, m3, -⟩ := set_head hs
    have hnm := good_nm (hg t m1) m2
    rw [m3] at hnm
    have hsub : Goods r ∧ r.length + 2 = l.length := by
      unfold setF at hs
      split at hs
      · split at hs
        · injection hs with hs; injection hs with _ hs; subst hs
          exact ⟨fun t ht => hg t (by simp [ht]), rfl⟩
        · cases hs
      · cases hs
    have hlen := hsub.2
    rw [hs] at h
    simp only at h
    split at h
    · cases h
    · split at h
      · rename_i hc
        simp only [Option.map_eq_some_iff] at h
        obtain ⟨b, hb, rfl⟩ := h
        obtain ⟨w1, w2, w3⟩ := (all_fine (F ++ [s]) _).2.2.2.2.2.1 _ _ (hsub.1.init.drop 1) hb
        rw [List.length_drop, List.length_dropLast] at w3
        have ht : textS ⟨3, s, noEx, b⟩ = nm s :: gl gGets :: encl (gl gLC) (gl gRC) (joinG gDia ((showT b).map Prod.fst)) := by unfold textS; simp
        exact ⟨⟨wf_noEx, w1⟩, by rw [ht]; exact .cons hnm (nm_two _) (.cons (good_gl (by decide)) (gl_three _) w2.fine), by rw [ht, List.length_cons, List.length_cons, encl_len]; omega⟩
      · simp only [Option.map_eq_some_iff] at h
        obtain ⟨y, hy, rfl⟩ := h
        have h1 := (all_fine F _).2.2.2.1 _ _ _ hsub.1 hy
        have l1 := h1.tlen
        have ht : textS ⟨2, s, y, .nil⟩ = nm s :: gl gGets :: textE y := by unfold textS; simp
        exact ⟨⟨h1.wf, trivial⟩, by rw [ht]; exact .cons hnm (nm_two _) (.cons (good_gl (by decide)) (gl_three _) h1.fine), by rw [ht, List.length_cons, List.length_cons]; omega⟩
end Go.Proofs.YtijfnnjgcgmnaaaGreatDoor.Par
