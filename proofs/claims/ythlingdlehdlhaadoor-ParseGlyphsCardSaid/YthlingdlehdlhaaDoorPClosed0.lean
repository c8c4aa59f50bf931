/- parse: parentheses about a whole, and about a right argument. Plain. -/
import Derived.Test.YthlingdlehdlhaaDoorPC
namespace Go.Proofs.YthlingdlehdlhaaDoor.Par
open Go.RowKit Go.Shelf
set_option linter.unusedVariables false
set_option linter.unusedSimpArgs false

theorem drop_app (f r : List Tok) (j : Nat) : (f ++ r).drop (f.length + j) = r.drop j := by rw [← List.drop_drop, List.drop_left]
theorem take_app (f r : List Tok) (j : Nat) : (f ++ r).take (f.length + j) = f ++ r.take j := by
  induction f with
  | nil => simp
  | cons a f ih => rw [List.cons_append, List.length_cons, show f.length + 1 + j = (f.length + j) + 1 by omega, List.take_succ_cons, ih]; rfl
theorem app_last (f : List Tok) {r : List Tok} {t : Tok} (ht : r.getLast? = some t) : (f ++ r).getLast? = some t ∧ (f ++ r).dropLast = f ++ r.dropLast := by
  obtain ⟨p, rfl⟩ := List.getLast?_eq_some_iff.1 ht
  rw [← List.append_assoc]
  simp
theorem Dyck.app {f r : List Tok} (hf : Dyck f) (hr : Dyck r) : Dyck (f ++ r) := by
  refine ⟨by rw [S_append, hf.1, hr.1]; rfl, fun k => ?_⟩
  rcases Nat.lt_or_ge k f.length with h | h
  · rw [List.drop_append_of_le_length (by omega), S_append, hr.1]; have := hf.2 k; omega
  · obtain ⟨j, rfl⟩ : ∃ j, k = f.length + j := ⟨k - f.length, by omega⟩
    rw [drop_app]; exact hr.2 j
theorem opened_app {f r : List Tok} (hf : Dyck f) (hr : Dyck r) (hne : r ≠ []) : openedF (f ++ r) = f.length + openedF r := by
  obtain ⟨a1, a2, a3⟩ := opened_spec (hf.app hr) (by simp [hne])
  obtain ⟨b1, b2, b3⟩ := opened_spec hr hne
  rw [List.length_append] at a1 a3
  rcases Nat.lt_trichotomy (openedF (f ++ r)) (f.length + openedF r) with h | h | h
  · have := a3 _ h (by omega)
    rw [drop_app, b2] at this; omega
  · exact h
  · obtain ⟨j, hj⟩ : ∃ j, openedF (f ++ r) = f.length + j := ⟨openedF (f ++ r) - f.length, by omega⟩
    rw [hj, drop_app] at a2
    have := b3 j (by omega) (by omega)
    omega
theorem operand_ext (F : List (List UInt8)) {f : List Tok} (hf : Dyck f) : ∀ (n m : Nat) (ins : Bool) (r : List Tok) (x : Ex) (r' : List Tok), Dyck r → 8 * r.length + 1 ≤ n → 8 * (f ++ r).length + 1 ≤ m →
    operandF F n ins r = some (x, r') → operandF F m ins (f ++ r) = some (x, f ++ r') := by
  intro n
  induction n with
  | zero => intro m ins r x r' hd h1; omega
  | succ n ih =>
    intro m ins r x r' hd h1 h2 h
    obtain ⟨m, rfl⟩ : ∃ k, m = k + 1 := ⟨m - 1, by omega⟩
    rw [List.length_append] at h2
    rw [operandF] at h ⊢
    cases ht : r.getLast? with
    | none => rw [ht] at h; cases h
    | some t =>
      obtain ⟨e1, e2⟩ := app_last f ht
      have hl := (last_get ht).2
      rw [ht] at h
      rw [e1]
      simp only at h ⊢
      rw [e2, opened_app hf hd (List.ne_nil_of_length_pos hl), Nat.add_assoc, drop_app, take_app]
      by_cases k1 : t.kind = 1
      · simp only [if_pos k1] at h ⊢
        injection h with h; injection h with q1 q2; subst q1 q2; rfl
      simp only [if_neg k1] at h ⊢
      by_cases k2 : t.kind = 2
      · simp only [if_pos k2] at h ⊢
        by_cases hf : isFun F t = true
        · rw [if_pos hf] at h; cases h
        · rw [if_neg hf] at h ⊢
          injection h with h; injection h with q1 q2; subst q1 q2; rfl
      simp only [if_neg k2] at h ⊢
      by_cases hr : isG t gRP = true
      · obtain ⟨c1, c2, c3⟩ := hd.closed ht (wt_rp hr)
        have hil := inner_len r (openedF r)
        simp only [if_pos hr] at h ⊢
        rw [(all_same F F m).2.2.2.1 n ins _ c2 (Agree.refl _ _) (by omega) (by omega)]
        cases hc : exprF F n ins (r.dropLast.drop (openedF r + 1)) with
        | none => rw [hc] at h; cases h
        | some y =>
          rw [hc] at h
          injection h with h; injection h with q1 q2; subst q1 q2; rfl
      simp only [if_neg hr] at h ⊢
      by_cases hb : isG t gRB = true
      · obtain ⟨c1, c2, c3⟩ := hd.closed ht (wt_rb hb)
        have hil := inner_len r (openedF r)
        have hnp := need_parts gSemi (r.dropLast.drop (openedF r + 1))
        have htl : (r.take (openedF r)).length ≤ openedF r := List.length_take_le _ _
        simp only [if_pos hb] at h ⊢
        rw [(all_same F F m).2.1 n ins (partsF (r.dropLast.drop (openedF r + 1)) gSemi) (fun a hm => ⟨parts_dyck wt_semi c2 a hm, Agree.refl _ _⟩) (by omega) (by omega)]
        cases hc : operandF F n ins (r.take (openedF r)) with
        | none => rw [hc] at h; cases h
        | some p =>
          obtain ⟨y, q⟩ := p
          rw [hc] at h
          rw [ih m ins (r.take (openedF r)) y q c3 (by omega) (by rw [List.length_append]; omega) hc]
          simp only at h ⊢
          cases hc2 : axesF F n ins (partsF (r.dropLast.drop (openedF r + 1)) gSemi) with
          | none => rw [hc2] at h; cases h
          | some k =>
            rw [hc2] at h
            injection h with h; injection h with q1 q2; subst q1 q2; rfl
      simp only [if_neg hb] at h ⊢
      by_cases ha : ins = true ∧ isG t gAlpha = true
      · simp only [if_pos ha] at h ⊢
        injection h with h; injection h with q1 q2; subst q1 q2; rfl
      simp only [if_neg ha] at h ⊢
      by_cases hw : ins = true ∧ isG t gOmega = true
      · simp only [if_pos hw] at h ⊢
        injection h with h; injection h with q1 q2; subst q1 q2; rfl
      · simp only [if_neg hw] at h; cases h
theorem last_one {r : List Tok} {u : Tok} (hu : r.getLast? = some u) (hv : r.dropLast.getLast? = none) : r = [u] := by
  have h1 := last_split hu
  rw [List.getLast?_eq_none_iff.1 hv] at h1
  exact h1
theorem function_ext (F : List (List UInt8)) {f0 : List Tok} {w : Tok} (hf : Dyck (f0 ++ [w])) (hw : isG w gDot = false) (n m : Nat) (ins : Bool) (r : List Tok) (g : Fn) (r1 : List Tok) (hd : Dyck r) (h1 : 8 * r.length + 1 ≤ n) (h2 : 8 * (f0 ++ [w] ++ r).length + 1 ≤ m)
    (h : functionF F n ins r = some (g, r1)) :
    functionF F m ins (f0 ++ [w] ++ r) = some (g, f0 ++ [w] ++ r1) ∨ (r1 = [] ∧ (takesF g).1 = false ∧ 0 < binT w) ∨ ∃ u, r1 = [u] ∧ isG u gDot = true := by
  obtain ⟨m, rfl⟩ : ∃ k, m = k + 1 := ⟨m - 1, by omega⟩
  obtain ⟨n, rfl⟩ : ∃ k, n = k + 1 := ⟨n - 1, by omega⟩
  rw [List.length_append] at h2
  rw [functionF] at h ⊢
  cases ht : r.getLast? with
  | none => rw [ht] at h; cases h
  | some t =>
    obtain ⟨e1, e2⟩ := app_last (f0 ++ [w]) ht
    have hl := (last_get ht).2
    rw [ht] at h
    rw [e1]
    simp only at h ⊢
    rw [e2, opened_app hf hd (List.ne_nil_of_length_pos hl), Nat.add_assoc, drop_app, take_app]
    by_cases hF : isFun F t = true
    · simp only [if_pos hF] at h ⊢
      injection h with h; injection h with q1 q2; subst q1 q2; exact .inl rfl
    simp only [if_neg hF] at h ⊢
    by_cases hD : isG t gDel = true ∧ ins = true
    · simp only [if_pos hD] at h ⊢
      injection h with h; injection h with q1 q2; subst q1 q2; exact .inl rfl
    simp only [if_neg hD] at h ⊢
    by_cases hc : isG t gRC = true
    · obtain ⟨c1, c2, c3⟩ := hd.closed ht (wt_rc hc)
      have hil := inner_len r (openedF r)
      simp only [if_pos hc] at h ⊢
      rw [(all_same F F m).2.2.2.2.2.1 n _ c2 (Agree.refl _ _) (by omega) (by omega)]
      cases hc : linesF F n (r.dropLast.drop (openedF r + 1)) with
      | none => rw [hc] at h; cases h
      | some b =>
        rw [hc] at h
        injection h with h; injection h with q1 q2; subst q1 q2; exact .inl rfl
    simp only [if_neg hc] at h ⊢
    cases hu : r.dropLast.getLast? with
    | none =>
      have hz : r.dropLast = [] := List.getLast?_eq_none_iff.1 hu
      rw [hu] at h
      rw [hz] at h ⊢
      rw [List.append_nil, List.getLast?_concat, List.dropLast_concat]
      simp only at h ⊢
      by_cases hp : t.kind = 3 ∧ 0 < fnF t.txt
      · rw [if_pos hp] at h
        injection h with h; injection h with q1 q2; subst q1 q2
        by_cases hs : isG t gSlash = true ∧ 0 < binT w
        · refine .inr (.inl ⟨rfl, ?_, hs.2⟩)
          rw [(isG_eq hs.1).2]; decide
        · left
          have hb : ¬ (isG t gBack = true ∧ 0 < binT w) := fun hb => by
            rw [(isG_eq hb.1).2] at hp
            exact absurd hp.2 (by decide)
          simp only [if_neg hs, if_neg hb, if_pos hp]
          cases f0.getLast? with
          | none => simp
          | some v => simp [hw]
      · rw [if_neg hp] at h; cases h
    | some u =>
      obtain ⟨e3, e4⟩ := app_last (f0 ++ [w]) hu
      rw [hu] at h
      rw [e3, e4]
      simp only at h ⊢
      by_cases hs : isG t gSlash = true ∧ 0 < binT u
      · simp only [if_pos hs] at h ⊢
        injection h with h; injection h with q1 q2; subst q1 q2; exact .inl rfl
      simp only [if_neg hs] at h ⊢
      by_cases hb : isG t gBack = true ∧ 0 < binT u
      · simp only [if_pos hb] at h ⊢
        injection h with h; injection h with q1 q2; subst q1 q2; exact .inl rfl
      simp only [if_neg hb] at h ⊢
      cases hv : r.dropLast.dropLast.getLast? with
      | none =>
        have hz : r.dropLast.dropLast = [] := List.getLast?_eq_none_iff.1 hv
        rw [hv] at h
        rw [hz, List.append_nil, List.getLast?_concat]
        simp only at h ⊢
        by_cases hp : t.kind = 3 ∧ 0 < fnF t.txt
        · rw [if_pos hp] at h
          injection h with h; injection h with q1 q2; subst q1 q2
          by_cases hdot : isG u gDot = true
          · exact .inr (.inr ⟨u, last_one hu hv, hdot⟩)
          · left
            simp only [hdot, false_and, if_pos hp]
            simp
        · rw [if_neg hp] at h; cases h
      | some v =>
        obtain ⟨e5, e6⟩ := app_last (f0 ++ [w]) hv
        rw [hv] at h
        rw [e5, e6]
        simp only at h ⊢
        left
        by_cases p1 : isG u gDot = true ∧ 0 < binT t ∧ isG v gJot = true
        · rw [if_pos p1] at h ⊢
          injection h with h; injection h with q1 q2; subst q1 q2; rfl
        rw [if_neg p1] at h ⊢
        by_cases p2 : isG u gDot = true ∧ 0 < binT t ∧ 0 < binT v
        · rw [if_pos p2] at h ⊢
          injection h with h; injection h with q1 q2; subst q1 q2; rfl
        rw [if_neg p2] at h ⊢
        by_cases p3 : t.kind = 3 ∧ 0 < fnF t.txt
        · rw [if_pos p3] at h ⊢
          injection h with h; injection h with q1 q2; subst q1 q2; rfl
        · rw [if_neg p3] at h; cases h
theorem dot_tok {u : Tok} (hu : isG u gDot = true) : ∃ v, u = ⟨3, gDot, v⟩ := by
  obtain ⟨h1, h2⟩ := isG_eq hu
  exact ⟨u.val, by rw [← h1, ← h2]⟩
theorem fun_dot (F : List (List UInt8)) (n : Nat) (ins : Bool) {u : Tok} (hu : isG u gDot = true) : functionF F n ins [u] = none := by
  cases n with
  | zero => rw [functionF]
  | succ n =>
    obtain ⟨v, rfl⟩ := dot_tok hu
    rw [functionF]
    have h0 : ¬ (0 < fnF gDot) := by decide
    have h1 : isG ⟨3, gDot, v⟩ gDel = false := rfl
    have h2 : isG ⟨3, gDot, v⟩ gRC = false := rfl
    have h3 : isFun F ⟨3, gDot, v⟩ = false := by unfold isFun; simp
    simp [h0, h1, h2, h3]
theorem ends_dot (F : List (List UInt8)) {u : Tok} (hu : isG u gDot = true) : endsF F [u] = false := by
  obtain ⟨v, rfl⟩ := dot_tok hu
  have h1 : isG ⟨3, gDot, v⟩ gRP = false := rfl
  have h2 : isG ⟨3, gDot, v⟩ gRB = false := rfl
  have h3 : isG ⟨3, gDot, v⟩ gAlpha = false := rfl
  have h4 : isG ⟨3, gDot, v⟩ gOmega = false := rfl
  simp [endsF, endsT, h1, h2, h3, h4]
theorem loop_ext (F : List (List UInt8)) {f0 : List Tok} {w : Tok} (hf : Dyck (f0 ++ [w])) (hw : isG w gDot = false) (he : endsT F w = false) : ∀ (n m : Nat) (ins : Bool) (x : Ex) (r : List Tok) (y : Ex), Dyck r → 8 * r.length + 2 ≤ n → 8 * (f0 ++ [w] ++ r).length + 2 ≤ m →
    loopF F n ins x r = some y → loopF F m ins x (f0 ++ [w] ++ r) = loopF F (8 * (f0 ++ [w]).length + 2) ins y (f0 ++ [w]) := by
  intro n
  induction n with
  | zero => intro m ins x r y hd h1; omega
  | succ n ih =>
    intro m ins x r y hd h1 h2 h
    by_cases hr : r = []
    · subst hr
      rw [loopF, if_pos rfl] at h
      injection h with h; subst h
      rw [List.append_nil] at h2 ⊢
      exact (all_same F F m).2.2.2.2.1 _ ins x _ hf (Agree.refl _ _) h2 (Nat.le_refl _)
    · obtain ⟨m, rfl⟩ : ∃ k, m = k + 1 := ⟨m - 1, by omega⟩
      rw [List.length_append] at h2
      rw [loopF, if_neg hr] at h
      cases hc : functionF F n ins r with
      | none => rw [hc] at h; cases h
      | some p =>
        obtain ⟨g, r1⟩ := p
        rw [hc] at h
        simp only at h
        have hp := function_pre F n ins r g r1 hd hc
        have hlt := hp.2.1
        rcases function_ext F hf hw n m ins r g r1 hd (by omega) (by rw [List.length_append]; omega) hc with e | ⟨e, e2, -⟩ | ⟨u, e, e2⟩
        · rw [loopF, if_neg (by simp), e]
          simp only
          have hE : endsF F (f0 ++ [w] ++ r1) = endsF F r1 := by
            unfold endsF
            cases hl : r1.getLast? with
            | none =>
              rw [List.getLast?_eq_none_iff.1 hl, List.append_nil, List.getLast?_concat]; exact he
            | some t => rw [(app_last (f0 ++ [w]) hl).1]
          rw [hE]
          by_cases hE1 : endsF F r1 = true
          · rw [if_pos hE1] at h ⊢
            cases hc2 : operandF F n ins r1 with
            | none => rw [hc2] at h; cases h
            | some q =>
              obtain ⟨z, r2⟩ := q
              rw [hc2] at h
              simp only at h
              have hq := operand_pre F n ins r1 z r2 hp.1 hc2
              have hlt2 := hq.2.1
              rw [operand_ext F hf n m ins r1 z r2 hp.1 (by omega) (by rw [List.length_append]; omega) hc2]
              simp only
              by_cases ht : (takesF g).2 = true
              · rw [if_pos ht] at h ⊢
                exact ih m ins _ r2 y hq.1 (by omega) (by rw [List.length_append]; omega) h
              · rw [if_neg ht] at h; cases h
          · rw [if_neg hE1] at h ⊢
            by_cases ht : (takesF g).1 = true
            · rw [if_pos ht] at h ⊢
              exact ih m ins _ r1 y hp.1 (by omega) (by rw [List.length_append]; omega) h
            · rw [if_neg ht] at h; cases h
        · subst e
          rw [if_neg (by simp [endsF]), if_neg (by simp [e2])] at h; cases h
        · subst e
          rw [if_neg (by simp [ends_dot F e2])] at h
          split at h
          · obtain ⟨k, rfl⟩ : ∃ k, n = k + 1 := ⟨n - 1, by simp at h1; omega⟩
            rw [loopF, if_neg (by simp), fun_dot F k ins e2] at h; cases h
          · cases h
/-- A text between two brackets. -/
def encl (a b : Tok) (l : List Tok) : List Tok := a :: l ++ [b]
theorem encl_len (a b : Tok) (l : List Tok) : (encl a b l).length = l.length + 2 := by simp [encl]
theorem encl_S {a b : Tok} (hb : wt b = 1) (l : List Tok) (j : Nat) (h : j ≤ l.length) : S ((encl a b l).drop (j + 1)) = S (l.drop j) + 1 := by
  unfold encl
  rw [List.cons_append, List.drop_succ_cons, List.drop_append_of_le_length h, S_append, S, S, hb]; omega
theorem encl_S0 {a b : Tok} (ha : wt a = -1) (hb : wt b = 1) {l : List Tok} (hl : Dyck l) : S (encl a b l) = 0 := by
  have := encl_S (a := a) hb l 0 (Nat.zero_le _)
  rw [List.drop_zero, hl.1] at this
  unfold encl at this ⊢
  rw [List.cons_append] at this ⊢
  rw [List.drop_succ_cons, List.drop_zero] at this
  rw [S, this, ha]; rfl
theorem encl_dyck {a b : Tok} (ha : wt a = -1) (hb : wt b = 1) {l : List Tok} (hl : Dyck l) : Dyck (encl a b l) := by
  refine ⟨encl_S0 ha hb hl, fun k => ?_⟩
  rcases k with _ | k
  · rw [List.drop_zero, encl_S0 ha hb hl]; omega
  · rcases Nat.lt_or_ge l.length k with h | h
    · rw [List.drop_eq_nil_of_le (by rw [encl_len]; omega)]; simp [S]
    · rw [encl_S hb l k h]; have := hl.2 k; omega
theorem encl_opened {a b : Tok} (ha : wt a = -1) (hb : wt b = 1) {l : List Tok} (hl : Dyck l) : openedF (encl a b l) = 0 := by
  obtain ⟨a1, a2, a3⟩ := opened_spec (encl_dyck ha hb hl) (by simp [encl])
  rw [encl_len] at a1
  rcases Nat.eq_zero_or_pos (openedF (encl a b l)) with h | h
  · exact h
  · obtain ⟨j, hj⟩ : ∃ j, openedF (encl a b l) = j + 1 := ⟨openedF (encl a b l) - 1, by omega⟩
    rw [hj] at a2
    rw [encl_S hb l j (by omega)] at a2
    have := hl.2 j; omega
theorem encl_last (a b : Tok) (l : List Tok) : (encl a b l).getLast? = some b := by unfold encl; rw [List.getLast?_concat]
theorem encl_init (a b : Tok) (l : List Tok) : (encl a b l).dropLast = a :: l := by unfold encl; rw [List.dropLast_concat]
def tLP : Tok := ⟨3, gLP, noArr⟩
def tRP : Tok := ⟨3, gRP, noArr⟩
def wrap (l : List Tok) : List Tok := encl tLP tRP l
theorem wrap_len (l : List Tok) : (wrap l).length = l.length + 2 := encl_len _ _ _
theorem wrap_dyck {l : List Tok} (hl : Dyck l) : Dyck (wrap l) := encl_dyck (by decide) (by decide) hl
theorem wrap_opened {l : List Tok} (hl : Dyck l) : openedF (wrap l) = 0 := encl_opened (by decide) (by decide) hl
theorem wrap_operand (F : List (List UInt8)) (ins : Bool) {l : List Tok} {x : Ex} (hl : Dyck l) {n m : Nat} (h : exprF F n ins l = some x) (h1 : 8 * l.length + 3 ≤ n) (h2 : 8 * (l.length + 2) + 1 ≤ m) : operandF F m ins (wrap l) = some (x, []) := by
  obtain ⟨m, rfl⟩ : ∃ k, m = k + 1 := ⟨m - 1, by omega⟩
  have e1 : (wrap l).getLast? = some tRP := encl_last _ _ _
  have e2 : (wrap l).dropLast.drop (openedF (wrap l) + 1) = l := by
    rw [wrap_opened hl]; unfold wrap; rw [encl_init]; rfl
  have g1 : isG tRP gRP = true := by decide
  have k1 : ¬ tRP.kind = 1 := by decide
  have k2 : ¬ tRP.kind = 2 := by decide
  rw [operandF, e1]
  simp only [if_neg k1, if_neg k2, if_pos g1]
  rw [e2, wrap_opened hl, (all_same F F m).2.2.2.1 n ins l hl (Agree.refl _ _) (by omega) h1, h]
  simp
/-- Parentheses about the whole. -/
theorem wrap_expr (F : List (List UInt8)) (ins : Bool) {l : List Tok} {x : Ex} (hl : Dyck l) {n m : Nat} (h : exprF F n ins l = some x) (h1 : 8 * l.length + 3 ≤ n) (h2 : 8 * (l.length + 2) + 3 ≤ m) : exprF F m ins (wrap l) = some x := by
  obtain ⟨m, rfl⟩ : ∃ k, m = k + 2 := ⟨m - 2, by omega⟩
  rw [exprF, wrap_operand F ins hl h h1 (by omega)]
  simp only
  rw [loopF, if_pos rfl]
/-- What stands ahead of an expression goes on with what it is. -/
theorem expr_ext (F : List (List UInt8)) (ins : Bool) {f0 : List Tok} {w : Tok} (hf : Dyck (f0 ++ [w])) (hw : isG w gDot = false) (he : endsT F w = false) {l : List Tok} {x : Ex} (hl : Dyck l) {n m : Nat} (h : exprF F n ins l = some x) (h1 : 8 * l.length + 3 ≤ n)
    (h2 : 8 * (f0 ++ [w] ++ l).length + 3 ≤ m) : exprF F m ins (f0 ++ [w] ++ l) = loopF F (8 * (f0 ++ [w]).length + 2) ins x (f0 ++ [w]) := by
  obtain ⟨m, rfl⟩ : ∃ k, m = k + 1 := ⟨m - 1, by omega⟩
  obtain ⟨n, rfl⟩ : ∃ k, n = k + 1 := ⟨n - 1, by omega⟩
  rw [exprF] at h ⊢
  cases hc : operandF F n ins l with
  | none => rw [hc] at h; cases h
  | some p =>
    obtain ⟨z, r⟩ := p
    rw [hc] at h
    simp only at h
    have hp := operand_pre F n ins l z r hl hc
    have hlt := hp.2.1
    rw [operand_ext F hf n m ins l z r hl (by omega) (by omega) hc]
    simp only
    rw [List.length_append] at h2
    exact loop_ext F hf hw he n m ins z r x hp.1 (by omega) (by rw [List.length_append]; omega) h
/-- Parentheses about a right argument. -/
theorem wrap_right (F : List (List UInt8)) (ins : Bool) {f0 : List Tok} {w : Tok} (hf : Dyck (f0 ++ [w])) (hw : isG w gDot = false) (he : endsT F w = false) {l : List Tok} {x : Ex} (hl : Dyck l) {n m k : Nat} (h : exprF F n ins l = some x) (h1 : 8 * l.length + 3 ≤ n)
    (h2 : 8 * (f0 ++ [w] ++ l).length + 3 ≤ m) (h3 : 8 * (f0 ++ [w] ++ wrap l).length + 3 ≤ k) : exprF F m ins (f0 ++ [w] ++ l) = exprF F k ins (f0 ++ [w] ++ wrap l) := by
  have hw2 := wrap_expr F ins (m := 8 * (wrap l).length + 3) hl h h1 (by rw [wrap_len]; exact Nat.le_refl _)
  rw [expr_ext F ins hf hw he hl h h1 h2, expr_ext F ins hf hw he (wrap_dyck hl) hw2 (Nat.le_refl _) h3]
end Go.Proofs.YthlingdlehdlhaaDoor.Par
