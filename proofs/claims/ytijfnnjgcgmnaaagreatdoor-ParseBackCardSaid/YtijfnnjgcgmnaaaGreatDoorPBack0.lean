/- parse: what is told, shown, is told again. Plain. -/
import Derived.Test.YtijfnnjgcgmnaaaGreatDoorPShow0
namespace Go.Proofs.YtijfnnjgcgmnaaaGreatDoor.Par
open Go.RowKit Go.Shelf
set_option linter.unusedVariables false
set_option linter.unusedSimpArgs false

theorem fn_gly {s : List UInt8} (h : 0 < fnF s) : glyphF (fnF s) = s := by
  have h1 : ∀ s ∈ mixedG, glyphF (fnF s) = s := by decide
  have h2 : ∀ s ∈ glyph12, glyphF (fnF s) = s := by decide
  rcases fn_pos h with h | h
  · exact h1 s h
  · exact h2 s h
theorem bin_gly {t : Tok} (h : 0 < binT t) : t.kind = 3 ∧ t.txt ∈ glyph12 ∧ glyphF (binT t) = t.txt ∧ glyph12F (binT t) = t.txt ∧ binT (gl t.txt) = binT t := by
  obtain ⟨h1, h2⟩ := bin_pos h
  have e : binT t = namedF t.txt := by
    unfold binT at h ⊢
    split at h
    · rename_i hc; rw [if_pos hc]
    · omega
  have k1 : ∀ s ∈ glyph12, glyphF (namedF s) = s := by decide
  have k2 : ∀ s ∈ glyph12, glyph12F (namedF s) = s := by decide
  refine ⟨h1, h2, by rw [e]; exact k1 _ h2, by rw [e]; exact k2 _ h2, ?_⟩
  unfold binT gl
  rw [h1]
theorem fn_not {s g : List UInt8} (h : 0 < fnF s) (hg : fnF g = 0) : isG (gl s) g = false := by
  unfold isG gl
  simp only [decide_true, Bool.true_and, decide_eq_false_iff_not]
  rintro rfl; omega
theorem bin_fn {s : List UInt8} (h : s ∈ glyph12) : 0 < fnF s := by
  have : ∀ s ∈ glyph12, 0 < fnF s := by decide
  exact this s h
theorem gl_fun (F : List (List UInt8)) (s : List UInt8) : isFun F (gl s) = false := by unfold isFun gl; simp
theorem gl_kind (s : List UInt8) : (gl s).kind = 3 := rfl
theorem nm_isG (s g : List UInt8) : isG (nm s) g = false := by unfold isG nm; simp
theorem fn_tg {s : List UInt8} (h : 0 < fnF s) : TG [gl s] :=
  .one (fn_wt (t := gl s) h) (fn_not h (by decide)) (fn_not h (by decide)) (fn_not h (by decide)) (fn_not h (by decide))
theorem fn_end (F : List (List UInt8)) {s : List UInt8} (h : 0 < fnF s) : endsT F (gl s) = false := by
  unfold endsT
  rw [fn_not h (g := gRP) (by decide), fn_not h (g := gRB) (by decide), fn_not h (g := gAlpha) (by decide), fn_not h (g := gOmega) (by decide)]
  simp [gl]
theorem ends_facts (F : List (List UInt8)) {u : Tok} (h : endsT F u = true) : isG u gDot = false ∧ binT u = 0 ∧ isG u gRC = false := by
  unfold endsT at h
  simp only [Bool.or_eq_true, Bool.and_eq_true, decide_eq_true_eq] at h
  have hg : ∀ g : List UInt8, isG u g = true → g ≠ gDot → g ∉ glyph12 → g ≠ gRC → isG u gDot = false ∧ binT u = 0 ∧ isG u gRC = false := by
    intro g hg h1 h2 h3
    obtain ⟨e1, e2⟩ := isG_eq hg
    refine ⟨by unfold isG; rw [e1, e2]; simp [h1], ?_, by unfold isG; rw [e1, e2]; simp [h3]⟩
    rcases Int.lt_trichotomy 0 (binT u) with h | h | h
    · have := (bin_pos h).2; rw [e2] at this; exact absurd this h2
    · omega
    · unfold binT namedF at h; split at h
      · split at h <;> omega
      · omega
  have hk : u.kind ≠ 3 → isG u gDot = false ∧ binT u = 0 ∧ isG u gRC = false := fun hk => ⟨by unfold isG; simp [hk], by unfold binT; simp [hk], by unfold isG; simp [hk]⟩
  rcases h with ((((h | h) | h) | h) | h) | h
  · exact hk (by omega)
  · exact hk (by omega)
  · exact hg _ h (by decide) (by decide) (by decide)
  · exact hg _ h (by decide) (by decide) (by decide)
  · exact hg _ h (by decide) (by decide) (by decide)
  · exact hg _ h (by decide) (by decide) (by decide)
section
variable (F : List (List UInt8))
theorem op_ends {n : Nat} {ins : Bool} {l : List Tok} {x : Ex} {r : List Tok} (h : operandF F n ins l = some (x, r)) : ∃ u, l.getLast? = some u ∧ endsT F u = true := by
  cases n with
  | zero => rw [operandF] at h; cases h
  | succ n =>
    rw [operandF] at h
    cases ht : l.getLast? with
    | none => rw [ht] at h; cases h
    | some t =>
      refine ⟨t, rfl, ?_⟩
      rw [ht] at h
      simp only at h
      unfold endsT
      by_cases k1 : t.kind = 1
      · simp [k1]
      by_cases k2 : t.kind = 2
      · simp only [if_neg k1, if_pos k2] at h
        split at h
        · cases h
        · rename_i hf; simp [k2, hf]
      simp only [if_neg k1, if_neg k2] at h
      by_cases h1 : isG t gRP = true
      · simp [h1]
      by_cases h2 : isG t gRB = true
      · simp [h2]
      simp only [if_neg h1, if_neg h2] at h
      by_cases h3 : ins = true ∧ isG t gAlpha = true
      · simp [h3.2]
      simp only [if_neg h3] at h
      by_cases h4 : ins = true ∧ isG t gOmega = true
      · simp [h4.2]
      · simp only [if_neg h4] at h; cases h
theorem ex_ends {n : Nat} {ins : Bool} {l : List Tok} {x : Ex} (h : exprF F n ins l = some x) : ∃ u, l.getLast? = some u ∧ endsT F u = true := by
  cases n with
  | zero => rw [exprF] at h; cases h
  | succ n =>
    rw [exprF] at h
    cases hc : operandF F n ins l with
    | none => rw [hc] at h; cases h
    | some p => exact op_ends F (x := p.1) (r := p.2) hc
structure GE (ins : Bool) (x : Ex) : Prop where
  tb : TG (textE x)
  parse : ∀ m, 8 * (textE x).length + 3 ≤ m → exprF F m ins (textE x) = some x
  cb : TG (closedE x)
  op : ∀ m, 8 * (closedE x).length + 1 ≤ m → operandF F m ins (closedE x) = some (x, [])
structure GF (ins : Bool) (f : Fn) : Prop where
  tb : TG (textF f)
  last : ∃ f0 w, textF f = f0 ++ [w] ∧ isG w gDot = false ∧ endsT F w = false
  parse : ∀ m, 8 * (textF f).length + 1 ≤ m → functionF F m ins (textF f) = some (f, [])
structure GL (y : Ln) : Prop where
  bal : Bal (textL y)
  nd : NoF gDia (textL y)
  ne : textL y ≠ []
  parse : ∀ m, 8 * (textL y).length + 4 ≤ m → lineF F m (textL y) = some y
theorem GE.ne {ins : Bool} {x : Ex} (h : GE F ins x) : textE x ≠ [] := fun e => by
  obtain ⟨u, hu, -⟩ := ex_ends F (h.parse _ (Nat.le_refl _))
  rw [e] at hu; cases hu
theorem GE.base {ins : Bool} {x : Ex} (hk : ¬ (x.kind = 5 ∨ x.kind = 6)) (tb : TG (textE x)) (op : ∀ m, 8 * (textE x).length + 1 ≤ m → operandF F m ins (textE x) = some (x, [])) : GE F ins x := by
  have e : closedE x = textE x := if_neg hk
  refine ⟨tb, fun m hm => ?_, by rw [e]; exact tb, by rw [e]; exact op⟩
  obtain ⟨m, rfl⟩ : ∃ k, m = k + 2 := ⟨m - 2, by omega⟩
  rw [exprF, op (m + 1) (by omega)]
  simp only
  rw [loopF, if_pos rfl]
theorem GE.wrapped {ins : Bool} {x : Ex} (hk : x.kind = 5 ∨ x.kind = 6) (tb : TG (textE x)) (parse : ∀ m, 8 * (textE x).length + 3 ≤ m → exprF F m ins (textE x) = some x) : GE F ins x := by
  have e : closedE x = wrap (textE x) := if_pos hk
  refine ⟨tb, parse, by rw [e]; exact .wrap tb.bal, fun m hm => ?_⟩
  rw [e] at hm ⊢
  rw [wrap_len] at hm
  exact wrap_operand F ins tb.bal.dyck (parse _ (Nat.le_refl _)) (Nat.le_refl _) hm
theorem ge_val (ins : Bool) (a : Arr) : GE F ins ⟨1, [], a, noFn, .nil⟩ := by
  have ht : textE ⟨1, [], a, noFn, .nil⟩ = [vl a] := by simp [textE, exT]
  refine .base F (by simp) (by rw [ht]; exact .kind (by simp [vl])) fun m hm => ?_
  obtain ⟨m, rfl⟩ : ∃ k, m = k + 1 := ⟨m - 1, by omega⟩
  rw [ht, operandF]
  simp [vl]
theorem ge_name (ins : Bool) (s : List UInt8) (h : isFun F (nm s) = false) : GE F ins ⟨2, s, noArr, noFn, .nil⟩ := by
  have ht : textE ⟨2, s, noArr, noFn, .nil⟩ = [nm s] := by simp [textE, exT]
  refine .base F (by simp) (by rw [ht]; exact .kind (by simp [nm])) fun m hm => ?_
  obtain ⟨m, rfl⟩ : ∃ k, m = k + 1 := ⟨m - 1, by omega⟩
  rw [ht, operandF]
  simp [h]
  simp [nm]
theorem ge_alpha : GE F true ⟨3, [], noArr, noFn, .nil⟩ := by
  have ht : textE ⟨3, [], noArr, noFn, .nil⟩ = [gl gAlpha] := by simp [textE, exT]
  refine .base F (by simp) (by rw [ht]; exact .one (by decide) (by decide) (by decide) (by decide) (by decide)) fun m hm => ?_
  obtain ⟨m, rfl⟩ : ∃ k, m = k + 1 := ⟨m - 1, by omega⟩
  have g1 : isG (gl gAlpha) gRP = false := by decide
  have g2 : isG (gl gAlpha) gRB = false := by decide
  have g3 : isG (gl gAlpha) gAlpha = true := by decide
  rw [ht, operandF]
  simp [g1, g2, g3, gl_kind]
theorem ge_omega : GE F true ⟨4, [], noArr, noFn, .nil⟩ := by
  have ht : textE ⟨4, [], noArr, noFn, .nil⟩ = [gl gOmega] := by simp [textE, exT]
  refine .base F (by simp) (by rw [ht]; exact .one (by decide) (by decide) (by decide) (by decide) (by decide)) fun m hm => ?_
  obtain ⟨m, rfl⟩ : ∃ k, m = k + 1 := ⟨m - 1, by omega⟩
  have g1 : isG (gl gOmega) gRP = false := by decide
  have g2 : isG (gl gOmega) gRB = false := by decide
  have g3 : isG (gl gOmega) gAlpha = false := by decide
  have g4 : isG (gl gOmega) gOmega = true := by decide
  rw [ht, operandF]
  simp [g1, g2, g3, g4, gl_kind]
def noneEx : Ex := ⟨8, [], noArr, noFn, .nil⟩
theorem noneEx_text : textE noneEx = [] := by simp [textE, exT, noneEx]
theorem axes_back {ins : Bool} : ∀ xs : List Ex, (∀ x ∈ xs, x = noneEx ∨ GE F ins x) → ∀ m, 8 * need (xs.map textE) + 1 ≤ m → axesF F m ins (xs.map textE) = some (chainE xs) := by
  intro xs
  induction xs with
  | nil =>
    intro _ m hm
    obtain ⟨m, rfl⟩ : ∃ k, m = k + 1 := ⟨m - 1, by omega⟩
    rw [List.map_nil, axesF]; rfl
  | cons x r ih =>
    intro h m hm
    obtain ⟨m, rfl⟩ : ∃ k, m = k + 1 := ⟨m - 1, by omega⟩
    rw [List.map_cons, need_cons] at hm
    have hi := ih (fun y hy => h y (List.mem_cons_of_mem _ hy)) m (by omega)
    rw [List.map_cons, axesF, hi]
    rcases h x List.mem_cons_self with rfl | hx
    · rw [if_pos noneEx_text]; rfl
    · rw [if_neg (hx.ne F), hx.parse m (by omega)]; rfl
theorem axes_tg {ins : Bool} {xs : List Ex} (h : ∀ x ∈ xs, x = noneEx ∨ GE F ins x) : ∀ t ∈ xs.map textE, TG t := by
  intro t ht
  obtain ⟨x, hx, rfl⟩ := List.mem_map.1 ht
  rcases h x hx with rfl | hx
  · rw [noneEx_text]; exact .nil
  · exact hx.tb
theorem ge_index {ins : Bool} {x : Ex} (hx : GE F ins x) {xs : List Ex} (hne : xs ≠ []) (h : ∀ x ∈ xs, x = noneEx ∨ GE F ins x) : GE F ins ⟨7, [], noArr, noFn, x.cons (chainE xs)⟩ := by
  have ht : textE ⟨7, [], noArr, noFn, x.cons (chainE xs)⟩ = closedE x ++ encl (gl gLB) (gl gRB) (joinG gSemi (xs.map textE)) := by
    show exT 7 [] noArr (textF noFn) (showT (x.cons (chainE xs))) = _
    rw [showT_ex, showT_exs]
    simp [exT, nth, Function.comp_def]
  have htg := axes_tg F h
  have hb : Bal (joinG gSemi (xs.map textE)) := Bal.join (by decide) _ fun t ht => (htg t ht).bal
  have hp : partsF (joinG gSemi (xs.map textE)) gSemi = xs.map textE := parts_joined gSemi (by decide) _ (by simpa using hne) fun t ht => ⟨(htg t ht).semi, (htg t ht).bal.dyck⟩
  have hn := need_parts gSemi (joinG gSemi (xs.map textE))
  rw [hp] at hn
  have htb := TG.brack hb
  refine .base F (by simp) (by rw [ht]; exact hx.cb.app htb) fun m hm => ?_
  rw [ht] at hm ⊢
  rw [List.length_append, encl_len] at hm
  obtain ⟨m, rfl⟩ : ∃ k, m = k + 1 := ⟨m - 1, by omega⟩
  obtain ⟨e1, e2⟩ := app_last (closedE x) (encl_last (gl gLB) (gl gRB) (joinG gSemi (xs.map textE)))
  have k1 : ¬ (gl gRB).kind = 1 := by decide
  have k2 : ¬ (gl gRB).kind = 2 := by decide
  have g1 : ¬ isG (gl gRB) gRP = true := by decide
  have g2 : isG (gl gRB) gRB = true := by decide
  rw [operandF, e1, e2, opened_app hx.cb.bal.dyck htb.bal.dyck (by simp [encl]), encl_opened (by decide) (by decide) hb.dyck, encl_init, Nat.add_assoc, drop_app, take_app]
  simp only [if_neg k1, if_neg k2, if_neg g1, if_pos g2, List.take_zero, List.append_nil, Nat.zero_add, List.drop_succ_cons, List.drop_zero]
  rw [hx.op m (by omega), hp, axes_back F xs h m (by omega)]
theorem gf_name (ins : Bool) {s : List UInt8} (h : s ∈ F) : GF F ins ⟨6, 0, 0, s, .nil⟩ := by
  have ht : textF ⟨6, 0, 0, s, .nil⟩ = [nm s] := by simp [textF, funT]
  have hf : isFun F (nm s) = true := by unfold isFun nm; simp [h]
  refine ⟨by rw [ht]; exact .kind (by simp [nm]), ⟨[], nm s, ht, nm_isG _ _, ?_⟩, fun m hm => ?_⟩
  · unfold endsT; simp only [nm_isG, hf]; simp [nm]
  · obtain ⟨m, rfl⟩ : ∃ k, m = k + 1 := ⟨m - 1, by omega⟩
    rw [ht, functionF]
    simp [hf]
    rfl
theorem gf_self : GF F true ⟨8, 0, 0, [], .nil⟩ := by
  have ht : textF ⟨8, 0, 0, [], .nil⟩ = [gl gDel] := by simp [textF, funT]
  have g1 : isG (gl gDel) gDel = true := by decide
  refine ⟨by rw [ht]; exact .one (by decide) (by decide) (by decide) (by decide) (by decide), ⟨[], gl gDel, ht, by decide, ?_⟩, fun m hm => ?_⟩
  · have a1 : isG (gl gDel) gRP = false := by decide
    have a2 : isG (gl gDel) gRB = false := by decide
    have a3 : isG (gl gDel) gAlpha = false := by decide
    have a4 : isG (gl gDel) gOmega = false := by decide
    unfold endsT; simp [a1, a2, a3, a4, gl_kind]
  · obtain ⟨m, rfl⟩ : ∃ k, m = k + 1 := ⟨m - 1, by omega⟩
    rw [ht, functionF]
    simp [gl_fun, g1]
theorem gf_prim (ins : Bool) {s : List UInt8} (h : 0 < fnF s) : GF F ins ⟨1, fnF s, 0, [], .nil⟩ := by
  have ht : textF ⟨1, fnF s, 0, [], .nil⟩ = [gl s] := by simp [textF, funT, fn_gly h]
  refine ⟨by rw [ht]; exact fn_tg h, ⟨[], gl s, ht, fn_not h (by decide), fn_end F h⟩, fun m hm => ?_⟩
  obtain ⟨m, rfl⟩ : ∃ k, m = k + 1 := ⟨m - 1, by omega⟩
  rw [ht, functionF]
  have g1 := fn_not h (g := gDel) (by decide)
  have g2 := fn_not h (g := gRC) (by decide)
  have hh : (gl s).kind = 3 ∧ 0 < fnF (gl s).txt := ⟨rfl, h⟩
  simp [gl_fun, g1, g2]
  exact ⟨hh, rfl⟩
theorem sep_tg {g : List UInt8} (h1 : wt (gl g) = 0) (h2 : isG (gl g) gSemi = false) (h3 : isG (gl g) gColon = false) (h4 : isG (gl g) gDia = false) (h5 : isG (gl g) gGets = false) : TG [gl g] := .one h1 h2 h3 h4 h5
theorem slash_end {g : List UInt8} (h1 : isG (gl g) gRP = false) (h2 : isG (gl g) gRB = false) (h3 : isG (gl g) gAlpha = false) (h4 : isG (gl g) gOmega = false) : endsT F (gl g) = false := by
  unfold endsT; simp [h1, h2, h3, h4, gl_kind]
theorem gf_red (ins : Bool) {u : Tok} (h : 0 < binT u) : GF F ins ⟨2, binT u, 0, [], .nil⟩ := by
  obtain ⟨b1, b2, b3, b4, b5⟩ := bin_gly h
  have ht : textF ⟨2, binT u, 0, [], .nil⟩ = [gl u.txt] ++ [gl gSlash] := by simp [textF, funT, b3]
  have hb : 0 < binT (gl u.txt) := by rw [b5]; exact h
  refine ⟨by rw [ht]; exact (fn_tg (bin_fn b2)).app (sep_tg (by decide) (by decide) (by decide) (by decide) (by decide)), ⟨_, _, ht, by decide, slash_end F (by decide) (by decide) (by decide) (by decide)⟩, fun m hm => ?_⟩
  obtain ⟨m, rfl⟩ : ∃ k, m = k + 1 := ⟨m - 1, by omega⟩
  have g1 : isG (gl gSlash) gDel = false := by decide
  have g2 : isG (gl gSlash) gRC = false := by decide
  have g3 : isG (gl gSlash) gSlash = true := by decide
  rw [ht, functionF]
  simp [gl_fun, g1, g2, g3, hb, b5, h]
theorem gf_scan (ins : Bool) {u : Tok} (h : 0 < binT u) : GF F ins ⟨3, binT u, 0, [], .nil⟩ := by
  obtain ⟨b1, b2, b3, b4, b5⟩ := bin_gly h
  have ht : textF ⟨3, binT u, 0, [], .nil⟩ = [gl u.txt] ++ [gl gBack] := by simp [textF, funT, b3]
  have hb : 0 < binT (gl u.txt) := by rw [b5]; exact h
  refine ⟨by rw [ht]; exact (fn_tg (bin_fn b2)).app (sep_tg (by decide) (by decide) (by decide) (by decide) (by decide)), ⟨_, _, ht, by decide, slash_end F (by decide) (by decide) (by decide) (by decide)⟩, fun m hm => ?_⟩
  obtain ⟨m, rfl⟩ : ∃ k, m = k + 1 := ⟨m - 1, by omega⟩
  have g1 : isG (gl gBack) gDel = false := by decide
  have g2 : isG (gl gBack) gRC = false := by decide
  have g3 : isG (gl gBack) gBack = true := by decide
  have g4 : isG (gl gBack) gSlash = false := by decide
  rw [ht, functionF]
  simp [gl_fun, g1, g2, g3, g4, hb, b5, h]
theorem gf_outer (ins : Bool) {t : Tok} (h : 0 < binT t) : GF F ins ⟨4, binT t, 0, [], .nil⟩ := by
  obtain ⟨b1, b2, b3, b4, b5⟩ := bin_gly h
  have hf := bin_fn b2
  have ht : textF ⟨4, binT t, 0, [], .nil⟩ = [gl gJot, gl gDot] ++ [gl t.txt] := by simp [textF, funT, b3]
  have hb : 0 < binT (gl t.txt) := by rw [b5]; exact h
  have hdot : binT (gl gDot) = 0 := by decide
  refine ⟨by rw [ht]; exact TG.app (TG.app (a := [gl gJot]) (b := [gl gDot]) (sep_tg (by decide) (by decide) (by decide) (by decide) (by decide)) (sep_tg (by decide) (by decide) (by decide) (by decide) (by decide))) (fn_tg hf), ⟨_, _, ht, fn_not hf (by decide), fn_end F hf⟩, fun m hm => ?_⟩
  obtain ⟨m, rfl⟩ : ∃ k, m = k + 1 := ⟨m - 1, by omega⟩
  have g1 := fn_not hf (g := gDel) (by decide)
  have g2 := fn_not hf (g := gRC) (by decide)
  have g3 : isG (gl gDot) gDot = true := by decide
  have g4 : isG (gl gJot) gJot = true := by decide
  rw [ht, functionF]
  simp [gl_fun, g1, g2, g3, g4, hb, hdot, b5, h]
theorem gf_inner (ins : Bool) {v t : Tok} (hv : 0 < binT v) (h : 0 < binT t) : GF F ins ⟨5, binT v, binT t, [], .nil⟩ := by
  obtain ⟨b1, b2, b3, b4, b5⟩ := bin_gly h
  obtain ⟨c1, c2, c3, c4, c5⟩ := bin_gly hv
  have hf := bin_fn b2
  have hf2 := bin_fn c2
  have ht : textF ⟨5, binT v, binT t, [], .nil⟩ = [gl v.txt, gl gDot] ++ [gl t.txt] := by simp [textF, funT, c3, b4]
  have hb : 0 < binT (gl t.txt) := by rw [b5]; exact h
  have hb2 : 0 < binT (gl v.txt) := by rw [c5]; exact hv
  have hdot : binT (gl gDot) = 0 := by decide
  refine ⟨by rw [ht]; exact TG.app (TG.app (a := [gl v.txt]) (b := [gl gDot]) (fn_tg hf2) (sep_tg (by decide) (by decide) (by decide) (by decide) (by decide))) (fn_tg hf), ⟨_, _, ht, fn_not hf (by decide), fn_end F hf⟩, fun m hm => ?_⟩
  obtain ⟨m, rfl⟩ : ∃ k, m = k + 1 := ⟨m - 1, by omega⟩
  have g1 := fn_not hf (g := gDel) (by decide)
  have g2 := fn_not hf (g := gRC) (by decide)
  have g3 : isG (gl gDot) gDot = true := by decide
  have g4 := fn_not hf2 (g := gJot) (by decide)
  rw [ht, functionF]
  simp [gl_fun, g1, g2, g3, g4, hb, hb2, hdot, b5, c5, h, hv]
theorem lines_back : ∀ ys : List Ln, (∀ y ∈ ys, GL F y) → ∀ m, 8 * need (ys.map textL) ≤ m + 3 → 1 ≤ m → manyF F m (ys.map textL) = some (chainL ys) := by
  intro ys
  induction ys with
  | nil =>
    intro _ m h1 h2
    obtain ⟨m, rfl⟩ : ∃ k, m = k + 1 := ⟨m - 1, by omega⟩
    rw [List.map_nil, manyF]; rfl
  | cons y r ih =>
    intro h m h1 h2
    obtain ⟨m, rfl⟩ : ∃ k, m = k + 1 := ⟨m - 1, by omega⟩
    rw [List.map_cons, need_cons] at h1
    have hy := h y List.mem_cons_self
    rw [List.map_cons, manyF, hy.parse m (by omega), ih (fun z hz => h z (List.mem_cons_of_mem _ hz)) m (by omega) (by omega)]
    rfl
/-- A function's lines. -/
structure GB (b : Tr) : Prop where
  ex : ∃ y ys, b = chainL (y :: ys) ∧ ∀ z ∈ y :: ys, GL F z
theorem gb_text {y : Ln} {ys : List Ln} : (showT (chainL (y :: ys))).map Prod.fst = (y :: ys).map textL := by
  rw [showT_lns]; simp [Function.comp_def]
theorem gb_bal {ys : List Ln} (h : ∀ z ∈ ys, GL F z) : Bal (joinG gDia (ys.map textL)) := Bal.join (by decide) _ fun t ht => by
  obtain ⟨z, hz, rfl⟩ := List.mem_map.1 ht; exact (h z hz).bal
theorem gb_lines {y : Ln} {ys : List Ln} (h : ∀ z ∈ y :: ys, GL F z) (m : Nat) (hm : 8 * (joinG gDia ((y :: ys).map textL)).length + 8 ≤ m) : linesF F m (joinG gDia ((y :: ys).map textL)) = some (chainL (y :: ys)) := by
  obtain ⟨m, rfl⟩ : ∃ k, m = k + 1 := ⟨m - 1, by omega⟩
  have hp : partsF (joinG gDia ((y :: ys).map textL)) gDia = (y :: ys).map textL := parts_joined gDia (by decide) _ (by simp) fun t ht => by
    obtain ⟨z, hz, rfl⟩ := List.mem_map.1 ht; exact ⟨(h z hz).nd, (h z hz).bal.dyck⟩
  have hn := need_parts gDia (joinG gDia ((y :: ys).map textL))
  rw [hp] at hn
  have hfil : ((y :: ys).map textL).filter (· ≠ []) = (y :: ys).map textL := List.filter_eq_self.2 fun t ht => by
    obtain ⟨z, hz, rfl⟩ := List.mem_map.1 ht
    simpa using (h z hz).ne
  rw [linesF, hp, hfil, lines_back F _ h m (by omega) (by omega)]
  rfl
theorem gf_dfn (ins : Bool) {b : Tr} (hb : GB F b) : GF F ins ⟨7, 0, 0, [], b⟩ := by
  obtain ⟨y, ys, rfl, h⟩ := hb.ex
  have ht : textF ⟨7, 0, 0, [], chainL (y :: ys)⟩ = gl gLC :: joinG gDia ((y :: ys).map textL) ++ [gl gRC] := by
    unfold textF funT
    simp only [gb_text]
    rfl
  have hbal := gb_bal F h
  refine ⟨by rw [ht]; exact .brace hbal, ⟨_, _, ht, by decide, slash_end F (by decide) (by decide) (by decide) (by decide)⟩, fun m hm => ?_⟩
  rw [ht] at hm ⊢
  change 8 * (encl (gl gLC) (gl gRC) (joinG gDia ((y :: ys).map textL))).length + 1 ≤ m at hm
  change functionF F m ins (encl (gl gLC) (gl gRC) (joinG gDia ((y :: ys).map textL))) = _
  rw [encl_len] at hm
  obtain ⟨m, rfl⟩ : ∃ k, m = k + 1 := ⟨m - 1, by omega⟩
  have g1 : isG (gl gRC) gDel = false := by decide
  have g2 : isG (gl gRC) gRC = true := by decide
  rw [functionF, encl_last, encl_init, encl_opened (by decide) (by decide) hbal.dyck]
  simp only [gl_fun, g1, g2, Bool.false_eq_true, false_and, if_false, if_true, Nat.zero_add, List.drop_succ_cons, List.drop_zero, List.take_zero]
  rw [gb_lines F h m (by omega)]
theorem ge_one {ins : Bool} {x : Ex} {f : Fn} (hx : GE F ins x) (hf : GF F ins f) (ht : (takesF f).1 = true) : GE F ins ⟨5, [], noArr, f, x.cons .nil⟩ := by
  have htx : textE ⟨5, [], noArr, f, x.cons .nil⟩ = textF f ++ textE x := by
    show exT 5 [] noArr (textF f) (showT (x.cons .nil)) = _
    rw [showT_ex]
    simp [exT, nth]
  obtain ⟨f0, w, e, h1, h2⟩ := hf.last
  have hd := hf.tb.bal.dyck
  rw [e] at hd
  refine .wrapped F (.inl rfl) (by rw [htx]; exact hf.tb.app hx.tb) fun m hm => ?_
  rw [htx, e] at hm ⊢
  rw [expr_ext F ins hd h1 h2 hx.tb.bal.dyck (hx.parse _ (Nat.le_refl _)) (Nat.le_refl _) hm]
  have hp := hf.parse (8 * (f0 ++ [w]).length + 1) (by rw [e]; exact Nat.le_refl _)
  rw [e] at hp
  rw [loopF, if_neg (by simp), hp]
  simp only
  rw [if_neg (by simp [endsF]), if_pos ht, loopF, if_pos rfl]
theorem ge_two {ins : Bool} {x y : Ex} {f : Fn} (hx : GE F ins x) (hf : GF F ins f) (hy : GE F ins y) (ht : (takesF f).2 = true) : GE F ins ⟨6, [], noArr, f, y.cons (x.cons .nil)⟩ := by
  have htx : textE ⟨6, [], noArr, f, y.cons (x.cons .nil)⟩ = closedE y ++ textF f ++ textE x := by
    show exT 6 [] noArr (textF f) (showT (y.cons (x.cons .nil))) = _
    rw [showT_ex, showT_ex]
    simp [exT, nth]
  obtain ⟨f0, w, e, h1, h2⟩ := hf.last
  have hd := hy.cb.bal.dyck.app hf.tb.bal.dyck
  obtain ⟨u, hu, hend⟩ := op_ends F (hy.op _ (Nat.le_refl _))
  obtain ⟨u1, u2, -⟩ := ends_facts F hend
  obtain ⟨c0, hc⟩ := List.getLast?_eq_some_iff.1 hu
  refine .wrapped F (.inr rfl) (by rw [htx]; exact (hy.cb.app hf.tb).app hx.tb) fun m hm => ?_
  rw [e, ← List.append_assoc] at hd
  rw [htx, e, ← List.append_assoc] at hm ⊢
  rw [expr_ext F ins hd h1 h2 hx.tb.bal.dyck (hx.parse _ (Nat.le_refl _)) (Nat.le_refl _) hm]
  rw [loopF, if_neg (by simp)]
  have hp : functionF F (8 * (closedE y ++ f0 ++ [w]).length + 1) ins (closedE y ++ f0 ++ [w]) = some (f, closedE y) := by
    have hcd := hy.cb.bal.dyck
    rw [hc] at hcd
    have := function_ext F hcd u1 (8 * (textF f).length + 1) (8 * (c0 ++ [u] ++ textF f).length + 1) ins (textF f) f [] hf.tb.bal.dyck (Nat.le_refl _) (Nat.le_refl _) (hf.parse _ (Nat.le_refl _))
    rw [← hc, List.append_nil] at this
    rcases this with h | ⟨-, -, h⟩ | ⟨z, h, -⟩
    · rw [List.append_assoc, ← e]; exact h
    · omega
    · cases h
  have hE : endsF F (closedE y) = true := by unfold endsF; rw [hu]; exact hend
  rw [hp]
  simp only
  rw [if_pos hE, hy.op _ (by rw [List.append_assoc, List.length_append]; omega)]
  simp only
  rw [if_pos ht]
  simp only [List.length_append, List.length_cons, List.length_nil]
  rw [show 8 * ((closedE y).length + f0.length + (0 + 1)) + 1 = (8 * ((closedE y).length + f0.length + (0 + 1))) + 1 from rfl, loopF, if_pos rfl]
theorem set_none {t : List Tok} (h : TG t) : setF t = none := by
  cases hs : setF t with
  | none => rfl
  | some p =>
    exfalso
    unfold setF at hs
    split at hs
    · rename_i a b r
      split at hs
      · rename_i hc
        have hd := h.bal.dyck.1
        rw [S, wt_kind a (by omega)] at hd
        have := h.gets 1 b rfl (by rw [List.drop_succ_cons, List.drop_zero]; omega)
        rw [hc.2.2] at this; cases this
      · cases hs
    · cases hs
theorem nof_pair {g : List UInt8} (s : List UInt8) (hg : isG (gl gGets) g = false) {t : List Tok} (h : NoF g t) (hd : Dyck t) : NoF g (nm s :: gl gGets :: t) := by
  have h1 : NoF g ([nm s] ++ ([gl gGets] ++ t)) := (NoF.one (nm_isG _ _)).app ((NoF.one hg).app h hd.1) (by rw [S_append, hd.1]; decide)
  exact h1
theorem set_some (s : List UInt8) (hs : s ≠ []) (t : List Tok) : setF (nm s :: gl gGets :: t) = some (s, t) := by
  have : isG (gl gGets) gGets = true := by decide
  unfold setF
  simp [nm, hs, this]
theorem gl_value {x : Ex} (hx : GE F true x) : GL F ⟨1, [], x.cons .nil⟩ := by
  have ht : textL ⟨1, [], x.cons .nil⟩ = textE x := by unfold textL lnT; simp only [showT_ex]; simp [nth]
  refine ⟨by rw [ht]; exact hx.tb.bal, by rw [ht]; exact hx.tb.dia, by rw [ht]; exact hx.ne F, fun m hm => ?_⟩
  rw [ht] at hm ⊢
  obtain ⟨m, rfl⟩ : ∃ k, m = k + 1 := ⟨m - 1, by omega⟩
  rw [lineF, parts_one gColon hx.tb.colon hx.tb.bal.dyck]
  simp only
  rw [set_none hx.tb]
  simp only
  rw [hx.parse m (by omega)]
theorem gl_set {x : Ex} {s : List UInt8} (hx : GE F true x) (h1 : s ≠ []) (h2 : s ∉ F) : GL F ⟨2, s, x.cons .nil⟩ := by
  have ht : textL ⟨2, s, x.cons .nil⟩ = nm s :: gl gGets :: textE x := by unfold textL lnT; simp only [showT_ex]; simp [nth]
  have hb : Bal (nm s :: gl gGets :: textE x) := .cons (wt_kind _ (by simp [nm])) (.cons (by decide) hx.tb.bal)
  refine ⟨by rw [ht]; exact hb, by rw [ht]; exact nof_pair s (by decide) hx.tb.dia hx.tb.bal.dyck, by rw [ht]; simp, fun m hm => ?_⟩
  rw [ht] at hm ⊢
  simp only [List.length_cons] at hm
  obtain ⟨m, rfl⟩ : ∃ k, m = k + 1 := ⟨m - 1, by omega⟩
  rw [lineF, parts_one gColon (nof_pair s (by decide) hx.tb.colon hx.tb.bal.dyck) hb.dyck]
  simp only
  rw [set_some s h1]
  simp only [if_neg h2]
  rw [hx.parse m (by omega)]
theorem gl_guard {x y : Ex} (hx : GE F true x) (hy : GE F true y) : GL F ⟨3, [], x.cons (y.cons .nil)⟩ := by
  have ht : textL ⟨3, [], x.cons (y.cons .nil)⟩ = joinG gColon [textE x, textE y] := by unfold textL lnT; simp only [showT_ex]; simp [nth, joinG]
  have hb : Bal (joinG gColon [textE x, textE y]) := Bal.join (by decide) _ (by
    intro t ht
    simp only [List.mem_cons, List.not_mem_nil, or_false] at ht
    rcases ht with rfl | rfl
    · exact hx.tb.bal
    · exact hy.tb.bal)
  have hnd : NoF gDia (joinG gColon [textE x, textE y]) := by
    have h1 : NoF gDia (textE x ++ ([gl gColon] ++ textE y)) := hx.tb.dia.app ((NoF.one (by decide)).app hy.tb.dia hy.tb.bal.dyck.1) (by rw [S_append, hy.tb.bal.dyck.1]; decide)
    exact h1
  have hlen : (joinG gColon [textE x, textE y]).length = (textE x).length + (textE y).length + 1 := by
    show (textE x ++ gl gColon :: textE y).length = _
    rw [List.length_append, List.length_cons]; omega
  refine ⟨by rw [ht]; exact hb, by rw [ht]; exact hnd, by rw [ht]; intro e; rw [e] at hlen; simp at hlen, fun m hm => ?_⟩
  rw [ht] at hm ⊢
  rw [hlen] at hm
  obtain ⟨m, rfl⟩ : ∃ k, m = k + 1 := ⟨m - 1, by omega⟩
  rw [lineF, parts_joined gColon (by decide) _ (by simp) (by
    intro t ht
    simp only [List.mem_cons, List.not_mem_nil, or_false] at ht
    rcases ht with rfl | rfl
    · exact ⟨hx.tb.colon, hx.tb.bal.dyck⟩
    · exact ⟨hy.tb.colon, hy.tb.bal.dyck⟩)]
  simp only
  rw [hx.parse m (by omega)]
  simp only
  rw [hy.parse m (by omega)]
set_option maxHeartbeats 1000000 in
/-- What is told of a text, shown, is told again. -/
theorem back_all : ∀ n : Nat,
    (∀ ins l x r, operandF F n ins l = some (x, r) → GE F ins x) ∧
    (∀ ins ls k, axesF F n ins ls = some k → ∃ xs, k = chainE xs ∧ xs.length = ls.length ∧ ∀ x ∈ xs, x = noneEx ∨ GE F ins x) ∧
    (∀ ins l f r, functionF F n ins l = some (f, r) → GF F ins f) ∧
    (∀ ins l x, exprF F n ins l = some x → GE F ins x) ∧
    (∀ ins x l y, GE F ins x → loopF F n ins x l = some y → GE F ins y) ∧
    (∀ l b, linesF F n l = some b → GB F b) ∧
    (∀ ls b, manyF F n ls = some b → ∃ ys, b = chainL ys ∧ ∀ y ∈ ys, GL F y) ∧
    (∀ l y, lineF F n l = some y → GL F y) := by
  intro n
  induction n with
  | zero =>
    refine ⟨?_, ?_, ?_, ?_, ?_, ?_, ?_, ?_⟩
    · intro ins l x r h; rw [operandF] at h; cases h
    · intro ins l x h; rw [axesF] at h; cases h
    · intro ins l x r h; rw [functionF] at h; cases h
    · intro ins l x h; rw [exprF] at h; cases h
    · intro ins x l y _ h; rw [loopF] at h; cases h
    · intro l b h; rw [linesF] at h; cases h
    · intro l b h; rw [manyF] at h; cases h
    · intro l b h; rw [lineF] at h; cases h
  | succ n ih =>
    obtain ⟨hO, hA, hF, hE, hL, hLs, hM, hLn⟩ := ih
    refine ⟨?_, ?_, ?_, ?_, ?_, ?_, ?_, ?_⟩
    · intro ins l x r h
      rw [operandF] at h
      cases ht : l.getLast? with
      | none => rw [ht] at h; cases h
      | some t =>
        rw [ht] at h
        simp only at h
        by_cases k1 : t.kind = 1
        · rw [if_pos k1] at h
          injection h with h; injection h with q1 q2; subst q1
          exact ge_val F ins _
        rw [if_neg k1] at h
        by_cases k2 : t.kind = 2
        · rw [if_pos k2] at h
          split at h
          · cases h
          · rename_i hf
            injection h with h; injection h with q1 q2; subst q1
            refine ge_name F ins _ ?_
            cases hd : isFun F (nm t.txt) with
            | false => rfl
            | true =>
              exfalso
              apply hf
              unfold isFun at hd ⊢
              simp only [nm, Bool.and_eq_true, decide_eq_true_eq] at hd ⊢
              exact ⟨k2, of_decide_eq_true hd.2⟩
        rw [if_neg k2] at h
        split at h
        · split at h
          · cases h
          · rename_i y he
            injection h with h; injection h with q1 q2; subst q1
            exact hE _ _ _ he
        split at h
        · split at h
          · cases h
          · rename_i y r' he
            split at h
            · cases h
            · rename_i k hk
              injection h with h; injection h with q1 q2; subst q1
              obtain ⟨xs, rfl, e2, e3⟩ := hA _ _ _ hk
              exact ge_index F (hO _ _ _ _ he) (fun e => by
                rw [e] at e2
                exact partsR_ne gSemi _ _ _ _ (List.eq_nil_of_length_eq_zero e2.symm)) e3
        split at h
        · rename_i hc
          injection h with h; injection h with q1 q2; subst q1
          rw [hc.1]; exact ge_alpha F
        split at h
        · rename_i hc
          injection h with h; injection h with q1 q2; subst q1
          rw [hc.1]; exact ge_omega F
        · cases h
    · intro ins ls k h
      cases ls with
      | nil => rw [axesF] at h; injection h with h; subst h; exact ⟨[], rfl, rfl, by simp⟩
      | cons a r =>
        rw [axesF] at h
        by_cases ha : a = []
        · rw [if_pos ha] at h
          simp only at h
          split at h
          · cases h
          · rename_i k' hk
            injection h with h; subst h
            obtain ⟨xs, rfl, e2, e3⟩ := hA _ _ _ hk
            exact ⟨noneEx :: xs, rfl, by simp [e2], fun x hx => by
              rcases List.mem_cons.1 hx with rfl | hx
              · exact .inl rfl
              · exact e3 x hx⟩
        · rw [if_neg ha] at h
          split at h
          · cases h
          · rename_i y he
            split at h
            · cases h
            · rename_i k' hk
              injection h with h; subst h
              obtain ⟨xs, rfl, e2, e3⟩ := hA _ _ _ hk
              exact ⟨y :: xs, rfl, by simp [e2], fun x hx => by
                rcases List.mem_cons.1 hx with rfl | hx
                · exact .inr (hE _ _ _ he)
                · exact e3 x hx⟩
    · intro ins l f r h
      rw [functionF] at h
      cases ht : l.getLast? with
      | none => rw [ht] at h; cases h
      | some t =>
        rw [ht] at h
        simp only at h
        split at h
        · rename_i hf
          injection h with h; injection h with q1 q2; subst q1
          unfold isFun at hf
          simp only [Bool.and_eq_true, decide_eq_true_eq] at hf
          exact gf_name F ins hf.2
        split at h
        · rename_i hc
          injection h with h; injection h with q1 q2; subst q1
          rw [hc.2]; exact gf_self F
        split at h
        · split at h
          · cases h
          · rename_i b hb
            injection h with h; injection h with q1 q2; subst q1
            exact gf_dfn F ins (hLs _ _ hb)
        split at h
        · split at h
          · rename_i hc
            injection h with h; injection h with q1 q2; subst q1
            exact gf_prim F ins hc.2
          · cases h
        · split at h
          · rename_i hc
            injection h with h; injection h with q1 q2; subst q1
            exact gf_red F ins hc.2
          split at h
          · rename_i hc
            injection h with h; injection h with q1 q2; subst q1
            exact gf_scan F ins hc.2
          split at h
          · split at h
            · rename_i hc
              injection h with h; injection h with q1 q2; subst q1
              exact gf_prim F ins hc.2
            · cases h
          · split at h
            · rename_i hc
              injection h with h; injection h with q1 q2; subst q1
              exact gf_outer F ins hc.2.1
            split at h
            · rename_i hc
              injection h with h; injection h with q1 q2; subst q1
              exact gf_inner F ins hc.2.2 hc.2.1
            split at h
            · rename_i hc
              injection h with h; injection h with q1 q2; subst q1
              exact gf_prim F ins hc.2
            · cases h
    · intro ins l x h
      rw [exprF] at h
      split at h
      · cases h
      · rename_i y r he
        exact hL _ _ _ _ (hO _ _ _ _ he) h
    · intro ins x l y hx h
      rw [loopF] at h
      split at h
      · injection h with h; subst h; exact hx
      · split at h
        · cases h
        · rename_i f r1 hf
          split at h
          · split at h
            · cases h
            · rename_i z r2 hz
              split at h
              · rename_i ht
                exact hL _ _ _ _ (ge_two F hx (hF _ _ _ _ hf) (hO _ _ _ _ hz) ht) h
              · cases h
          · split at h
            · rename_i ht
              exact hL _ _ _ _ (ge_one F hx (hF _ _ _ _ hf) ht) h
            · cases h
    · intro l b h
      rw [linesF] at h
      cases hm : manyF F n ((partsF l gDia).filter (· ≠ [])) with
      | none => rw [hm] at h; cases h
      | some k =>
        rw [hm] at h
        obtain ⟨ys, rfl, e⟩ := hM _ _ hm
        cases ys with
        | nil => cases h
        | cons y ys =>
          have : some (chainL (y :: ys)) = some b := h
          injection this with this; subst this
          exact ⟨⟨y, ys, rfl, e⟩⟩
    · intro ls b h
      cases ls with
      | nil => rw [manyF] at h; injection h with h; subst h; exact ⟨[], rfl, by simp⟩
      | cons a r =>
        rw [manyF] at h
        split at h
        · cases h
        · rename_i y hy
          split at h
          · cases h
          · rename_i k hk
            injection h with h; subst h
            obtain ⟨ys, rfl, e⟩ := hM _ _ hk
            exact ⟨y :: ys, rfl, fun z hz => by
              rcases List.mem_cons.1 hz with rfl | hz
              · exact hLn _ _ hy
              · exact e z hz⟩
    · intro l y h
      rw [lineF] at h
      split at h
      · split at h
        · cases h
        · rename_i a ha
          split at h
          · cases h
          · rename_i b hb
            injection h with h; subst h
            exact gl_guard F (hE _ _ _ ha) (hE _ _ _ hb)
      · split at h
        · rename_i s r hs
          obtain ⟨t, -, -, -, hne⟩ := set_head hs
          split at h
          · cases h
          · rename_i hnf
            split at h
            · cases h
            · rename_i a ha
              injection h with h; subst h
              exact gl_set F (hE _ _ _ ha) hne hnf
        · split at h
          · cases h
          · rename_i a ha
            injection h with h; subst h
            exact gl_value F (hE _ _ _ ha)
      · cases h
end
/-- A statement's text. -/
def textS (x : Stm) : List Tok :=
  if x.kind = 3 then nm x.name :: gl gGets :: encl (gl gLC) (gl gRC) (joinG gDia ((showT x.body).map Prod.fst)) else if x.kind = 2 then nm x.name :: gl gGets :: textE x.expr else textE x.expr
/-- THE STAGE'S THEOREM, of trees: shown, they are told again. -/
theorem stm_back (F : List (List UInt8)) (l : List Tok) (x : Stm) (h : stmtF F l = some x) : Bal (textS x) ∧ stmtF F (textS x) = some x := by
  unfold stmtF at h
  cases hs : setF l with
  | none =>
    rw [hs] at h
    simp only [Option.map_eq_some_iff] at h
    obtain ⟨y, hy, rfl⟩ := h
    have hg := (back_all F _).2.2.2.1 _ _ _ hy
    have ht : textS ⟨1, [], y, .nil⟩ = textE y := by unfold textS; simp
    rw [ht]
    refine ⟨hg.tb.bal, ?_⟩
    unfold stmtF
    rw [set_none hg.tb]
    simp only
    rw [hg.parse _ (by unfold fuel; omega)]; rfl
  | some p =>
    obtain ⟨s, r⟩ := p
    obtain ⟨-, -, -, -, hne⟩ := set_head hs
    rw [hs] at h
    simp only at h
    cases hr : r.getLast? with
    | none => rw [hr] at h; cases h
    | some t =>
      rw [hr] at h
      simp only at h
      split at h
      · simp only [Option.map_eq_some_iff] at h
        obtain ⟨b, hb, rfl⟩ := h
        obtain ⟨y, ys, rfl, e⟩ := ((back_all (F ++ [s]) _).2.2.2.2.2.1 _ _ hb).ex
        have hbal := gb_bal (F ++ [s]) e
        have ht : textS ⟨3, s, noEx, chainL (y :: ys)⟩ = nm s :: gl gGets :: encl (gl gLC) (gl gRC) (joinG gDia ((y :: ys).map textL)) := by
          unfold textS; simp only [gb_text]; rfl
        rw [ht]
        refine ⟨.cons (wt_kind _ (by simp [nm])) (.cons (by decide) (TG.brace hbal).bal), ?_⟩
        have g2 : isG (gl gRC) gRC = true := by decide
        unfold stmtF
        rw [set_some s hne]
        simp only
        rw [encl_last]
        simp only
        rw [if_pos ⟨by rw [encl_len]; omega, g2, encl_opened (by decide) (by decide) hbal.dyck⟩, encl_init, List.drop_succ_cons, List.drop_zero, gb_lines (F ++ [s]) e _ (by
          unfold fuel; simp only [List.length_cons]; rw [encl_len]; omega)]
        rfl
      · simp only [Option.map_eq_some_iff] at h
        obtain ⟨y, hy, rfl⟩ := h
        have hg := (back_all F _).2.2.2.1 _ _ _ hy
        have ht : textS ⟨2, s, y, .nil⟩ = nm s :: gl gGets :: textE y := by unfold textS; simp
        rw [ht]
        refine ⟨.cons (wt_kind _ (by simp [nm])) (.cons (by decide) hg.tb.bal), ?_⟩
        obtain ⟨u, hu, hend⟩ := ex_ends F (hg.parse _ (Nat.le_refl _))
        obtain ⟨-, -, u3⟩ := ends_facts F hend
        unfold stmtF
        rw [set_some s hne]
        simp only
        rw [hu]
        simp only
        rw [if_neg (by rw [u3]; simp), hg.parse _ (by unfold fuel; simp only [List.length_cons]; omega)]; rfl
end Go.Proofs.YtijfnnjgcgmnaaaGreatDoor.Par
