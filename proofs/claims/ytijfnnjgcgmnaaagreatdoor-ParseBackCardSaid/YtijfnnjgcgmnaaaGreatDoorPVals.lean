/- parse: the text of what is told has the text's values, each once: so it is not long; the law of trees and texts. Plain. -/
import Derived.Test.YtijfnnjgcgmnaaaGreatDoorPFine
import Derived.Test.YtijfnnjgcgmnaaaGreatDoorBackLaw
namespace Go.Proofs.YtijfnnjgcgmnaaaGreatDoor.Par
open Go.RowKit Go.Shelf
set_option linter.unusedVariables false
set_option linter.unusedSimpArgs false

/-- How long a text's values are. -/
def vw : List Tok → Nat
  | [] => 0
  | t :: r => (if t.kind = 1 then (shw t).length else 0) + vw r
theorem vw_app (a b : List Tok) : vw (a ++ b) = vw a + vw b := by
  induction a with
  | nil => rw [List.nil_append, vw, Nat.zero_add]
  | cons t r ih => rw [List.cons_append, vw, vw, ih, Nat.add_assoc]
theorem vw_no {t : Tok} (h : t.kind ≠ 1) (r : List Tok) : vw (t :: r) = vw r := by rw [vw, if_neg h, Nat.zero_add]
theorem vw_gl (s : List UInt8) (r : List Tok) : vw (gl s :: r) = vw r := vw_no (gl_three s) r
theorem vw_nm (s : List UInt8) (r : List Tok) : vw (nm s :: r) = vw r := vw_no (nm_two s) r
theorem vw_take (l : List Tok) (k : Nat) : vw (l.take k) + vw (l.drop k) = vw l := by rw [← vw_app, List.take_append_drop]
theorem vw_init {l : List Tok} {t : Tok} (h : l.getLast? = some t) : vw l = vw l.dropLast + vw [t] := by
  conv => lhs; rw [last_split h]
  exact vw_app _ _
theorem vw_val (a : Arr) (t : Tok) (h : t.kind = 1) (e : t.val = a) : vw [vl a] = vw [t] := by
  subst e
  have e1 : shw (vl t.val) = shw t := by unfold shw; rw [if_pos h, if_pos (by rfl : (vl t.val).kind = 1)]; rfl
  show (if (vl t.val).kind = 1 then (shw (vl t.val)).length else 0) + 0 = (if t.kind = 1 then (shw t).length else 0) + 0
  rw [if_pos h, if_pos (by rfl : (vl t.val).kind = 1), e1]
theorem vw_encl (s t : List UInt8) (l : List Tok) : vw (encl (gl s) (gl t) l) = vw l := by
  show vw (gl s :: l ++ [gl t]) = _
  rw [List.cons_append, vw_gl, vw_app, vw_gl]; rfl
theorem vw_closed (x : Ex) : vw (closedE x) = vw (textE x) := by
  unfold closedE
  split
  · exact vw_encl gLP gRP _
  · rfl
theorem vw_join (g : List UInt8) : ∀ ts : List (List Tok), vw (joinG g ts) = (ts.map vw).sum := by
  intro ts
  induction ts with
  | nil => rfl
  | cons a r ih =>
    cases r with
    | nil => show vw a = vw a + 0; omega
    | cons b r =>
      show vw (a ++ gl g :: joinG g (b :: r)) = _
      rw [vw_app, vw_gl, ih]; rfl
theorem vw_partsR (s : List UInt8) : ∀ (r cur : List Tok) (acc : List (List Tok)) (d : Int), ((partsR s d cur acc r).map vw).sum = vw r.reverse + vw cur + (acc.map vw).sum := by
  intro r
  induction r with
  | nil => intro cur acc d; rw [partsR, List.map_cons, List.sum_cons]; show _ = 0 + _ + _; omega
  | cons t r ih =>
    intro cur acc d
    rw [partsR, List.reverse_cons, vw_app]
    split
    · rename_i h
      have hk : t.kind ≠ 1 := by have := (isG_eq h.2).1; omega
      rw [ih, vw_no hk, List.map_cons, List.sum_cons]
      show _ + 0 + _ = _ + 0 + _ + _; omega
    · rw [ih, show t :: cur = [t] ++ cur from rfl, vw_app]; omega
theorem vw_parts (l : List Tok) (s : List UInt8) : ((partsF l s).map vw).sum = vw l := by
  unfold partsF
  rw [vw_partsR, List.reverse_reverse]; rfl
theorem vw_filter (ls : List (List Tok)) : ((ls.filter (· ≠ [])).map vw).sum ≤ (ls.map vw).sum := by
  induction ls with
  | nil => exact Nat.le_refl _
  | cons a r ih =>
    rw [List.filter_cons, List.map_cons, List.sum_cons]
    split
    · rw [List.map_cons, List.sum_cons]; omega
    · omega
theorem vw_set {l r : List Tok} {s : List UInt8} (h : setF l = some (s, r)) : vw r ≤ vw l := by
  unfold setF at h
  split at h
  · split at h
    · injection h with h; injection h with _ h; subst h
      rw [vw, vw]; omega
    · cases h
  · cases h
theorem vw_fn (k f g : Int) (s : List UInt8) (hk : k ≠ 7) : vw (textF ⟨k, f, g, s, .nil⟩) = 0 := by
  unfold textF funT
  simp only
  split
  · rw [vw_gl, vw_gl]; rfl
  split
  · rw [vw_gl, vw_gl]; rfl
  split
  · rw [vw_gl, vw_gl, vw_gl]; rfl
  split
  · rw [vw_gl, vw_gl, vw_gl]; rfl
  split
  · rw [vw_nm]; rfl
  first
    | (split <;> (rw [vw_gl]; rfl))
    | (rw [if_neg hk]; split <;> (rw [vw_gl]; rfl))
section
variable (F : List (List UInt8))
set_option maxHeartbeats 1000000 in
/-- Each value is told once. -/
theorem all_vals : ∀ n : Nat,
    (∀ ins l x r, operandF F n ins l = some (x, r) → vw r + vw (textE x) ≤ vw l) ∧
    (∀ ins ls k, axesF F n ins ls = some k → (((showT k).map Prod.fst).map vw).sum ≤ (ls.map vw).sum) ∧
    (∀ ins l f r, functionF F n ins l = some (f, r) → vw r + vw (textF f) ≤ vw l) ∧
    (∀ ins l x, exprF F n ins l = some x → vw (textE x) ≤ vw l) ∧
    (∀ ins x l y, loopF F n ins x l = some y → vw (textE y) ≤ vw l + vw (textE x)) ∧
    (∀ l b, linesF F n l = some b → vw (joinG gDia ((showT b).map Prod.fst)) ≤ vw l) ∧
    (∀ ls b, manyF F n ls = some b → (((showT b).map Prod.fst).map vw).sum ≤ (ls.map vw).sum) ∧
    (∀ l y, lineF F n l = some y → vw (textL y) ≤ vw l) := by
  intro n
  induction n with
  | zero =>
    refine ⟨?_, ?_, ?_, ?_, ?_, ?_, ?_, ?_⟩
    · intro ins l x r h; rw [operandF] at h; cases h
    · intro ins l x h; rw [axesF] at h; cases h
    · intro ins l x r h; rw [functionF] at h; cases h
    · intro ins l x h; rw [exprF] at h; cases h
    · intro ins x l y h; rw [loopF] at h; cases h
    · intro l b h; rw [linesF] at h; cases h
    · intro l b h; rw [manyF] at h; cases h
    · intro l b h; rw [lineF] at h; cases h
  | succ n ih =>
    obtain ⟨hO, hA, hF, hE, hL, hLs, hM, hLn⟩ := ih
    refine ⟨?_, ?_, ?_, ?_, ?_, ?_, ?_, ?_⟩
    · intro ins l x r h
      rw [operandF] at h
      cases ht : l.getLast? with
      | none => rw [ht] at h; cases h
      | some t =>
        have hv := vw_init ht
        rw [ht] at h
        simp only at h
        by_cases k1 : t.kind = 1
        · rw [if_pos k1] at h
          injection h with h; injection h with h1 h2; subst h1 h2
          rw [show textE ⟨1, [], t.val, noFn, .nil⟩ = [vl t.val] by simp [textE, exT], vw_val _ t k1 rfl]; omega
        rw [if_neg k1] at h
        split at h
        · split at h
          · cases h
          injection h with h; injection h with h1 h2; subst h1 h2
          rw [show textE ⟨2, t.txt, noArr, noFn, .nil⟩ = [nm t.txt] by simp [textE, exT], vw_nm, vw]; omega
        have hp := vw_take l (openedF l)
        have hd : vw (l.dropLast.drop (openedF l + 1)) ≤ vw (l.drop (openedF l)) := by
          by_cases ho : openedF l < l.length
          · have h1 := vw_take (l.dropLast.drop (openedF l)) 1
            rw [List.drop_drop] at h1
            have h2 : vw (l.dropLast.drop (openedF l)) ≤ vw (l.drop (openedF l)) := by
              have hsp : l.drop (openedF l) = (l.dropLast ++ [t]).drop (openedF l) := by rw [← last_split ht]
              rw [hsp]
              by_cases ho2 : openedF l ≤ l.dropLast.length
              · rw [List.drop_append_of_le_length ho2, vw_app]; omega
              · rw [List.length_dropLast] at ho2; omega
            omega
          · rw [List.drop_eq_nil_of_le (by rw [List.length_dropLast]; omega)]; exact Nat.zero_le _
        split at h
        · split at h
          · cases h
          · rename_i y he
            injection h with h; injection h with h1 h2; subst h1 h2
            have := hE _ _ _ he
            omega
        split at h
        · split at h
          · cases h
          · rename_i y r' he
            split at h
            · cases h
            · rename_i k hk
              injection h with h; injection h with h1 h2; subst h1 h2
              have e1 := hO _ _ _ _ he
              have e2 := hA _ _ _ hk
              rw [vw_parts] at e2
              have htx : vw (textE ⟨7, [], noArr, noFn, y.cons k⟩) = vw (textE y) + (((showT k).map Prod.fst).map vw).sum := by
                show vw (exT 7 [] noArr (textF noFn) (showT (y.cons k))) = _
                rw [showT_ex, show exT 7 [] noArr (textF noFn) ((textE y, closedE y) :: showT k) = closedE y ++ encl (gl gLB) (gl gRB) (joinG gSemi ((showT k).map Prod.fst)) by simp [exT, nth], vw_app, vw_closed, vw_encl, vw_join]
              rw [htx]; omega
        split at h
        · injection h with h; injection h with h1 h2; subst h1 h2
          rw [show textE ⟨3, [], noArr, noFn, .nil⟩ = [gl gAlpha] by simp [textE, exT], vw_gl, vw]; omega
        split at h
        · injection h with h; injection h with h1 h2; subst h1 h2
          rw [show textE ⟨4, [], noArr, noFn, .nil⟩ = [gl gOmega] by simp [textE, exT], vw_gl, vw]; omega
        · cases h
    · intro ins ls k h
      cases ls with
      | nil =>
        rw [axesF] at h; injection h with h; subst h
        exact Nat.le_refl _
      | cons a r =>
        rw [axesF] at h
        by_cases ha : a = []
        · subst ha
          rw [if_pos rfl] at h
          simp only at h
          split at h
          · cases h
          · rename_i k' hk
            injection h with h; subst h
            have := hA _ _ _ hk
            show vw (textE noneEx) + (((showT k').map Prod.fst).map vw).sum ≤ vw [] + (r.map vw).sum
            rw [noneEx_text]; omega
        · rw [if_neg ha] at h
          split at h
          · cases h
          · rename_i y he
            split at h
            · cases h
            · rename_i k' hk
              injection h with h; subst h
              have e1 := hA _ _ _ hk
              have e2 := hE _ _ _ he
              show vw (textE y) + (((showT k').map Prod.fst).map vw).sum ≤ vw a + (r.map vw).sum
              omega
    · intro ins l f r h
      rw [functionF] at h
      cases ht : l.getLast? with
      | none => rw [ht] at h; cases h
      | some t =>
        have hv := vw_init ht
        rw [ht] at h
        simp only at h
        split at h
        · injection h with h; injection h with h1 h2; subst h1 h2
          rw [vw_fn _ _ _ _ (by decide)]; omega
        split at h
        · injection h with h; injection h with h1 h2; subst h1 h2
          rw [vw_fn _ _ _ _ (by decide)]; omega
        split at h
        · split at h
          · cases h
          · rename_i b hb
            injection h with h; injection h with h1 h2; subst h1 h2
            have e1 := hLs _ _ hb
            have hp := vw_take l (openedF l)
            have hd : vw (l.dropLast.drop (openedF l + 1)) ≤ vw (l.drop (openedF l)) := by
              by_cases ho : openedF l < l.length
              · have h1 := vw_take (l.dropLast.drop (openedF l)) 1
                rw [List.drop_drop] at h1
                have h2 : vw (l.dropLast.drop (openedF l)) ≤ vw (l.drop (openedF l)) := by
                  have hsp : l.drop (openedF l) = (l.dropLast ++ [t]).drop (openedF l) := by rw [← last_split ht]
                  rw [hsp]
                  by_cases ho2 : openedF l ≤ l.dropLast.length
                  · rw [List.drop_append_of_le_length ho2, vw_app]; omega
                  · rw [List.length_dropLast] at ho2; omega
                omega
              · rw [List.drop_eq_nil_of_le (by rw [List.length_dropLast]; omega)]; exact Nat.zero_le _
            rw [show textF ⟨7, 0, 0, [], b⟩ = encl (gl gLC) (gl gRC) (joinG gDia ((showT b).map Prod.fst)) by simp [textF, funT], vw_encl]
            omega
        split at h
        · split at h
          · injection h with h; injection h with h1 h2; subst h1 h2
            rw [vw_fn _ _ _ _ (by decide)]; omega
          · cases h
        · rename_i u hu
          have hv2 := vw_init hu
          split at h
          · injection h with h; injection h with h1 h2; subst h1 h2
            rw [vw_fn _ _ _ _ (by decide)]; omega
          split at h
          · injection h with h; injection h with h1 h2; subst h1 h2
            rw [vw_fn _ _ _ _ (by decide)]; omega
          split at h
          · split at h
            · injection h with h; injection h with h1 h2; subst h1 h2
              rw [vw_fn _ _ _ _ (by decide)]; omega
            · cases h
          · rename_i v hv
            have hv3 := vw_init hv
            split at h
            · injection h with h; injection h with h1 h2; subst h1 h2
              rw [vw_fn _ _ _ _ (by decide)]; omega
            split at h
            · injection h with h; injection h with h1 h2; subst h1 h2
              rw [vw_fn _ _ _ _ (by decide)]; omega
            split at h
            · injection h with h; injection h with h1 h2; subst h1 h2
              rw [vw_fn _ _ _ _ (by decide)]; omega
            · cases h
    · intro ins l x h
      rw [exprF] at h
      split at h
      · cases h
      · rename_i y r he
        have := hO _ _ _ _ he
        have := hL _ _ _ _ h
        omega
    · intro ins x l y h
      rw [loopF] at h
      split at h
      · injection h with h; subst h; omega
      · split at h
        · cases h
        · rename_i f r1 hf
          have e1 := hF _ _ _ _ hf
          split at h
          · split at h
            · cases h
            · rename_i z r2 hz
              have e2 := hO _ _ _ _ hz
              split at h
              · have htx : textE ⟨6, [], noArr, f, z.cons (x.cons .nil)⟩ = closedE z ++ textF f ++ textE x := by
                  show exT 6 [] noArr (textF f) (showT (z.cons (x.cons .nil))) = _
                  rw [showT_ex, showT_ex]
                  simp [exT, nth]
                have := hL _ _ _ _ h
                rw [htx, vw_app, vw_app, vw_closed] at this
                omega
              · cases h
          · split at h
            · have htx : textE ⟨5, [], noArr, f, x.cons .nil⟩ = textF f ++ textE x := by
                show exT 5 [] noArr (textF f) (showT (x.cons .nil)) = _
                rw [showT_ex]
                simp [exT, nth]
              have := hL _ _ _ _ h
              rw [htx, vw_app] at this
              omega
            · cases h
    · intro l b h
      rw [linesF] at h
      cases hm : manyF F n ((partsF l gDia).filter (· ≠ [])) with
      | none => rw [hm] at h; cases h
      | some k =>
        rw [hm] at h
        have e1 := hM _ _ hm
        have e2 := vw_filter (partsF l gDia)
        rw [vw_parts] at e2
        have : vw (joinG gDia ((showT k).map Prod.fst)) ≤ vw l := by rw [vw_join]; omega
        cases k with
        | nil => cases h
        | ex => injection h with h; subst h; exact this
        | ln => injection h with h; subst h; exact this
    · intro ls b h
      cases ls with
      | nil =>
        rw [manyF] at h; injection h with h; subst h
        exact Nat.le_refl _
      | cons a r =>
        rw [manyF] at h
        split at h
        · cases h
        · rename_i y hy
          split at h
          · cases h
          · rename_i k hk
            injection h with h; subst h
            have e1 := hM _ _ hk
            have e2 := hLn _ _ hy
            show vw (textL y) + (((showT k).map Prod.fst).map vw).sum ≤ vw a + (r.map vw).sum
            omega
    · intro l y h
      rw [lineF] at h
      split at h
      · rename_i a b hp
        have hn := vw_parts l gColon
        rw [hp] at hn
        simp only [List.map_cons, List.map_nil, List.sum_cons, List.sum_nil] at hn
        split at h
        · cases h
        · rename_i xa ha
          split at h
          · cases h
          · rename_i xb hb
            injection h with h; subst h
            have h1 := hE _ _ _ ha
            have h2 := hE _ _ _ hb
            have htx : textL ⟨3, [], xa.cons (xb.cons .nil)⟩ = textE xa ++ gl gColon :: textE xb := by unfold textL lnT; simp only [showT_ex]; simp [nth]
            rw [htx, vw_app, vw_gl]; omega
      · split at h
        · rename_i s r hs
          split at h
          · cases h
          · split at h
            · cases h
            · rename_i xa ha
              injection h with h; subst h
              have h1 := hE _ _ _ ha
              have h2 := vw_set hs
              have htx : textL ⟨2, s, xa.cons .nil⟩ = nm s :: gl gGets :: textE xa := by unfold textL lnT; simp only [showT_ex]; simp [nth]
              rw [htx, vw_nm, vw_gl]; omega
        · split at h
          · cases h
          · rename_i xa ha
            injection h with h; subst h
            have h1 := hE _ _ _ ha
            have htx : textL ⟨1, [], xa.cons .nil⟩ = textE xa := by unfold textL lnT; simp only [showT_ex]; simp [nth]
            rw [htx]; exact h1
      · cases h
theorem stm_vals (l : List Tok) (x : Stm) (h : stmtF F l = some x) : vw (textS x) ≤ vw l := by
  unfold stmtF at h
  cases hs : setF l with
  | none =>
    rw [hs] at h
    simp only [Option.map_eq_some_iff] at h
    obtain ⟨y, hy, rfl⟩ := h
    have ht : textS ⟨1, [], y, .nil⟩ = textE y := by unfold textS; simp
    rw [ht]
    exact (all_vals F _).2.2.2.1 _ _ _ hy
  | some p =>
    obtain ⟨s, r⟩ := p
    have e0 := vw_set hs
    rw [hs] at h
    simp only at h
    split at h
    · cases h
    · rename_i t ht
      split at h
      · simp only [Option.map_eq_some_iff] at h
        obtain ⟨b, hb, rfl⟩ := h
        have e1 := (all_vals (F ++ [s]) _).2.2.2.2.2.1 _ _ hb
        have e2 := vw_take r.dropLast 1
        have e3 := vw_init ht
        have ht : textS ⟨3, s, noEx, b⟩ = nm s :: gl gGets :: encl (gl gLC) (gl gRC) (joinG gDia ((showT b).map Prod.fst)) := by unfold textS; simp
        rw [ht, vw_nm, vw_gl, vw_encl]; omega
      · simp only [Option.map_eq_some_iff] at h
        obtain ⟨y, hy, rfl⟩ := h
        have e1 := (all_vals F _).2.2.2.1 _ _ _ hy
        have ht : textS ⟨2, s, y, .nil⟩ = nm s :: gl gGets :: textE y := by unfold textS; simp
        rw [ht, vw_nm, vw_gl]; omega
end
theorem sh_le (T : List Tok) (h : Goods T) : (shTail T).length ≤ vw T + 14 * T.length := by
  induction T with
  | nil => exact Nat.le_refl _
  | cons t r ih =>
    have hr := ih fun u hu => h u (by simp [hu])
    have ht := h t (by simp)
    have h1 : (shw t).length ≤ (if t.kind = 1 then (shw t).length else 0) + 12 := by
      split
      · omega
      · rename_i hk
        have := ht.txt_len
        unfold shw
        rw [if_neg hk]; omega
    show (32 :: (shw t ++ shTail r)).length ≤ _
    rw [List.length_cons, List.length_append, List.length_cons, vw]; omega
theorem sh_ge (T : List Tok) : vw T ≤ (shTail T).length := by
  induction T with
  | nil => exact Nat.le_refl _
  | cons t r ih =>
    show _ ≤ (32 :: (shw t ++ shTail r)).length
    rw [List.length_cons, List.length_append, vw]
    split <;> omega
theorem shText_le (T : List Tok) (h : Goods T) : (shText T).length ≤ vw T + 14 * T.length := by
  have := sh_le T h
  cases T with
  | nil => exact Nat.zero_le _
  | cons t r =>
    change (32 :: (shw t ++ shTail r)).length ≤ _ at this
    show (shw t ++ shTail r).length ≤ _
    rw [List.length_cons] at this; omega
theorem shText_ge (T : List Tok) : vw T ≤ (shText T).length := by
  cases T with
  | nil => exact Nat.zero_le _
  | cons t r =>
    have := sh_ge r
    show _ ≤ (shw t ++ shTail r).length
    rw [List.length_append, vw]
    split <;> omega
theorem state_bal {F : List (List UInt8)} {l : List Tok} {x : Stm} (hb : Bal l) (h : stmtF F l = some x) : (stateOf F l).2 = 9 ∨ stateOf F l = (x, 0) := by
  obtain ⟨d, hd⟩ := hb [] 0
  have hm : (matchedF l).2 = true := by unfold matchedF; rw [hd]; rfl
  unfold stateOf
  rw [if_neg (by rw [hm]; simp), h]
  split
  · exact .inl rfl
  · exact .inr rfl
theorem state_ok {F : List (List UInt8)} {l : List Tok} (h : (stateOf F l).2 = 0) : stmtF F l = some (stateOf F l).1 := by
  unfold stateOf at h ⊢
  by_cases h1 : (matchedF l).2 = false
  · rw [if_pos h1] at h; exact absurd h (by decide)
  · by_cases h2 : 50 < (matchedF l).1
    · rw [if_neg h1, if_pos h2] at h; exact absurd h (by decide)
    · rw [if_neg h1, if_neg h2] at h ⊢
      cases hx : stmtF F l with
      | none => rw [hx] at h; exact absurd h (by decide)
      | some x => rfl
/-- THE STAGE'S THEOREM: what is told of a statement, shown, is told again as it was; and so by way of a text. -/
theorem back_law (F : List (List UInt8)) (s : List UInt8) (hs : s.length ≤ 8000) (h : (treeOf F s).2 = 0) :
    WfS (treeOf F s).1 ∧ Chain (textS (treeOf F s).1) ∧ (textS (treeOf F s).1).length ≤ 12000 ∧ (shText (textS (treeOf F s).1)).length ≤ 300000 ∧
    ((stateOf F (textS (treeOf F s).1)).2 = 9 ∨ stateOf F (textS (treeOf F s).1) = ((treeOf F s).1, 0)) ∧
    ((textS (treeOf F s).1).length ≤ 4000 → treeOf F (shText (textS (treeOf F s).1)) = stateOf F (textS (treeOf F s).1)) := by
  have h0 : (tokensOf s).2 = 0 := by
    unfold treeOf at h
    split at h
    · assumption
    · rename_i hn; exact absurd h hn
  obtain ⟨hc, hl4⟩ := tokens_chain h0
  have hlen := tokens_len h0
  have e : treeOf F s = stateOf F (tokensOf s).1 := if_pos h0
  rw [e] at h ⊢
  have hx := state_ok h
  generalize (stateOf F (tokensOf s).1).1 = x at *
  generalize (tokensOf s).1 = l at *
  have hg : Goods l := chain_good l hc
  obtain ⟨q1, q2, q3⟩ := stm_fine F l x hg hx
  obtain ⟨p1, p2⟩ := stm_back F l x hx
  have hv := stm_vals F l x hx
  have h1 := shText_le _ q2.good
  have h2 := shText_ge l
  have hch := q2.chain
  refine ⟨q1, hch, by omega, by omega, state_bal p1 p2, fun h4 => ?_⟩
  have ht := tokens_shown hch h4
  unfold treeOf
  rw [ht]
  exact if_pos rfl
end Go.Proofs.YtijfnnjgcgmnaaaGreatDoor.Par
