/- parse: a function's lines, walked. -/
import Derived.Test.YthlingdlehdlhaaDoorPC
import Derived.Test.YthlingdlehdlhaaDoorPD
import Derived.Deep.Cut
import Derived.Maps.AppendAt
namespace Go.Proofs.YthlingdlehdlhaaDoor.Par
open Go.RowKit Go.Shelf
set_option linter.unusedVariables false
set_option linter.unusedSimpArgs false

/-- Lines ahead of others. -/
def appL (ys : List Ln) (t : Tr) : Tr := ys.foldr Ln.cons t
theorem appL_nil (ys : List Ln) : appL ys .nil = chainL ys := by
  induction ys with
  | nil => rfl
  | cons y r ih => show y.cons (appL r .nil) = y.cons (chainL r); rw [ih]
theorem appL_snoc (ys : List Ln) (y : Ln) (t : Tr) : appL (ys ++ [y]) t = appL ys (y.cons t) := by unfold appL; rw [List.foldr_append]; rfl
theorem chainL_snoc (ys : List Ln) (y : Ln) : chainL (ys ++ [y]) = appL ys (y.cons .nil) := by rw [← appL_nil, appL_snoc]
theorem chainL_len (ys : List Ln) : (chainL ys).len = ys.length := by
  induction ys with
  | nil => rfl
  | cons y r ih => show (chainL r).len + 1 = r.length + 1; rw [ih]
theorem Cells.inv_ln {Sb : Nat → Prop} {w : World} {z : Ln} {t : Tr} {us : List (List Value)} (h : Cells Sb w (z.cons t) us) : ∃ vc us', us = lnL z vc :: us' ∧ Fresh Sb w (IsTs · vc z.kids) ∧ Cells Sb w t us' := by
  generalize ht : z.cons t = s at h
  cases h with
  | nil => cases ht
  | ex => unfold Ln.cons Ex.cons at ht; cases ht
  | ln y vc r us' j c =>
    unfold Ln.cons at ht
    obtain ⟨k, n, ks⟩ := z
    obtain ⟨k', n', ks'⟩ := y
    simp only [Tr.ln.injEq] at ht
    obtain ⟨rfl, rfl, rfl, rfl⟩ := ht
    exact ⟨vc, us', rfl, j, c⟩
theorem Cells.snocL {Sb : Nat → Prop} {w : World} {ys : List Ln} {us : List (List Value)} (h : Cells Sb w (chainL ys) us) {y : Ln} {vc : Value} (hv : Fresh Sb w (IsTs · vc y.kids)) : Cells Sb w (chainL (ys ++ [y])) (us ++ [lnL y vc]) := by
  induction ys generalizing us with
  | nil =>
    have : us = [] := by have := h.len; exact List.eq_nil_of_length_eq_zero this
    subst this
    exact .ln y vc .nil [] hv .nil
  | cons z r ih =>
    obtain ⟨vc', us', rfl, j1, j2⟩ := Cells.inv_ln (z := z) (t := chainL r) h
    exact .ln _ _ _ _ j1 (ih j2)
/-- Where the reading of lines stands. -/
def LinesSt (F : List (List UInt8)) (n : Nat) (law0 : Option Tr) (bo : Bool) (ys : List Ln) (rest : List (List Tok)) : Prop :=
  (bo = true ∧ law0 = none) ∨ (bo = false ∧ ∃ k, 8 * need rest ≤ k + 3 ∧ 1 ≤ k ∧ k ≤ n ∧ law0 = (manyF F k rest).map (appL ys))
theorem LinesSt.start (F : List (List UInt8)) (n : Nat) (ls : List (List Tok)) (h : 8 * need ls ≤ n + 3) (h1 : 1 ≤ n) : LinesSt F n (manyF F n ls) false [] ls :=
  .inr ⟨rfl, n, h, h1, Nat.le_refl _, by cases manyF F n ls <;> rfl⟩
theorem LinesSt.step {F : List (List UInt8)} {n k : Nat} {law0 : Option Tr} {ys : List Ln} {a : List Tok} {rest : List (List Tok)} {bo bo2 : Bool} {y : Ln} (hk : bo = false → 8 * need (a :: rest) ≤ k + 1 + 3 ∧ k + 1 ≤ n ∧ law0 = (manyF F (k + 1) (a :: rest)).map (appL ys)) (hb : bo = true → law0 = none)
    (h : Res bo bo2 (lineF F k a) y) : LinesSt F n law0 bo2 (ys ++ [y]) rest := by
  cases bo with
  | true =>
    have h1 := h.1
    simp at h1
    subst h1
    exact .inl ⟨rfl, hb rfl⟩
  | false =>
    obtain ⟨h1, h2, h3⟩ := hk rfl
    rw [manyF] at h3
    cases bo2 with
    | true =>
      rcases h.bad with h | h
      · cases h
      · exact .inl ⟨rfl, by rw [h3, h]; rfl⟩
    | false =>
      rw [need_cons] at h1
      rw [h.good.2] at h3
      refine .inr ⟨rfl, k, by omega, by omega, by omega, ?_⟩
      rw [h3]
      simp only
      cases manyF F k rest with
      | none => rfl
      | some t => simp only [Option.map_some, appL_snoc]
theorem LinesSt.done {F : List (List UInt8)} {n : Nat} {law0 : Option Tr} {bo : Bool} {ys : List Ln} (h : LinesSt F n law0 bo ys []) : Res false bo law0 (chainL ys) := by
  rcases h with ⟨rfl, h⟩ | ⟨rfl, k, h1, h2, h3, h4⟩
  · exact Res.none h false _
  · obtain ⟨k, rfl⟩ : ∃ j, k = j + 1 := ⟨k - 1, by omega⟩
    rw [manyF] at h4
    exact Res.some (by rw [h4]; simp [appL_nil]) false
theorem lines_law {F : List (List UInt8)} {n : Nat} {l : List Tok} {bad bo : Bool} {ys : List Ln} (h : Res false bo (manyF F n ((partsF l gDia).filter (· ≠ []))) (chainL ys)) : Res bad (bad || (bo || decide (ys.length = 0))) (linesF F (n + 1) l) (chainL ys) := by
  rw [linesF]
  cases hm : manyF F n ((partsF l gDia).filter (· ≠ [])) with
  | none =>
    rw [hm] at h
    have := h.1
    simp at this
    subst this
    exact ⟨by simp, fun h => by simp at h⟩
  | some b =>
    rw [hm] at h
    have h1 := h.1
    simp at h1
    subst h1
    have h2 := h.2 rfl
    injection h2 with h2
    subst h2
    cases ys with
    | nil => exact ⟨by simp [chainL], fun h => by simp at h⟩
    | cons y r => exact ⟨by simp [chainL, Ln.cons], fun _ => rfl⟩
theorem Fresh.youngF {base base' : Nat → Prop} {w w1 : World} {P : World → Prop} (h : Fresh base w P) (hs : SoftF base w w1) (hb : ∀ k, base k → k < w.heap.size → base' k) : Fresh base' w1 P :=
  fun w' h' => h w' fun p v hp hc hv => h' p v (hb _ hp (World.block_lt_of_cell? w _ hc)) (hs p v hp hc hv) hv
theorem Cells.youngF {base base' : Nat → Prop} {w w1 : World} {t : Tr} {us : List (List Value)} (h : Cells base w t us) (hs : SoftF base w w1) (hb : ∀ k, base k → k < w.heap.size → base' k) : Cells base' w1 t us := by
  induction h with
  | nil => exact .nil
  | ex x vs ve vb vc r us i1 i2 i3 j1 j2 _ ih => exact .ex x vs ve vb vc r us (i1.youngF hs hb) (i2.youngF hs hb) i3 (j1.youngF hs hb) (j2.youngF hs hb) ih
  | ln y vc r us j _ ih => exact .ln y vc r us (j.youngF hs hb) ih
theorem SoftF.grown {base : Nat → Prop} {w w1 : World} {row : Option Nat} (hg : w.grownBy w1 row) (hb : ∀ k, base k → row ≠ some k) : SoftF base w w1 := fun p v hp hc _ => by
  rw [World.cell?_of_block (w := w) (hg.block p.block (World.block_lt_of_cell? w _ hc) (fun e => hb _ hp e.symm))]; exact hc
theorem own_fr {w w' : World} {rb base n sz : Nat} {T : TypeId} {v : Value} {xs : List Value} (h : w.ownsRow base T sz v n xs) (hf : Fr rb w w') (hb : rb < base) : w'.ownsRow base T sz v n xs := by
  obtain ⟨h1, h2 | ⟨g, cap, cur, e, h3, h4, r⟩⟩ := h
  · exact ⟨h1, .inl h2⟩
  · exact ⟨h1, .inr ⟨g, cap, cur, e, h3, (hf.block g (Array.getElem?_eq_some_iff.1 h4).1 (by omega)).trans h4, r⟩⟩
theorem len_nil {t : Tr} (h : t.len = 0) : t = .nil := by
  cases t with
  | nil => rfl
  | ex => simp [Tr.len] at h
  | ln => simp [Tr.len] at h
theorem Cells.own {Sb S2 : Nat → Prop} {w : World} {t : Tr} {us : List (List Value)} {base n sz : Nat} {T : TypeId} {v : Value} (h : Cells Sb w t us) (hs : ∀ k, Sb k → S2 k) (ho : w.ownsRow base T sz v n us.flatten) (hn : n = t.len) (hb : ∀ k, base ≤ k → S2 k) : Fresh S2 w (IsTs · v t) := by
  obtain ⟨h1, ⟨rfl, h2⟩ | ⟨g, cap, cur, rfl, h3, h4, h5, h6, h7, h8⟩⟩ := ho
  · have := len_nil (t := t) (by omega)
    subst this
    exact Fresh.nil _ _
  · refine (h.weak hs).row (hb g h3) h4 hn h5 (by unfold maxLen at h6; exact h6) (fun i u hu => ?_)
    rw [← h8, List.getElem?_take] at hu
    split at hu
    · simpa using hu
    · cases hu
end Go.Proofs.YthlingdlehdlhaaDoor.Par
