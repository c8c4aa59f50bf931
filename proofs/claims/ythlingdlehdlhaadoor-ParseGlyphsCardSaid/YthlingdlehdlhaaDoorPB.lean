/- parse: the tokens that stand free, told from the last one on.
   parse: where brackets open.
   parse: parts, by the places that stand free. Plain.
   slices.Reverse, over parts.
   parse: parts, walked.
   parse: parts, as lists of tokens. -/
import Derived.Test.YthlingdlehdlhaaDoorPA
namespace Go.Proofs.YthlingdlehdlhaaDoor.Par
open Go.RowKit Go.Shelf
set_option linter.unusedVariables false
set_option linter.unusedSimpArgs false

/-- The places of those that stand free, among so many last ones, the last one first. -/
def freeTo (l : List Tok) : Nat → List Nat
  | 0 => []
  | k + 1 => freeTo l k ++ (if S (l.drop (l.length - 1 - k)) = 0 then [l.length - 1 - k] else [])
def freeL (l : List Tok) : List Nat := freeTo l l.length
theorem brk_wt (t : Tok) : wt t = if 0 ≤ brk t then (if isOpen t = true then -1 else 1) else 0 := by
  have key : ∀ a b : List UInt8, a ≠ b → isG t a = true → isG t b = false := fun a b h e => by
    obtain ⟨h1, h2⟩ := isG_eq e
    unfold isG; rw [h1, h2]; simp [h]
  unfold wt isClose isOpen brk
  cases h1 : isG t gLP
  · cases h2 : isG t gRP
    · cases h3 : isG t gLB
      · cases h4 : isG t gRB
        · cases h5 : isG t gLC
          · cases h6 : isG t gRC <;> simp
          · have := key gLC gRC (by decide) h5; simp [this]
        · have := key gRB gLC (by decide) h4; simp [this]
      · have a := key gLB gRB (by decide) h3; have b := key gLB gRC (by decide) h3; simp [a, b]
    · have a := key gRP gLB (by decide) h2; have b := key gRP gLC (by decide) h2; simp [a, b]
  · have a := key gLP gRP (by decide) h1; have b := key gLP gRB (by decide) h1; have c := key gLP gRC (by decide) h1; simp [a, b, c]
theorem freeTo_take (l : List Tok) (k m : Nat) : k ≤ m → ∀ (j x : Nat), (freeTo l k)[j]? = some x → (freeTo l m)[j]? = some x := by
  intro h
  induction h with
  | refl => exact fun j x e => e
  | step h ih =>
    intro j x e
    have := ih j x e
    rw [freeTo, List.getElem?_append_left (List.getElem?_eq_some_iff.1 this).1]
    exact this
/-- What is told: a place, and its token. -/
def freeEn (l : List Tok) (k : Nat) (args : Array Value) (W : World) : Prop :=
  ∃ (j : Nat) (t : Tok) (sa : Option Addr) (sn sc : Nat) (ea : Option Addr) (en ec : Nat), (freeL l)[k]? = some j ∧ l[j]? = some t ∧ args = #[.int .i64 (j : Nat), .agg #[.int .i64 t.kind, .string (bs t.txt), .int .i64 t.val.kind, .slice sa sn sc, .slice ea en ec]]

theorem S_bound (l : List Tok) : -(l.length : Int) ≤ S l ∧ S l ≤ l.length := by
  induction l with
  | nil => simp [S]
  | cons t l ih => rw [S, List.length_cons]; have := wt_cases t; omega
end Go.Proofs.YthlingdlehdlhaaDoor.Par

namespace Go.Proofs.YthlingdlehdlhaaDoor.Par
open Go.RowKit Go.Shelf
set_option linter.unusedVariables false
set_option linter.unusedSimpArgs false
attribute [local go_sem] Oper.semAt_some

/-- The first one that stands free, from the end on. -/
theorem free_first {l : List Tok} (h : Dyck l) (hne : l ≠ []) : (freeL l)[0]?.getD 0 = openedF l := by
  obtain ⟨a1, a2, a3⟩ := opened_spec h hne
  have h0 : ∀ k, k ≤ l.length - 1 - openedF l → freeTo l k = [] := by
    intro k
    induction k with
    | zero => intro _; rfl
    | succ k ih =>
      intro hk
      rw [freeTo, ih (by omega), if_neg]
      · rfl
      · have := a3 (l.length - 1 - k) (by omega) (by omega)
        omega
  have h1 : freeTo l (l.length - 1 - openedF l + 1) = [openedF l] := by
    rw [freeTo, h0 _ (Nat.le_refl _), show l.length - 1 - (l.length - 1 - openedF l) = openedF l by omega, if_pos a2]; rfl
  have := freeTo_take l (l.length - 1 - openedF l + 1) l.length (by omega) 0 (openedF l) (by rw [h1]; rfl)
  unfold freeL; rw [this]; rfl

end Go.Proofs.YthlingdlehdlhaaDoor.Par

namespace Go.Proofs.YthlingdlehdlhaaDoor.Par
open Go.RowKit Go.Shelf
set_option linter.unusedVariables false
set_option linter.unusedSimpArgs false

def seg (l : List Tok) (p : Nat × Nat) : List Tok := (l.take p.2).drop p.1
/-- Behind some free places: where the part that is read ends, and the bounds of those behind it, the last one first. -/
def cutSt (l : List Tok) (g : List UInt8) (js : List Nat) : Nat × List (Nat × Nat) :=
  js.foldl (fun st j => if (match l[j]? with | some t => isG t g | none => false) = true then (j, st.2 ++ [(j + 1, st.1)]) else st) (l.length, [])
theorem cutSt_snoc (l : List Tok) (g : List UInt8) (js : List Nat) (j : Nat) (t : Tok) (ht : l[j]? = some t) :
    cutSt l g (js ++ [j]) = if isG t g = true then (j, (cutSt l g js).2 ++ [(j + 1, (cutSt l g js).1)]) else cutSt l g js := by
  unfold cutSt; rw [List.foldl_append, List.foldl_cons, List.foldl_nil, ht]
theorem seg_cons {l : List Tok} {m e : Nat} {t : Tok} (ht : l[m]? = some t) (he : m + 1 ≤ e) : seg l (m, e) = t :: seg l (m + 1, e) := by
  unfold seg
  have h : (l.take e)[m]? = some t := by rw [List.getElem?_take_of_lt (by omega)]; exact ht
  obtain ⟨hl, h2⟩ := List.getElem?_eq_some_iff.1 h
  simp only
  rw [List.drop_eq_getElem_cons hl, h2]
theorem cut_inv (l : List Tok) (g : List UInt8) : ∀ k, k ≤ l.length → l.length - k ≤ (cutSt l g (freeTo l k)).1 ∧ (cutSt l g (freeTo l k)).1 ≤ l.length ∧
    partsF l g = partsR g (S (l.drop (l.length - k))) (seg l (l.length - k, (cutSt l g (freeTo l k)).1)) (((cutSt l g (freeTo l k)).2.map (seg l)).reverse) (l.take (l.length - k)).reverse := by
  intro k
  induction k with
  | zero =>
    intro _
    refine ⟨Nat.le_refl _, Nat.le_refl _, ?_⟩
    have e : cutSt l g (freeTo l 0) = (l.length, []) := rfl
    rw [e, Nat.sub_zero, List.drop_length, List.take_length]
    unfold partsF seg
    rw [List.take_length, List.drop_length]; rfl
  | succ k ih =>
    intro hk
    obtain ⟨h1, h2, h3⟩ := ih (by omega)
    obtain ⟨m, hm⟩ : ∃ m, l.length - k = m + 1 := ⟨l.length - k - 1, by omega⟩
    have hm2 : l.length - (k + 1) = m := by omega
    have hm3 : l.length - 1 - k = m := by omega
    obtain ⟨t, ht⟩ : ∃ t, l[m]? = some t := ⟨_, List.getElem?_eq_getElem (by omega)⟩
    have hrev : (l.take (m + 1)).reverse = t :: (l.take m).reverse := by rw [take_one _ _ _ ht, List.reverse_append]; rfl
    have hS := S_drop_get l m t ht
    rw [hm] at h1 h3
    rw [hm2, freeTo, hm3]
    rw [hrev, partsR, Int.add_comm, ← hS] at h3
    by_cases h0 : S (l.drop m) = 0
    · rw [if_pos h0, cutSt_snoc l g _ m t ht]
      by_cases hg : isG t g = true
      · rw [if_pos ⟨h0, hg⟩] at h3
        rw [if_pos hg]
        refine ⟨Nat.le_refl _, by omega, ?_⟩
        rw [h3, List.map_append, List.reverse_append]
        have : seg l (m, m) = [] := by unfold seg; rw [List.drop_eq_nil_of_le]; rw [List.length_take]; simp only; omega
        rw [this]; rfl
      · rw [if_neg (fun h => hg h.2), ← seg_cons ht h1] at h3
        rw [if_neg hg]
        exact ⟨by omega, h2, h3⟩
    · rw [if_neg h0, List.append_nil]
      rw [if_neg (fun h => h0 h.1), ← seg_cons ht h1] at h3
      exact ⟨by omega, h2, h3⟩
theorem parts_cut (l : List Tok) (g : List UInt8) : partsF l g = (((cutSt l g (freeL l)).2 ++ [(0, (cutSt l g (freeL l)).1)]).map (seg l)).reverse := by
  have h := (cut_inv l g l.length (Nat.le_refl _)).2.2
  rw [Nat.sub_self, List.take_zero, List.reverse_nil, partsR] at h
  unfold freeL
  rw [h, List.map_append, List.reverse_append]; rfl
end Go.Proofs.YthlingdlehdlhaaDoor.Par

namespace Go.Proofs.YthlingdlehdlhaaDoor.Par
open Go.RowKit Go.Shelf
set_option linter.unusedVariables false
set_option linter.unusedSimpArgs false

theorem rev_end {α : Type} (X Y : List α) (n i : Nat) (hX : X.length = n) (hY : Y.length = n) (hi : n ≤ 2 * i + 1)
    (h : ∀ p, p < n → Y[p]? = if p < i ∨ n ≤ p + i then X[n - 1 - p]? else X[p]?) : Y = X.reverse := by
  apply List.ext_getElem?
  intro p
  by_cases hp : p < n
  · rw [h p hp, List.getElem?_reverse (by omega), hX]
    split
    · rfl
    · rename_i hc
      rw [show n - 1 - p = p by omega]
  · rw [List.getElem?_eq_none (by omega), List.getElem?_eq_none (by rw [List.length_reverse]; omega)]
theorem Fr.set0 {rb : Nat} {a w : World} (h : Fr rb a w) (i : Nat) (c : Value) : Fr rb a (w.setCell ⟨rb, i, none⟩ c) :=
  ⟨h.os, h.tape, h.output, by have := h.size; simpa [World.setCell] using this, fun k hk hn => by rw [Below.heap_setCell _ _ _ _ hn]; exact h.block k hk hn⟩
theorem Fr.drew {rb : Nat} {a w : World} (h : Fr rb a w) : Fr rb a w.drew := ⟨h.os, h.tape, h.output, h.size, h.block⟩
end Go.Proofs.YthlingdlehdlhaaDoor.Par

namespace Go.Proofs.YthlingdlehdlhaaDoor.Par
open Go.RowKit Go.Shelf
set_option linter.unusedVariables false
set_option linter.unusedSimpArgs false
attribute [local go_sem] Oper.semAt_some

/-- A piece of a slice of tokens, as a value. -/
def segV (a : Option Addr) (c : Nat) (p : Nat × Nat) : Value := (.slice (if c = p.1 then a else a.map fun x => ⟨x.block, x.off + p.1 * 5, x.spot⟩) (p.2 - p.1) (c - p.1))
theorem Tryd.infoToks : (Tryd.prog.info? 27).map (fun i => (i.zero, i.size, i.bytes)) = some (some (.slice none 0 0), 1, 24) := by kernel_rfl
theorem segs_last (a : Option Addr) (c Ce : Nat) (CL : List (Nat × Nat)) : (List.map (segV a c) (CL ++ [(0, Ce)])).reverse = (List.map (segV a c) CL ++ [Value.slice a Ce c]).reverse := by
  cases a <;> simp [segV]
theorem own_cells {w : World} {base g n cap m size : Nat} {T : TypeId} {xs : List Value} (h : w.ownsRow base T size (.slice (some ⟨g, 0, none⟩) n cap) m xs) : ∃ cs fz, w.heap[g]? = some (.cells cs T fz) := by
  obtain ⟨h1, ⟨h2, h3⟩ | ⟨g2, cap2, cur2, e2, h3, h4, h5⟩⟩ := h
  · cases h2
  · simp only [Value.slice.injEq, Option.some.injEq, Addr.mk.injEq, and_true] at e2
    obtain ⟨rfl, h6⟩ := e2
    exact ⟨_, _, h4⟩
theorem freeTo_at (l : List Tok) : ∀ m k j, m ≤ l.length → (freeTo l m)[k]? = some j → j < l.length ∧ l.length - 1 - j < m ∧ (freeTo l m).take k = freeTo l (l.length - 1 - j) := by
  intro m
  induction m with
  | zero => intro k j _ h; simp [freeTo] at h
  | succ m ih =>
    intro k j hm h
    rw [freeTo] at h ⊢
    by_cases hk : k < (freeTo l m).length
    · rw [List.getElem?_append_left hk] at h
      obtain ⟨h1, h2, h3⟩ := ih k j (by omega) h
      exact ⟨h1, by omega, by rw [List.take_append_of_le_length (by omega)]; exact h3⟩
    · rw [List.getElem?_append_right (by omega)] at h
      split at h
      · obtain ⟨hl, e⟩ := List.getElem?_eq_some_iff.1 h
        simp only [List.length_cons, List.length_nil] at hl
        have hz : k = (freeTo l m).length := by omega
        subst hz
        simp at e
        subst e
        refine ⟨by omega, by omega, ?_⟩
        rw [List.take_append_of_le_length (Nat.le_refl _), List.take_length, show l.length - 1 - (l.length - 1 - m) = m by omega]
      · simp at h
theorem cut_len (l : List Tok) (g : List UInt8) (js : List Nat) : ∀ st : Nat × List (Nat × Nat), (js.foldl (fun st j => if (match l[j]? with | some t => isG t g | none => false) = true then (j, st.2 ++ [(j + 1, st.1)]) else st) st).2.length ≤ st.2.length + js.length := by
  induction js with
  | nil => intro st; simp
  | cons j js ih =>
    intro st
    rw [List.foldl_cons]
    refine Nat.le_trans (ih _) ?_
    generalize (match l[j]? with | some t => isG t g | none => false) = b
    cases b
    · rw [if_neg (by simp)]; simp
    · rw [if_pos rfl]; simp; omega
theorem freeTo_len (l : List Tok) : ∀ m, (freeTo l m).length ≤ m := by
  intro m
  induction m with
  | zero => simp [freeTo]
  | succ m ih =>
    rw [freeTo, List.length_append]
    have : ∀ (p : Prop) [Decidable p] (x : Nat), (if p then [x] else []).length ≤ 1 := by intro p _ x; split <;> simp
    have := this (S (l.drop (l.length - 1 - m)) = 0) (l.length - 1 - m)
    omega
theorem cut_at (l : List Tok) (g : List UInt8) (k j : Nat) (t : Tok) (hj : (freeL l)[k]? = some j) (ht : l[j]? = some t) :
    j + 1 ≤ (cutSt l g ((freeL l).take k)).1 ∧ (cutSt l g ((freeL l).take k)).1 ≤ l.length ∧ (cutSt l g ((freeL l).take k)).2.length ≤ l.length ∧
    cutSt l g ((freeL l).take (k + 1)) = if isG t g = true then (j, (cutSt l g ((freeL l).take k)).2 ++ [(j + 1, (cutSt l g ((freeL l).take k)).1)]) else cutSt l g ((freeL l).take k) := by
  obtain ⟨h1, h2, h3⟩ := freeTo_at l l.length k j (Nat.le_refl _) hj
  have hc := cut_inv l g (l.length - 1 - j) (by omega)
  have hlen := cut_len l g ((freeL l).take k) (l.length, [])
  have hfl := freeTo_len l l.length
  have e : (freeL l).take k = freeTo l (l.length - 1 - j) := h3
  refine ⟨?_, ?_, ?_, ?_⟩
  · rw [e]; have := hc.1; omega
  · rw [e]; exact hc.2.1
  · refine Nat.le_trans hlen ?_
    simp only [List.length_nil, List.length_take, freeL]; omega
  · rw [List.take_add_one, hj]; exact cutSt_snoc l g _ j t ht
end Go.Proofs.YthlingdlehdlhaaDoor.Par

namespace Go.Proofs.YthlingdlehdlhaaDoor.Par
open Go.RowKit Go.Shelf
set_option linter.unusedVariables false
set_option linter.unusedSimpArgs false

theorem IsToks.noBool {w : World} {v : Value} {l : List Tok} (h : IsToks w v l) : ∀ b, v ≠ .bool b := by
  obtain ⟨a, cap, rfl, -⟩ := h; intro b e; cases e
/-- A list of lists of tokens, in memory. -/
def IsRows (w : World) (v : Value) (ls : List (List Tok)) : Prop :=
  ∃ a c, v = .slice a ls.length c ∧ ls.length ≤ c ∧ c ≤ 9223372036854775807 ∧ ∀ k l, ls[k]? = some l → ∃ b o x, a = some ⟨b, o, none⟩ ∧ w.cell? ⟨b, o + k, none⟩ = some x ∧ IsToks w x l
theorem IsRows.soft {w w' : World} {v : Value} {ls : List (List Tok)} (h : IsRows w v ls) (hs : Soft w w') : IsRows w' v ls := by
  obtain ⟨a, c, e, h1, h2, h3⟩ := h
  refine ⟨a, c, e, h1, h2, fun k l hk => ?_⟩
  obtain ⟨b, o, x, e1, h4, h5⟩ := h3 k l hk
  exact ⟨b, o, x, e1, hs _ _ h4 (IsToks.noBool h5), toks_soft h5 hs⟩
theorem cut_bounds (l : List Tok) (g : List UInt8) : ∀ k, k ≤ l.length → ∀ p ∈ (cutSt l g (freeTo l k)).2, p.1 ≤ p.2 ∧ p.2 ≤ l.length := by
  intro k
  induction k with
  | zero => intro _ p hp; rw [show (cutSt l g (freeTo l 0)).2 = [] from rfl] at hp; cases hp
  | succ k ih =>
    intro hk p hp
    obtain ⟨h1, h2, -⟩ := cut_inv l g k (by omega)
    obtain ⟨t, ht⟩ : ∃ t, l[l.length - 1 - k]? = some t := ⟨_, List.getElem?_eq_getElem (by omega)⟩
    rw [freeTo] at hp
    split at hp
    · rw [cutSt_snoc l g _ _ t ht] at hp
      split at hp
      · simp only [List.mem_append, List.mem_singleton] at hp
        rcases hp with hp | rfl
        · exact ih (by omega) p hp
        · exact ⟨by simp only; omega, h2⟩
      · exact ih (by omega) p hp
    · rw [List.append_nil] at hp; exact ih (by omega) p hp
theorem seg_get {l : List Tok} {p : Nat × Nat} {k : Nat} {t : Tok} (h : (seg l p)[k]? = some t) : p.1 + k < p.2 ∧ l[p.1 + k]? = some t := by
  unfold seg at h
  rw [List.getElem?_drop, List.getElem?_take] at h
  split at h
  · exact ⟨by assumption, h⟩
  · cases h
theorem seg_len {l : List Tok} {p : Nat × Nat} (h2 : p.2 ≤ l.length) : (seg l p).length = p.2 - p.1 := by
  unfold seg; rw [List.length_drop, List.length_take]; omega
/-- A piece of a slice of tokens reads as the piece of the list. -/
theorem segV_toks {w : World} {a : Option Addr} {c : Nat} {l : List Tok} (h : IsToks w (.slice a l.length c) l) {p : Nat × Nat} (h1 : p.1 ≤ p.2) (h2 : p.2 ≤ l.length) : IsToks w (segV a c p) (seg l p) := by
  obtain ⟨a', c', e, k1, k2, k3, k4⟩ := h
  simp only [Value.slice.injEq, true_and] at e
  obtain ⟨rfl, rfl⟩ := e
  refine ⟨_, _, by unfold segV; rw [seg_len h2], by rw [seg_len h2]; omega, by omega, fun hn => ?_, fun k t hk => ?_⟩
  · by_cases hc : c = p.1
    · omega
    · rw [if_neg hc] at hn
      cases a with
      | none => have := k3 rfl; omega
      | some x => cases hn
  · obtain ⟨q1, q2⟩ := seg_get hk
    obtain ⟨b, o, vs, ve, rfl, e2, e3, e4, e5⟩ := k4 _ t q2
    refine ⟨b, o + p.1 * 5, vs, ve, ?_, ?_, e3, e4, e5⟩
    · rw [if_neg (by omega)]; rfl
    · rw [show o + p.1 * 5 + k * 5 = o + (p.1 + k) * 5 by omega]; exact e2
/-- A row of pieces reads as the list of the pieces. -/
theorem IsRows.of_own {w : World} {base : Nat} {ov : Value} {a : Option Addr} {c m : Nat} {l : List Tok} {ps : List (Nat × Nat)} (h : w.ownsRow base 27 1 ov m (ps.map (segV a c)).reverse)
    (hp : ∀ p ∈ ps, p.1 ≤ p.2 ∧ p.2 ≤ l.length) (hl : IsToks w (.slice a l.length c) l) (hm : m = ps.length) (hne : 0 < m) : IsRows w ov ((ps.map (seg l)).reverse) := by
  have hlen : (List.map (seg l) ps).reverse.length = m := by simp [hm]
  obtain ⟨h1, ⟨rfl, h2⟩ | ⟨g, cap, cur, rfl, h3, h4, h5, h6, h7, h8⟩⟩ := h
  · omega
  · refine ⟨some ⟨g, 0, none⟩, cap, by rw [hlen], by rw [hlen]; exact h5, by unfold maxLen at h6; omega, fun k x hk => ?_⟩
    rw [← List.map_reverse, List.getElem?_map, Option.map_eq_some_iff] at hk
    obtain ⟨p, hk, rfl⟩ := hk
    have hpm : p ∈ ps := List.mem_reverse.1 (List.mem_of_getElem? hk)
    obtain ⟨q1, q2⟩ := hp p hpm
    refine ⟨g, 0, segV a c p, rfl, ?_, segV_toks hl q1 q2⟩
    rw [Lib.cell_of_heap h4, Nat.zero_add]
    have hx : ((ps.map (segV a c)).reverse)[k]? = some (segV a c p) := by rw [← List.map_reverse, List.getElem?_map, hk]; rfl
    rw [← h8, List.getElem?_take] at hx
    split at hx
    · simpa using hx
    · cases hx
/-- The glyphs' tables. -/
structure Gly (w : World) : Prop where
  a : Strs w (.slice (some ⟨1, 0, none⟩) 18 18) ((([] : List UInt8) :: glyph12).map bs)
  b : Strs w (.slice (some ⟨0, 0, none⟩) 12 12) (mixedG.map bs)
theorem Gly.soft {w w' : World} (h : Gly w) (hs : Soft w w') : Gly w' := ⟨Strs.soft h.a hs, Strs.soft h.b hs⟩
theorem Gly.below {w w' : World} (h : Gly w) (hb : Below w.heap.size w w') : Gly w' := h.soft (Soft.of_below hb)
end Go.Proofs.YthlingdlehdlhaaDoor.Par
