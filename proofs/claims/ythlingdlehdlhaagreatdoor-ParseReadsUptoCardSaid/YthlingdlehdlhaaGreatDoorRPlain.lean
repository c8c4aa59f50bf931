/- The reference's reader, by places: a text's parts, the places that match, where it is cut. Plain.
   The reference's reader, by places: the reader's own law, told by places. Plain. -/
import Derived.Test.YthlingdlehdlhaaGreatDoorPShow0
import Derived.Test.YthlingdlehdlhaaGreatDoorLexLaw
namespace Go.Proofs.YthlingdlehdlhaaGreatDoor.Par
open Go.RowKit Go.Shelf
set_option linter.unusedVariables false
set_option linter.unusedSimpArgs false

/-- What stands from one place on, ahead of another one. -/
def sg (T : List Tok) (a b : Nat) : List Tok := (T.take b).drop a
theorem sg_len {T : List Tok} {a b : Nat} (hb : b ≤ T.length) : (sg T a b).length = b - a := by
  unfold sg; rw [List.length_drop, List.length_take]; omega
theorem sg_nil (T : List Tok) (a : Nat) : sg T a a = [] := List.drop_eq_nil_of_le (by rw [List.length_take]; omega)
theorem sg_get {T : List Tok} {a b : Nat} (k : Nat) (h : a + k < b) : (sg T a b)[k]? = T[a + k]? := by
  unfold sg; rw [List.getElem?_drop, List.getElem?_take_of_lt h]
theorem sg_drop (T : List Tok) (a b k : Nat) : (sg T a b).drop k = sg T (a + k) b := by unfold sg; rw [List.drop_drop]
theorem sg_take {T : List Tok} {a b : Nat} (k : Nat) (h : a + k ≤ b) : (sg T a b).take k = sg T a (a + k) := by
  unfold sg; rw [List.take_drop, List.take_take, Nat.min_eq_left h]
theorem sg_app {T : List Tok} {a b c : Nat} (h1 : a ≤ b) (h2 : b ≤ c) : sg T a b ++ sg T b c = sg T a c := by
  have := List.take_append_drop (b - a) (sg T a c)
  rw [sg_drop, sg_take _ (by omega), show a + (b - a) = b by omega] at this
  exact this
theorem sg_one {T : List Tok} {a : Nat} {t : Tok} (h : T[a]? = some t) : sg T a (a + 1) = [t] := by
  have h1 := (List.getElem?_eq_some_iff.1 h).1
  have hl := sg_len (T := T) (a := a) (b := a + 1) (by omega)
  obtain ⟨u, hu⟩ := List.length_eq_one_iff.1 (show (sg T a (a + 1)).length = 1 by omega)
  have := sg_get (T := T) (a := a) (b := a + 1) 0 (by omega)
  rw [hu, Nat.add_zero, h] at this
  rw [hu]; simpa using this
theorem sg_cons {T : List Tok} {a b : Nat} {t : Tok} (h : T[a]? = some t) (hb : a < b) : sg T a b = t :: sg T (a + 1) b := by
  rw [← sg_app (T := T) (Nat.le_succ a) hb, sg_one h]; rfl
theorem sg_snoc {T : List Tok} {a b : Nat} {t : Tok} (h : T[b]? = some t) (hb : a ≤ b) : sg T a (b + 1) = sg T a b ++ [t] := by
  rw [← sg_app (T := T) hb (Nat.le_succ b), sg_one h]
theorem sg_last {T : List Tok} {a b : Nat} (hab : a < b) (hb : b ≤ T.length) : (sg T a b).getLast? = T[b - 1]? := by
  obtain ⟨t, ht⟩ : ∃ t, T[b - 1]? = some t := ⟨_, List.getElem?_eq_getElem (by omega)⟩
  have := sg_snoc (a := a) ht (by omega)
  rw [show b - 1 + 1 = b by omega] at this
  rw [this, List.getLast?_concat, ht]
theorem sg_init {T : List Tok} {a b : Nat} (hab : a < b) (hb : b ≤ T.length) : (sg T a b).dropLast = sg T a (b - 1) := by
  obtain ⟨t, ht⟩ : ∃ t, T[b - 1]? = some t := ⟨_, List.getElem?_eq_getElem (by omega)⟩
  have := sg_snoc (a := a) ht (by omega)
  rw [show b - 1 + 1 = b by omega] at this
  rw [this, List.dropLast_concat]
theorem sg_all (T : List Tok) : sg T 0 T.length = T := by unfold sg; rw [List.take_length, List.drop_zero]

/-- The places that match. -/
structure AtOK (T : List Tok) (at_ : List Nat) : Prop where
  len : at_.length = T.length
  no : ∀ (i : Nat) (t : Tok), T[i]? = some t → wt t = 0 → at_[i]? = some i
  close : ∀ (i : Nat) (t : Tok), T[i]? = some t → wt t = 1 → ∃ o u, at_[i]? = some o ∧ o < i ∧ T[o]? = some u ∧ wt u = -1 ∧ brk u = brk t ∧ Dyck (sg T (o + 1) i)
  opens : ∀ (i : Nat) (t : Tok), T[i]? = some t → wt t = -1 → ∃ c u, at_[i]? = some c ∧ i < c ∧ T[c]? = some u ∧ wt u = 1 ∧ brk u = brk t ∧ Dyck (sg T (i + 1) c)
theorem S_sg_cons {T : List Tok} {a b : Nat} {t : Tok} (h : T[a]? = some t) (hb : a < b) : S (sg T a b) = wt t + S (sg T (a + 1) b) := by rw [sg_cons h hb]; rfl
theorem S_sg_app {T : List Tok} {a b c : Nat} (h1 : a ≤ b) (h2 : b ≤ c) : S (sg T a c) = S (sg T a b) + S (sg T b c) := by rw [← sg_app h1 h2, S_append]
theorem dyck_suf {T : List Tok} {a b : Nat} (h : Dyck (sg T a b)) {k : Nat} (hk : a ≤ k) : 0 ≤ S (sg T k b) := by
  have := h.2 (k - a)
  rw [sg_drop, show a + (k - a) = k by omega] at this
  exact this
theorem dyck_of {T : List Tok} {a b : Nat} (h0 : S (sg T a b) = 0) (h : ∀ k, a ≤ k → 0 ≤ S (sg T k b)) : Dyck (sg T a b) := ⟨h0, fun k => by rw [sg_drop]; exact h _ (by omega)⟩
/-- Where the bracket opens that closes at the end. -/
theorem opened_sg {T : List Tok} {a b o : Nat} {t u : Tok} (hd : Dyck (sg T a b)) (hab : a < b) (hb : b ≤ T.length) (ht : T[b - 1]? = some t) (hw : wt t = 1) (ho : o < b - 1) (hu : T[o]? = some u) (hwu : wt u = -1) (hin : Dyck (sg T (o + 1) (b - 1))) :
    a ≤ o ∧ openedF (sg T a b) = o - a := by
  have hlast : ∀ k, k ≤ b - 1 → S (sg T k b) = S (sg T k (b - 1)) + 1 := fun k hk => by
    rw [S_sg_app (b := b - 1) hk (by omega)]
    have : sg T (b - 1) b = [t] := by have := sg_one ht; rwa [show b - 1 + 1 = b by omega] at this
    rw [this, S, hw]; rfl
  have hpos : ∀ k, o < k → k ≤ b - 1 → 0 < S (sg T k b) := fun k h1 h2 => by
    have := dyck_suf hin (show o + 1 ≤ k by omega)
    rw [hlast k h2]; omega
  have hao : a ≤ o := by
    rcases Nat.lt_or_ge o a with h | h
    · have := hpos a h (by omega)
      rw [hd.1] at this; omega
    · exact h
  refine ⟨hao, ?_⟩
  have hz : S (sg T o b) = 0 := by
    rw [S_sg_cons hu (by omega), hlast (o + 1) (by omega), hin.1, hwu]; rfl
  have hlen := sg_len (T := T) (a := a) hb
  have hne : sg T a b ≠ [] := fun e => by rw [e] at hlen; simp at hlen; omega
  obtain ⟨h1, h2, h3⟩ := opened_spec hd hne
  rw [sg_drop] at h2
  rcases Nat.lt_trichotomy (openedF (sg T a b)) (o - a) with h | h | h
  · have := h3 (o - a) h (by omega)
    rw [sg_drop, show a + (o - a) = o by omega, hz] at this; omega
  · exact h
  · have := hpos (a + openedF (sg T a b)) (by omega) (by omega)
    rw [h2] at this; omega
/-- What stands free ahead of a place: the unit that begins there. -/
theorem unit_open {T : List Tok} {i c b : Nat} {t u : Tok} (hd : Dyck (sg T i b)) (hib : i < b) (hb : b ≤ T.length) (ht : T[i]? = some t) (hw : wt t = -1) (hc : i < c) (hu : T[c]? = some u) (hwu : wt u = 1) (hin : Dyck (sg T (i + 1) c)) :
    c < b ∧ Dyck (sg T (c + 1) b) ∧ sg T i (c + 1) = encl t u (sg T (i + 1) c) := by
  have hcb : c < b := by
    rcases Nat.lt_or_ge c b with h | h
    · exact h
    · exfalso
      have h1 : S (sg T (i + 1) c) = S (sg T (i + 1) b) + S (sg T b c) := S_sg_app (by omega) h
      have h2 := dyck_suf hin (show i + 1 ≤ b by omega)
      have h3 := S_sg_cons ht hib
      rw [hd.1, hw] at h3
      rw [hin.1] at h1; omega
  have e : sg T i (c + 1) = encl t u (sg T (i + 1) c) := by
    rw [sg_snoc hu (by omega), sg_cons ht hc]; rfl
  have hS : S (sg T i (c + 1)) = 0 := by rw [e]; exact encl_S0 hw hwu hin
  refine ⟨hcb, ?_, e⟩
  have h1 := S_sg_app (T := T) (a := i) (b := c + 1) (c := b) (by omega) hcb
  rw [hd.1, hS] at h1
  exact dyck_of (by omega) fun k hk => dyck_suf hd (by omega)
theorem unit_close {T : List Tok} {i b : Nat} {t : Tok} (hd : Dyck (sg T i b)) (hib : i < b) (ht : T[i]? = some t) : wt t ≠ 1 := fun hw => by
  have h1 := S_sg_cons ht hib
  have h2 := dyck_suf hd (show i ≤ i + 1 by omega)
  rw [hd.1, hw] at h1; omega
theorem unit_none {T : List Tok} {i b : Nat} {t : Tok} (hd : Dyck (sg T i b)) (hib : i < b) (ht : T[i]? = some t) (hw : wt t = 0) : Dyck (sg T (i + 1) b) := by
  have h1 := S_sg_cons ht hib
  rw [hd.1, hw] at h1
  exact dyck_of (by omega) fun k hk => dyck_suf hd (by omega)

/-- A text is cut: up to a place. -/
structure CutI (T : List Tok) (g : List UInt8) (a b i begin : Nat) (out : List (Nat × Nat)) : Prop where
  ab : a ≤ begin
  bi : begin ≤ i
  ib : i ≤ b
  parts : ∀ p ∈ out, a ≤ p.1 ∧ p.1 ≤ p.2 ∧ p.2 ≤ b ∧ NoF g (sg T p.1 p.2) ∧ Dyck (sg T p.1 p.2)
  cur : NoF g (sg T begin i) ∧ Dyck (sg T begin i)
  rest : Dyck (sg T i b)
  eq : sg T a begin = (out.map fun p => sg T p.1 p.2 ++ [gl g]).flatten
theorem CutI.start {T : List Tok} {g : List UInt8} {a b : Nat} (hab : a ≤ b) (hd : Dyck (sg T a b)) : CutI T g a b a a [] :=
  ⟨Nat.le_refl _, Nat.le_refl _, hab, (fun p hp => by cases hp), by rw [sg_nil]; exact ⟨NoF.nil _, Dyck.nil⟩, hd, sg_nil _ _⟩
theorem CutI.sep {T : List Tok} {g : List UInt8} {a b i begin : Nat} {out : List (Nat × Nat)} (h : CutI T g a b i begin out) (hi : i < b) (ht : T[i]? = some (gl g)) (hw : wt (gl g) = 0) : CutI T g a b (i + 1) (i + 1) (out ++ [(begin, i)]) := by
  refine ⟨by have := h.ab; have := h.bi; omega, Nat.le_refl _, hi, fun p hp => ?_, by rw [sg_nil]; exact ⟨NoF.nil _, Dyck.nil⟩, unit_none h.rest hi ht hw, ?_⟩
  · rcases List.mem_append.1 hp with hp | hp
    · exact h.parts p hp
    · rw [List.mem_singleton.1 hp]; exact ⟨h.ab, h.bi, h.ib, h.cur⟩
  · rw [List.map_append, List.flatten_append, ← h.eq]
    show sg T a (i + 1) = sg T a begin ++ ([sg T begin i ++ [gl g]]).flatten
    rw [sg_snoc ht (by have := h.ab; have := h.bi; omega), ← sg_app (T := T) h.ab h.bi]
    simp
theorem CutI.go {T : List Tok} {g : List UInt8} {a b i begin : Nat} {out : List (Nat × Nat)} {t : Tok} (h : CutI T g a b i begin out) (hi : i < b) (ht : T[i]? = some t) (hg : isG t g = false) (hw : wt t = 0) : CutI T g a b (i + 1) begin out := by
  have hs := sg_snoc (a := begin) ht h.bi
  refine ⟨h.ab, by have := h.bi; omega, hi, h.parts, ?_, unit_none h.rest hi ht hw, h.eq⟩
  rw [hs]
  exact ⟨h.cur.1.app (NoF.one hg) (by rw [S, hw]; rfl), h.cur.2.app ⟨by rw [S, hw]; rfl, fun k => by cases k with | zero => rw [List.drop_zero, S, hw]; decide | succ k => simp [S]⟩⟩
theorem CutI.skip {T : List Tok} {g : List UInt8} {a b i begin c : Nat} {out : List (Nat × Nat)} {t u : Tok} (h : CutI T g a b i begin out) (hi : i < b) (hb : b ≤ T.length) (ht : T[i]? = some t) (hg : isG t g = false) (hw : wt t = -1) (hc : i < c) (hu : T[c]? = some u) (hwu : wt u = 1) (hin : Dyck (sg T (i + 1) c)) : CutI T g a b (c + 1) begin out := by
  obtain ⟨q1, q2, q3⟩ := unit_open h.rest hi hb ht hw hc hu hwu hin
  have hs := sg_app (T := T) (a := begin) (b := i) (c := c + 1) h.bi (by omega)
  refine ⟨h.ab, by have := h.bi; omega, q1, h.parts, ?_, q2, h.eq⟩
  rw [← hs, q3]
  have he := encl_dyck hw hwu hin
  exact ⟨h.cur.1.app (NoF.encl hg hwu hin) he.1, h.cur.2.app he⟩
theorem join_flat (g : List UInt8) (t : List Tok) : ∀ ts : List (List Tok), joinG g (ts ++ [t]) = (ts.map fun a => a ++ [gl g]).flatten ++ t := by
  intro ts
  induction ts with
  | nil => rfl
  | cons a r ih =>
    have e : joinG g ((a :: r) ++ [t]) = a ++ gl g :: joinG g (r ++ [t]) := by
      cases r with
      | nil => rfl
      | cons b r => rfl
    rw [e, ih]; simp
/-- So it is cut. -/
theorem CutI.done {T : List Tok} {g : List UInt8} {a b begin : Nat} {out : List (Nat × Nat)} (h : CutI T g a b b begin out) (hw : wt (gl g) = 0) : partsF (sg T a b) g = (out ++ [(begin, b)]).map fun p => sg T p.1 p.2 := by
  have e : sg T a b = joinG g ((out ++ [(begin, b)]).map fun p => sg T p.1 p.2) := by
    rw [List.map_append, List.map_cons, List.map_nil, join_flat, List.map_map]
    rw [← sg_app (T := T) h.ab h.bi, h.eq]; rfl
  rw [e]
  refine parts_joined g hw _ (by simp) fun t ht => ?_
  obtain ⟨p, hp, rfl⟩ := List.mem_map.1 ht
  rcases List.mem_append.1 hp with hp | hp
  · exact (h.parts p hp).2.2.2
  · rw [List.mem_singleton.1 hp]; exact h.cur

/-- Brackets that are open, the last one first. -/
def Stk (T : List Tok) : Nat → List Nat → Prop
  | i, [] => Dyck (sg T 0 i)
  | i, o :: r => o < i ∧ (∃ u, T[o]? = some u ∧ wt u = -1) ∧ Dyck (sg T (o + 1) i) ∧ Stk T o r
theorem Stk.push {T : List Tok} {i : Nat} {os : List Nat} {t : Tok} (h : Stk T i os) (ht : T[i]? = some t) (hw : wt t = -1) : Stk T (i + 1) (i :: os) :=
  ⟨Nat.lt_succ_self i, ⟨t, ht, hw⟩, by rw [sg_nil]; exact Dyck.nil, h⟩
theorem dyck_one {t : Tok} (hw : wt t = 0) : Dyck [t] := ⟨by rw [S, hw]; rfl, fun k => by cases k with | zero => rw [List.drop_zero, S, hw]; decide | succ k => simp [S]⟩
theorem Stk.ext {T : List Tok} {i j : Nat} {os : List Nat} (h : Stk T i os) (hij : i ≤ j) (hd : Dyck (sg T i j)) : Stk T j os := by
  cases os with
  | nil =>
    have h1 : Dyck (sg T 0 i) := h
    show Dyck (sg T 0 j)
    rw [← sg_app (T := T) (Nat.zero_le i) hij]; exact h1.app hd
  | cons o r =>
    obtain ⟨h1, h2, h3, h4⟩ := h
    exact ⟨by omega, h2, by rw [← sg_app (T := T) (show o + 1 ≤ i by omega) hij]; exact h3.app hd, h4⟩
theorem Stk.none {T : List Tok} {i : Nat} {os : List Nat} {t : Tok} (h : Stk T i os) (ht : T[i]? = some t) (hw : wt t = 0) : Stk T (i + 1) os := h.ext (Nat.le_succ i) (by rw [sg_one ht]; exact dyck_one hw)
theorem Stk.pop {T : List Tok} {i o : Nat} {os : List Nat} {t : Tok} (h : Stk T i (o :: os)) (ht : T[i]? = some t) (hw : wt t = 1) : Stk T (i + 1) os := by
  obtain ⟨h1, ⟨u, hu, hwu⟩, h3, h4⟩ := h
  refine h4.ext (by omega) ?_
  rw [sg_snoc ht (by omega), sg_cons hu h1]
  exact encl_dyck hwu hw h3
/-- The places that match, so far. -/
structure AtI (T : List Tok) (i : Nat) (os : List Nat) (at_ : List Nat) : Prop where
  len : at_.length = T.length
  no : ∀ (j : Nat) (t : Tok), j < i → T[j]? = some t → wt t = 0 → at_[j]? = some j
  close : ∀ (j : Nat) (t : Tok), j < i → T[j]? = some t → wt t = 1 → ∃ o u, at_[j]? = some o ∧ o < j ∧ T[o]? = some u ∧ wt u = -1 ∧ brk u = brk t ∧ Dyck (sg T (o + 1) j)
  opens : ∀ (j : Nat) (t : Tok), j < i → T[j]? = some t → wt t = -1 → j ∉ os → ∃ c u, at_[j]? = some c ∧ j < c ∧ T[c]? = some u ∧ wt u = 1 ∧ brk u = brk t ∧ Dyck (sg T (j + 1) c)
  stk : Stk T i os
theorem AtI.start (T : List Tok) (at_ : List Nat) (h : at_.length = T.length) : AtI T 0 [] at_ :=
  ⟨h, (fun j t hj => by omega), (fun j t hj => by omega), (fun j t hj => by omega), by show Dyck (sg T 0 0); rw [sg_nil]; exact Dyck.nil⟩
theorem AtI.none {T : List Tok} {i : Nat} {os at_ : List Nat} {t : Tok} (h : AtI T i os at_) (ht : T[i]? = some t) (hw : wt t = 0) : AtI T (i + 1) os (at_.set i i) := by
  have hi := (List.getElem?_eq_some_iff.1 ht).1
  have far : ∀ j, j ≠ i → (at_.set i i)[j]? = at_[j]? := fun j hj => List.getElem?_set_ne (Ne.symm hj)
  refine ⟨by rw [List.length_set]; exact h.len, fun j u hj hu hwu => ?_, fun j u hj hu hwu => ?_, fun j u hj hu hwu hn => ?_, h.stk.none ht hw⟩
  · by_cases e : j = i
    · subst e; rw [List.getElem?_set_self (by rw [h.len]; exact hi)]
    · rw [far j e]; exact h.no j u (by omega) hu hwu
  · by_cases e : j = i
    · subst e; rw [ht] at hu; injection hu with hu; subst hu; omega
    · rw [far j e]; exact h.close j u (by omega) hu hwu
  · by_cases e : j = i
    · subst e; rw [ht] at hu; injection hu with hu; subst hu; omega
    · rw [far j e]; exact h.opens j u (by omega) hu hwu hn
theorem AtI.push {T : List Tok} {i : Nat} {os at_ : List Nat} {t : Tok} (h : AtI T i os at_) (ht : T[i]? = some t) (hw : wt t = -1) : AtI T (i + 1) (i :: os) (at_.set i i) := by
  have far : ∀ j, j ≠ i → (at_.set i i)[j]? = at_[j]? := fun j hj => List.getElem?_set_ne (Ne.symm hj)
  refine ⟨by rw [List.length_set]; exact h.len, fun j u hj hu hwu => ?_, fun j u hj hu hwu => ?_, fun j u hj hu hwu hn => ?_, h.stk.push ht hw⟩
  · by_cases e : j = i
    · subst e; rw [ht] at hu; injection hu with hu; subst hu; omega
    · rw [far j e]; exact h.no j u (by omega) hu hwu
  · by_cases e : j = i
    · subst e; rw [ht] at hu; injection hu with hu; subst hu; omega
    · rw [far j e]; exact h.close j u (by omega) hu hwu
  · by_cases e : j = i
    · subst e; simp at hn
    · rw [far j e]; exact h.opens j u (by omega) hu hwu (fun hm => hn (by simp [hm]))
theorem AtI.pop {T : List Tok} {i o : Nat} {os at_ : List Nat} {t u : Tok} (h : AtI T i (o :: os) at_) (ht : T[i]? = some t) (hw : wt t = 1) (hu : T[o]? = some u) (hb : brk u = brk t) : AtI T (i + 1) os (((at_.set i i).set i o).set o i) := by
  have hi := (List.getElem?_eq_some_iff.1 ht).1
  obtain ⟨h1, ⟨u', hu', hwu⟩, h3, h4⟩ := id h.stk
  rw [hu] at hu'; injection hu' with hu'; subst hu'
  have far : ∀ j, j ≠ i → j ≠ o → (((at_.set i i).set i o).set o i)[j]? = at_[j]? := fun j hj hk => by
    rw [List.getElem?_set_ne (Ne.symm hk), List.getElem?_set_ne (Ne.symm hj), List.getElem?_set_ne (Ne.symm hj)]
  have ati : (((at_.set i i).set i o).set o i)[i]? = some o := by
    rw [List.getElem?_set_ne (by omega), List.getElem?_set_self (by rw [List.length_set, h.len]; exact hi)]
  have ato : (((at_.set i i).set i o).set o i)[o]? = some i := by
    rw [List.getElem?_set_self (by rw [List.length_set, List.length_set, h.len]; omega)]
  refine ⟨by rw [List.length_set, List.length_set, List.length_set]; exact h.len, fun j v hj hv hwv => ?_, fun j v hj hv hwv => ?_, fun j v hj hv hwv hn => ?_, h.stk.pop ht hw⟩
  · by_cases e : j = i
    · subst e; rw [ht] at hv; injection hv with hv; subst hv; omega
    · by_cases e2 : j = o
      · subst e2; rw [hu] at hv; injection hv with hv; subst hv; omega
      · rw [far j e e2]; exact h.no j v (by omega) hv hwv
  · by_cases e : j = i
    · subst e
      rw [ht] at hv; injection hv with hv; subst hv
      exact ⟨o, u, ati, h1, hu, hwu, hb, h3⟩
    · by_cases e2 : j = o
      · subst e2; rw [hu] at hv; injection hv with hv; subst hv; omega
      · rw [far j e e2]; exact h.close j v (by omega) hv hwv
  · by_cases e : j = i
    · subst e; rw [ht] at hv; injection hv with hv; subst hv; omega
    · by_cases e2 : j = o
      · subst e2
        rw [hu] at hv; injection hv with hv; subst hv
        exact ⟨i, t, ato, h1, ht, hw, hb.symm, h3⟩
      · rw [far j e e2]; exact h.opens j v (by omega) hv hwv (by simp [e2, hn])
theorem AtI.done {T : List Tok} {at_ : List Nat} (h : AtI T T.length [] at_) : AtOK T at_ ∧ Dyck T :=
  ⟨⟨h.len, (fun i t ht => h.no i t (List.getElem?_eq_some_iff.1 ht).1 ht), (fun i t ht => h.close i t (List.getElem?_eq_some_iff.1 ht).1 ht), (fun i t ht hw => h.opens i t (List.getElem?_eq_some_iff.1 ht).1 ht hw (by simp))⟩,
    by have := h.stk; rw [show Stk T T.length [] = Dyck (sg T 0 T.length) from rfl, sg_all] at this; exact this⟩
/-- The same brackets' kinds, as the reader's own law has them. -/
def kinds (T : List Tok) (os : List Nat) : List Int := os.map fun o => (T[o]?.map brk).getD (-1)
theorem take_snoc {T : List Tok} {i : Nat} {t : Tok} (h : T[i]? = some t) : T.take (i + 1) = T.take i ++ [t] := by rw [List.take_add_one, h]; rfl
theorem match_none {T : List Tok} {i d : Nat} {os : List Nat} {t : Tok} (h : matchF [] 0 (T.take i) = some (kinds T os, d)) (ht : T[i]? = some t) (hw : wt t = 0) : matchF [] 0 (T.take (i + 1)) = some (kinds T os, d) := by
  rw [take_snoc ht, matchF_append, h]
  show matchF (kinds T os) d [t] = _
  rw [matchF, if_pos (brk_of_wt hw)]; rfl
theorem wt_open {t : Tok} (h : wt t = -1) : 0 ≤ brk t ∧ isOpen t = true := by
  rw [brk_wt] at h
  split at h
  · rename_i hb
    split at h
    · rename_i ho; exact ⟨hb, ho⟩
    · omega
  · omega
theorem wt_shut {t : Tok} (h : wt t = 1) : 0 ≤ brk t ∧ isOpen t = false := by
  rw [brk_wt] at h
  split at h
  · rename_i hb
    split at h
    · omega
    · rename_i ho; exact ⟨hb, by simpa using ho⟩
  · omega
theorem match_push {T : List Tok} {i d : Nat} {os : List Nat} {t : Tok} (h : matchF [] 0 (T.take i) = some (kinds T os, d)) (ht : T[i]? = some t) (hw : wt t = -1) : matchF [] 0 (T.take (i + 1)) = some (kinds T (i :: os), max d (os.length + 1)) := by
  obtain ⟨h1, h2⟩ := wt_open hw
  rw [take_snoc ht, matchF_append, h]
  show matchF (kinds T os) d [t] = _
  rw [matchF, if_neg (by omega), if_pos h2]
  show some (brk t :: kinds T os, max d ((kinds T os).length + 1)) = _
  have : (kinds T os).length = os.length := by unfold kinds; rw [List.length_map]
  rw [this]
  unfold kinds
  rw [List.map_cons, ht]; rfl
theorem match_pop {T : List Tok} {i o d : Nat} {os : List Nat} {t u : Tok} (h : matchF [] 0 (T.take i) = some (kinds T (o :: os), d)) (ht : T[i]? = some t) (hw : wt t = 1) (hu : T[o]? = some u) (hb : brk u = brk t) : matchF [] 0 (T.take (i + 1)) = some (kinds T os, d) := by
  obtain ⟨h1, h2⟩ := wt_shut hw
  have hk : kinds T (o :: os) = brk t :: kinds T os := by unfold kinds; rw [List.map_cons, hu, Option.map_some, Option.getD_some, hb]
  rw [take_snoc ht, matchF_append, h]
  show matchF (kinds T (o :: os)) d [t] = _
  rw [hk, matchF, if_neg (by omega), if_neg (by rw [h2]; simp), if_pos (show (brk t :: kinds T os).head? = some (brk t) from rfl)]; rfl
theorem match_rest {T : List Tok} {i : Nat} (h : matchF [] 0 (T.take i) = none) : matchedF T = (0, false) := by
  unfold matchedF
  rw [← List.take_append_drop i T, matchF_append, h]; rfl
theorem match_bad {T : List Tok} {i d : Nat} {os : List Nat} {t : Tok} (h : matchF [] 0 (T.take i) = some (kinds T os, d)) (ht : T[i]? = some t) (hw : wt t = 1) (hne : (kinds T os).head? ≠ some (brk t)) : matchedF T = (0, false) := by
  obtain ⟨h1, h2⟩ := wt_shut hw
  refine match_rest (i := i + 1) ?_
  rw [take_snoc ht, matchF_append, h]
  show matchF (kinds T os) d [t] = _
  rw [matchF, if_neg (by omega), if_neg (by rw [h2]; simp), if_neg hne]
theorem match_end {T : List Tok} {d : Nat} {os : List Nat} (h : matchF [] 0 (T.take T.length) = some (kinds T os, d)) : matchedF T = ((d : Int), decide (os.length = 0)) := by
  rw [List.take_length] at h
  unfold matchedF
  rw [h]
  cases os <;> rfl
end Go.Proofs.YthlingdlehdlhaaGreatDoor.Par

namespace Go.Proofs.YthlingdlehdlhaaGreatDoor.Par
open Go.RowKit Go.Shelf
set_option linter.unusedVariables false
set_option linter.unusedSimpArgs false

theorem sg_inside {T : List Tok} {a b o : Nat} (h : a ≤ o ∧ openedF (sg T a b) = o - a) (hab : a < b) (hb : b ≤ T.length) : (sg T a b).dropLast.drop (openedF (sg T a b) + 1) = sg T (o + 1) (b - 1) := by
  rw [h.2, sg_init hab hb, sg_drop]
  have := h.1
  congr 1; omega
theorem sg_ahead {T : List Tok} {a b o : Nat} (h : a ≤ o ∧ openedF (sg T a b) = o - a) (ho : o ≤ b) : (sg T a b).take (openedF (sg T a b)) = sg T a o := by
  have := h.1
  rw [h.2, sg_take _ (by omega)]
  congr 1; omega
/-- What closes at the end of a part: where it opens, and what is inside and ahead. -/
theorem shut_sg {T : List Tok} {at_ : List Nat} (hA : AtOK T at_) {a b : Nat} (hd : Dyck (sg T a b)) (hab : a < b) (hb : b ≤ T.length) {t : Tok} (ht : T[b - 1]? = some t) (hw : wt t = 1) :
    ∃ o, at_[b - 1]? = some o ∧ a ≤ o ∧ o < b - 1 ∧ Dyck (sg T a o) ∧ Dyck (sg T (o + 1) (b - 1)) ∧ (sg T a b).dropLast.drop (openedF (sg T a b) + 1) = sg T (o + 1) (b - 1) ∧ (sg T a b).take (openedF (sg T a b)) = sg T a o := by
  obtain ⟨o, u, h1, h2, h3, h4, h5, h6⟩ := hA.close _ _ ht hw
  have ho := opened_sg hd hab hb ht hw h2 h3 h4 h6
  have e1 := sg_inside ho hab hb
  have e2 := sg_ahead ho (show o ≤ b by omega)
  have hl : (sg T a b).getLast? = some t := by rw [sg_last hab hb, ht]
  have hp := (Pre.closed hd hl hw).1
  rw [e2] at hp
  exact ⟨o, h1, ho.1, h2, hp, h6, e1, e2⟩
/-- A part without its last token. -/
theorem init_sg {T : List Tok} {a b : Nat} (hd : Dyck (sg T a b)) (hab : a < b) (hb : b ≤ T.length) {t : Tok} (ht : T[b - 1]? = some t) (hw : wt t = 0) : Dyck (sg T a (b - 1)) := by
  have hl : (sg T a b).getLast? = some t := by rw [sg_last hab hb, ht]
  have := hd.init hl hw
  rwa [sg_init hab hb] at this
theorem last_sg {T : List Tok} {a b : Nat} (hab : a < b) (hb : b ≤ T.length) {t : Tok} (ht : T[b - 1]? = some t) : (sg T a b).getLast? = some t := by rw [sg_last hab hb, ht]
theorem last_nil (T : List Tok) (a : Nat) : (sg T a a).getLast? = none := by rw [sg_nil]; rfl
section
variable (F : List (List UInt8)) {T : List Tok} {a b : Nat} {t : Tok} (n : Nat) (ins : Bool)
theorem ro_none (h : b ≤ a) : operandF F n ins (sg T a b) = none := by
  have : sg T a b = [] := List.drop_eq_nil_of_le (by rw [List.length_take]; omega)
  rw [this]
  cases n with
  | zero => rw [operandF]
  | succ n => rw [operandF]; rfl
/-- An operand, by what stands at its end. -/
theorem ro_value (hab : a < b) (hb : b ≤ T.length) (ht : T[b - 1]? = some t) (hk : t.kind = 1) : operandF F (n + 1) ins (sg T a b) = some (⟨1, [], t.val, noFn, .nil⟩, sg T a (b - 1)) := by
  rw [operandF, last_sg hab hb ht]
  simp only
  rw [if_pos hk, sg_init hab hb]
theorem ro_name (hab : a < b) (hb : b ≤ T.length) (ht : T[b - 1]? = some t) (hk : t.kind = 2) (hf : isFun F t = false) : operandF F (n + 1) ins (sg T a b) = some (⟨2, t.txt, noArr, noFn, .nil⟩, sg T a (b - 1)) := by
  rw [operandF, last_sg hab hb ht]
  simp only
  rw [if_neg (by omega), if_pos hk, if_neg (by rw [hf]; simp), sg_init hab hb]
theorem ro_no (hab : a < b) (hb : b ≤ T.length) (ht : T[b - 1]? = some t) (he : endsT F t = false) : operandF F (n + 1) ins (sg T a b) = none := by
  unfold endsT at he
  simp only [Bool.or_eq_false_iff, decide_eq_false_iff_not, Bool.and_eq_false_iff, Bool.not_eq_false'] at he
  obtain ⟨⟨⟨⟨⟨h1, h2⟩, h3⟩, h4⟩, h5⟩, h6⟩ := he
  rw [operandF, last_sg hab hb ht]
  simp only
  by_cases h : t.kind = 2
  · rw [if_neg h1, if_pos h, if_pos (h2.resolve_left (fun hn => hn h))]
  · rw [if_neg h1, if_neg h, if_neg (by rw [h3]; simp), if_neg (by rw [h4]; simp), if_neg (by rw [h5]; simp), if_neg (by rw [h6]; simp)]
theorem gl_kind3 {s : List UInt8} (h : isG t s = true) : ¬ t.kind = 1 ∧ ¬ t.kind = 2 := by have := (isG_eq h).1; omega
theorem gl_other {s g : List UInt8} (h : isG t s = true) (hne : s ≠ g) : isG t g = false := by
  obtain ⟨h1, h2⟩ := isG_eq h
  unfold isG; rw [h1, h2]; simp [hne]
theorem ro_paren (hab : a < b) (hb : b ≤ T.length) (ht : T[b - 1]? = some t) (hg : isG t gRP = true) {o : Nat} (e1 : (sg T a b).dropLast.drop (openedF (sg T a b) + 1) = sg T (o + 1) (b - 1)) (e2 : (sg T a b).take (openedF (sg T a b)) = sg T a o) :
    operandF F (n + 1) ins (sg T a b) = match exprF F n ins (sg T (o + 1) (b - 1)) with | none => none | some x => some (x, sg T a o) := by
  obtain ⟨k1, k2⟩ := gl_kind3 hg
  rw [operandF, last_sg hab hb ht]
  simp only
  rw [if_neg k1, if_neg k2, if_pos hg, e1, e2]
  cases exprF F n ins (sg T (o + 1) (b - 1)) <;> rfl
theorem ro_brack (hab : a < b) (hb : b ≤ T.length) (ht : T[b - 1]? = some t) (hg : isG t gRB = true) {o : Nat} (e1 : (sg T a b).dropLast.drop (openedF (sg T a b) + 1) = sg T (o + 1) (b - 1)) (e2 : (sg T a b).take (openedF (sg T a b)) = sg T a o) :
    operandF F (n + 1) ins (sg T a b) = match operandF F n ins (sg T a o) with | none => none | some (x, r) => match axesF F n ins (partsF (sg T (o + 1) (b - 1)) gSemi) with | none => none | some k => some (⟨7, [], noArr, noFn, x.cons k⟩, r) := by
  obtain ⟨k1, k2⟩ := gl_kind3 hg
  rw [operandF, last_sg hab hb ht]
  simp only
  rw [if_neg k1, if_neg k2, if_neg (by rw [gl_other hg (by decide)]; simp), if_pos hg, e1, e2]
  cases operandF F n ins (sg T a o) with
  | none => rfl
  | some p =>
    obtain ⟨x, r⟩ := p
    simp only
    cases axesF F n ins (partsF (sg T (o + 1) (b - 1)) gSemi) <;> rfl
theorem ro_alpha (hab : a < b) (hb : b ≤ T.length) (ht : T[b - 1]? = some t) (hg : isG t gAlpha = true) : operandF F (n + 1) ins (sg T a b) = if ins = true then some (⟨3, [], noArr, noFn, .nil⟩, sg T a (b - 1)) else none := by
  obtain ⟨k1, k2⟩ := gl_kind3 hg
  rw [operandF, last_sg hab hb ht]
  simp only
  rw [if_neg k1, if_neg k2, if_neg (by rw [gl_other hg (by decide)]; simp), if_neg (by rw [gl_other hg (by decide)]; simp), sg_init hab hb]
  by_cases h : ins = true
  · rw [if_pos ⟨h, hg⟩, if_pos h]
  · rw [if_neg (fun c => h c.1), if_neg (fun c => h c.1), if_neg h]
theorem ro_omega (hab : a < b) (hb : b ≤ T.length) (ht : T[b - 1]? = some t) (hg : isG t gOmega = true) : operandF F (n + 1) ins (sg T a b) = if ins = true then some (⟨4, [], noArr, noFn, .nil⟩, sg T a (b - 1)) else none := by
  obtain ⟨k1, k2⟩ := gl_kind3 hg
  rw [operandF, last_sg hab hb ht]
  simp only
  rw [if_neg k1, if_neg k2, if_neg (by rw [gl_other hg (by decide)]; simp), if_neg (by rw [gl_other hg (by decide)]; simp), if_neg (by rw [gl_other hg (s := gOmega) (by decide)]; simp), sg_init hab hb]
  by_cases h : ins = true
  · rw [if_pos ⟨h, hg⟩, if_pos h]
  · rw [if_neg (fun c => h c.1), if_neg h]
/-- A function, by what stands at its end. -/
theorem rf_name (hab : a < b) (hb : b ≤ T.length) (ht : T[b - 1]? = some t) (hf : isFun F t = true) : functionF F (n + 1) ins (sg T a b) = some (⟨6, 0, 0, t.txt, .nil⟩, sg T a (b - 1)) := by
  rw [functionF, last_sg hab hb ht]
  simp only
  rw [if_pos hf, sg_init hab hb]
theorem fun_no {s : List UInt8} (hg : isG t s = true) : isFun F t = false := by
  have := (isG_eq hg).1
  unfold isFun; simp [this]
theorem fnF_pos {s : List UInt8} (h : isG t s = true) (h0 : fnF s = 0) : ¬ (t.kind = 3 ∧ 0 < fnF t.txt) := by
  rw [(isG_eq h).2, h0]; omega
theorem bin0 {s : List UInt8} (h : isG t s = true) (h0 : bin12 (namedF s) = false) : binT t = 0 := by
  unfold binT
  rw [(isG_eq h).2, if_neg (fun c => by rw [h0] at c; exact absurd c.2 (by simp))]
theorem rf_self (hab : a < b) (hb : b ≤ T.length) (ht : T[b - 1]? = some t) (hg : isG t gDel = true) : functionF F (n + 1) ins (sg T a b) = if ins = true then some (⟨8, 0, 0, [], .nil⟩, sg T a (b - 1)) else none := by
  rw [functionF, last_sg hab hb ht]
  simp only
  rw [if_neg (by rw [fun_no F hg]; simp)]
  by_cases h : ins = true
  · rw [if_pos ⟨hg, h⟩, if_pos h, sg_init hab hb]
  · rw [if_neg (fun c => h c.2), if_neg (by rw [gl_other hg (by decide)]; simp), if_neg h]
    have hn := fnF_pos hg (by decide)
    have h1 : isG t gSlash = false := gl_other hg (by decide)
    have h2 : isG t gBack = false := gl_other hg (by decide)
    have h3 : binT t = 0 := bin0 hg (by decide)
    split
    · rw [if_neg hn]
    · rw [if_neg (by rw [h1]; simp), if_neg (by rw [h2]; simp)]
      split
      · rw [if_neg hn]
      · rw [if_neg (by rw [h3]; omega), if_neg (by rw [h3]; omega), if_neg hn]
theorem rf_brace (hab : a < b) (hb : b ≤ T.length) (ht : T[b - 1]? = some t) (hg : isG t gRC = true) {o : Nat} (e1 : (sg T a b).dropLast.drop (openedF (sg T a b) + 1) = sg T (o + 1) (b - 1)) (e2 : (sg T a b).take (openedF (sg T a b)) = sg T a o) :
    functionF F (n + 1) ins (sg T a b) = match linesF F n (sg T (o + 1) (b - 1)) with | none => none | some l => some (⟨7, 0, 0, [], l⟩, sg T a o) := by
  rw [functionF, last_sg hab hb ht]
  simp only
  rw [if_neg (by rw [fun_no F hg]; simp), if_neg (fun c => by rw [gl_other hg (by decide)] at c; exact absurd c.1 (by simp)), if_pos hg, e1, e2]
  cases linesF F n (sg T (o + 1) (b - 1)) <;> rfl
end
/-- The rest of a function's law: two tokens, three, or one glyph. -/
theorem rf_rest (F : List (List UInt8)) {T : List Tok} {a b : Nat} {t : Tok} (n : Nat) (ins : Bool) (hab : a < b) (hb : b ≤ T.length) (ht : T[b - 1]? = some t) (hf : isFun F t = false) (hd : isG t gDel = false) (hc : isG t gRC = false) :
    functionF F (n + 1) ins (sg T a b) =
      if a + 1 < b ∧ 0 < binT ((T[b - 2]?).getD ⟨0, [], noArr⟩) ∧ (isG t gSlash = true ∨ isG t gBack = true) then some (⟨if isG t gSlash = true then 2 else 3, binT ((T[b - 2]?).getD ⟨0, [], noArr⟩), 0, [], .nil⟩, sg T a (b - 2))
      else if a + 2 < b ∧ 0 < binT t ∧ isG ((T[b - 2]?).getD ⟨0, [], noArr⟩) gDot = true ∧ isG ((T[b - 3]?).getD ⟨0, [], noArr⟩) gJot = true then some (⟨4, binT t, 0, [], .nil⟩, sg T a (b - 3))
      else if a + 2 < b ∧ 0 < binT t ∧ isG ((T[b - 2]?).getD ⟨0, [], noArr⟩) gDot = true ∧ 0 < binT ((T[b - 3]?).getD ⟨0, [], noArr⟩) then some (⟨5, binT ((T[b - 3]?).getD ⟨0, [], noArr⟩), binT t, [], .nil⟩, sg T a (b - 3))
      else if t.kind = 3 ∧ 0 < fnF t.txt then some (⟨1, fnF t.txt, 0, [], .nil⟩, sg T a (b - 1)) else none := by
  rw [functionF, last_sg hab hb ht]
  simp only
  rw [if_neg (by rw [hf]; simp), if_neg (by rw [hd]; simp), if_neg (by rw [hc]; simp), sg_init hab hb]
  by_cases h2 : a + 1 < b
  · obtain ⟨u, hu⟩ : ∃ u, T[b - 2]? = some u := ⟨_, List.getElem?_eq_getElem (by omega)⟩
    have hl : (sg T a (b - 1)).getLast? = some u := last_sg (by omega) (by omega) (by rw [show b - 1 - 1 = b - 2 by omega]; exact hu)
    have hi : (sg T a (b - 1)).dropLast = sg T a (b - 2) := by rw [sg_init (by omega) (by omega)]; rfl
    rw [hl, hu, Option.getD_some]
    simp only
    rw [hi]
    by_cases hc1 : isG t gSlash = true ∧ 0 < binT u
    · rw [if_pos hc1, if_pos (show a + 1 < b ∧ 0 < binT u ∧ (isG t gSlash = true ∨ isG t gBack = true) from ⟨h2, hc1.2, .inl hc1.1⟩), if_pos hc1.1]
    · by_cases hc2 : isG t gBack = true ∧ 0 < binT u
      · rw [if_neg hc1, if_pos hc2, if_pos (show a + 1 < b ∧ 0 < binT u ∧ (isG t gSlash = true ∨ isG t gBack = true) from ⟨h2, hc2.2, .inr hc2.1⟩), if_neg (fun h => hc1 ⟨h, hc2.2⟩)]
      · rw [if_neg hc1, if_neg hc2, if_neg (show ¬ (a + 1 < b ∧ 0 < binT u ∧ (isG t gSlash = true ∨ isG t gBack = true)) from fun c => c.2.2.elim (fun h => hc1 ⟨h, c.2.1⟩) (fun h => hc2 ⟨h, c.2.1⟩))]
        by_cases h3 : a + 2 < b
        · obtain ⟨v, hv⟩ : ∃ v, T[b - 3]? = some v := ⟨_, List.getElem?_eq_getElem (by omega)⟩
          have hl3 : (sg T a (b - 2)).getLast? = some v := last_sg (by omega) (by omega) (by rw [show b - 2 - 1 = b - 3 by omega]; exact hv)
          have hi3 : (sg T a (b - 2)).dropLast = sg T a (b - 3) := by rw [sg_init (by omega) (by omega)]; rfl
          rw [hl3, hv, Option.getD_some]
          simp only
          rw [hi3]
          by_cases hj : isG u gDot = true ∧ 0 < binT t ∧ isG v gJot = true
          · rw [if_pos hj, if_pos (show a + 2 < b ∧ 0 < binT t ∧ isG u gDot = true ∧ isG v gJot = true from ⟨h3, hj.2.1, hj.1, hj.2.2⟩)]
          · rw [if_neg hj, if_neg (show ¬ (a + 2 < b ∧ 0 < binT t ∧ isG u gDot = true ∧ isG v gJot = true) from fun c => hj ⟨c.2.2.1, c.2.1, c.2.2.2⟩)]
            by_cases hk : isG u gDot = true ∧ 0 < binT t ∧ 0 < binT v
            · rw [if_pos hk, if_pos (show a + 2 < b ∧ 0 < binT t ∧ isG u gDot = true ∧ 0 < binT v from ⟨h3, hk.2.1, hk.1, hk.2.2⟩)]
            · rw [if_neg hk, if_neg (show ¬ (a + 2 < b ∧ 0 < binT t ∧ isG u gDot = true ∧ 0 < binT v) from fun c => hk ⟨c.2.2.1, c.2.1, c.2.2.2⟩)]
        · have hnil : (sg T a (b - 2)).getLast? = none := by
            have : a = b - 2 := by omega
            rw [this]; exact last_nil _ _
          rw [hnil]
          simp only
          rw [if_neg (show ¬ (a + 2 < b ∧ _) from fun c => h3 c.1), if_neg (show ¬ (a + 2 < b ∧ _) from fun c => h3 c.1)]
  · have hnil : (sg T a (b - 1)).getLast? = none := by
      have : a = b - 1 := by omega
      rw [this]; exact last_nil _ _
    rw [hnil]
    simp only
    have h3 : ¬ a + 2 < b := by omega
    rw [if_neg (show ¬ (a + 1 < b ∧ _) from fun c => h2 c.1), if_neg (show ¬ (a + 2 < b ∧ _) from fun c => h3 c.1), if_neg (show ¬ (a + 2 < b ∧ _) from fun c => h3 c.1)]
theorem good_isG {t : Tok} {g : List UInt8} (h : Good t) (hg : isG t g = true) : t = ⟨3, g, noArr⟩ := by
  obtain ⟨h1, h2⟩ := isG_eq hg
  rcases h with ⟨k, -⟩ | ⟨k, -⟩ | ⟨k, -, hv⟩
  · omega
  · omega
  · cases t; simp only at h1 h2 hv; subst h1 h2 hv; rfl
theorem good_name {t : Tok} (h : Good t) (hk : t.kind = 2) : t.txt ≠ [] := by
  rcases h with ⟨k, -⟩ | ⟨k, hn, -⟩ | ⟨k, -⟩
  · omega
  · obtain ⟨⟨c, r, e, -⟩, -⟩ := namB_parts hn
    rw [e]; simp
  · omega
/-- A name and an arrow, by places. -/
theorem set_sg {T : List Tok} {a b : Nat} (hb : b ≤ T.length) (hg : ∀ t ∈ T, Good t) : setF (sg T a b) = if a + 1 < b ∧ ((T[a]?).getD ⟨0, [], noArr⟩).kind = 2 ∧ isG ((T[a + 1]?).getD ⟨0, [], noArr⟩) gGets = true then some (((T[a]?).getD ⟨0, [], noArr⟩).txt, sg T (a + 2) b) else none := by
  by_cases h : a + 1 < b
  · obtain ⟨t, ht⟩ : ∃ t, T[a]? = some t := ⟨_, List.getElem?_eq_getElem (by omega)⟩
    obtain ⟨u, hu⟩ : ∃ u, T[a + 1]? = some u := ⟨_, List.getElem?_eq_getElem (by omega)⟩
    rw [sg_cons ht (by omega), sg_cons hu h, ht, hu, Option.getD_some, Option.getD_some]
    unfold setF
    simp only
    by_cases hc : t.kind = 2 ∧ isG u gGets = true
    · rw [if_pos ⟨hc.1, good_name (hg t (List.mem_of_getElem? ht)) hc.1, hc.2⟩, if_pos ⟨h, hc.1, hc.2⟩]
    · rw [if_neg (fun c => hc ⟨c.1, c.2.2⟩), if_neg (fun c => hc c.2)]
  · rw [if_neg (fun c => h c.1)]
    have hl := sg_len (T := T) (a := a) hb
    generalize sg T a b = l at *
    match l, hl with
    | [], _ => rfl
    | [_], _ => rfl
    | _ :: _ :: _, hl => simp only [List.length_cons] at hl; omega
end Go.Proofs.YthlingdlehdlhaaGreatDoor.Par
