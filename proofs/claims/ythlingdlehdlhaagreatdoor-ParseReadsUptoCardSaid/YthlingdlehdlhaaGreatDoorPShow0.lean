/- parse: trees' texts. Plain. -/
import Derived.Test.YthlingdlehdlhaaGreatDoorPClosed0
import Derived.Test.YthlingdlehdlhaaGreatDoorPD
namespace Go.Proofs.YthlingdlehdlhaaGreatDoor.Par
open Go.RowKit Go.Shelf
set_option linter.unusedVariables false
set_option linter.unusedSimpArgs false

def gl (s : List UInt8) : Tok := ⟨3, s, noArr⟩
def nm (s : List UInt8) : Tok := ⟨2, s, noArr⟩
def vl (a : Arr) : Tok := ⟨1, [], a⟩
def glyph12F (f : Int) : List UInt8 := if 1 ≤ f ∧ f ≤ 17 then (glyph12[(f - 1).toNat]?).getD [] else []
def joinG (g : List UInt8) : List (List Tok) → List Tok
  | [] => []
  | [a] => a
  | a :: b :: r => a ++ gl g :: joinG g (b :: r)

/-- Brackets match, whatever is open. -/
def Bal (t : List Tok) : Prop := ∀ st d, ∃ d', matchF st d t = some (st, d')
theorem Bal.nil : Bal [] := fun st d => ⟨d, rfl⟩
theorem Bal.app {a b : List Tok} (ha : Bal a) (hb : Bal b) : Bal (a ++ b) := fun st d => by
  obtain ⟨d1, h1⟩ := ha st d
  obtain ⟨d2, h2⟩ := hb st d1
  exact ⟨d2, by rw [matchF_append, h1]; exact h2⟩
theorem brk_of_wt {t : Tok} (h : wt t = 0) : brk t < 0 := by
  rw [brk_wt] at h
  split at h
  · split at h <;> omega
  · omega
theorem Bal.one {t : Tok} (h : wt t = 0) : Bal [t] := fun st d => ⟨d, by rw [matchF, if_pos (brk_of_wt h)]; rfl⟩
theorem Bal.cons {t : Tok} {l : List Tok} (h : wt t = 0) (hl : Bal l) : Bal (t :: l) := Bal.app (Bal.one h) hl
theorem Bal.encl {a b : Tok} {l : List Tok} (h1 : brk a = brk b) (h2 : 0 ≤ brk a) (h3 : isOpen a = true) (h4 : isOpen b = false) (hl : Bal l) : Bal (encl a b l) := fun st d => by
  obtain ⟨d1, e1⟩ := hl (brk a :: st) (max d (st.length + 1))
  refine ⟨d1, ?_⟩
  unfold Par.encl
  rw [List.cons_append, matchF, if_neg (by omega), if_pos h3, matchF_append, e1]
  simp only [Option.bind_some]
  rw [matchF, if_neg (by omega), if_neg (by rw [h4]; simp), if_pos (by rw [h1]; rfl)]
  rfl

/-- No such glyph stands free. -/
def NoF (s : List UInt8) (t : List Tok) : Prop := ∀ j u, t[j]? = some u → S (t.drop j) = 0 → isG u s = false
theorem NoF.nil (s : List UInt8) : NoF s [] := fun j u h => by simp at h
theorem NoF.app {s : List UInt8} {a b : List Tok} (ha : NoF s a) (hb : NoF s b) (hd : S b = 0) : NoF s (a ++ b) := fun j u h hz => by
  rcases Nat.lt_or_ge j a.length with hj | hj
  · rw [List.getElem?_append_left hj] at h
    rw [List.drop_append_of_le_length (by omega), S_append, hd] at hz
    exact ha j u h (by omega)
  · obtain ⟨i, rfl⟩ : ∃ i, j = a.length + i := ⟨j - a.length, by omega⟩
    rw [List.getElem?_append_right (by omega), Nat.add_sub_cancel_left] at h
    rw [drop_app] at hz
    exact hb i u h hz
theorem NoF.one {s : List UInt8} {t : Tok} (h : isG t s = false) : NoF s [t] := fun j u hu _ => by
  cases j with
  | zero => simp at hu; subst hu; exact h
  | succ j => simp at hu
theorem NoF.encl {s : List UInt8} {a b : Tok} {l : List Tok} (h : isG a s = false) (hb : wt b = 1) (hl : Dyck l) : NoF s (encl a b l) := fun j u hu hz => by
  cases j with
  | zero => rw [show (Par.encl a b l)[0]? = some a from rfl] at hu; injection hu with hu; subst hu; exact h
  | succ j =>
    have hlt := (List.getElem?_eq_some_iff.1 hu).1
    rw [encl_len] at hlt
    rw [encl_S hb l j (by omega)] at hz
    have := hl.2 j; omega
theorem Bal.join {g : List UInt8} (hg : wt (gl g) = 0) : ∀ ts : List (List Tok), (∀ t ∈ ts, Bal t) → Bal (joinG g ts) := by
  intro ts
  induction ts with
  | nil => intro _; exact Bal.nil
  | cons a r ih =>
    intro h
    cases r with
    | nil => exact h a (by simp)
    | cons b r => exact (h a (by simp)).app (.cons hg (ih fun t ht => h t (by simp only [List.mem_cons] at ht ⊢; exact .inr ht)))

/-- A text without a separator that stands free is passed at once. -/
theorem parts_text (s : List UInt8) {t : List Tok} (hn : NoF s t) (hd : Dyck t) (cur : List Tok) (acc : List (List Tok)) (R : List Tok) : partsR s 0 cur acc (t.reverse ++ R) = partsR s 0 (t ++ cur) acc R := by
  have key : ∀ k, k ≤ t.length → partsR s 0 cur acc (t.reverse ++ R) = partsR s (S (t.drop (t.length - k))) (t.drop (t.length - k) ++ cur) acc ((t.take (t.length - k)).reverse ++ R) := by
    intro k
    induction k with
    | zero => intro _; rw [Nat.sub_zero, List.drop_length, List.take_length]; rfl
    | succ k ih =>
      intro hk
      rw [ih (by omega)]
      obtain ⟨m, hm⟩ : ∃ m, t.length - k = m + 1 := ⟨t.length - k - 1, by omega⟩
      have hm2 : t.length - (k + 1) = m := by omega
      obtain ⟨u, hu⟩ : ∃ u, t[m]? = some u := ⟨_, List.getElem?_eq_getElem (by omega)⟩
      have hS := S_drop_get t m u hu
      have hrev : (t.take (m + 1)).reverse = u :: (t.take m).reverse := by rw [take_one _ _ _ hu, List.reverse_append]; rfl
      have hdr : t.drop m = u :: t.drop (m + 1) := by
        obtain ⟨hl, e⟩ := List.getElem?_eq_some_iff.1 hu
        rw [List.drop_eq_getElem_cons hl, e]
      rw [hm, hm2, hrev, List.cons_append, partsR, Int.add_comm, ← hS, if_neg, hdr]
      · rfl
      · rintro ⟨h1, h2⟩
        rw [hn m u hu h1] at h2; cases h2
  have := key t.length (Nat.le_refl _)
  rw [Nat.sub_self, List.drop_zero, List.take_zero, hd.1] at this
  exact this
theorem parts_join (g : List UInt8) (hg : wt (gl g) = 0) : ∀ (ts : List (List Tok)), (∀ t ∈ ts, NoF g t ∧ Dyck t) → ∀ a r, ts = a :: r → ∀ acc R, partsR g 0 [] acc ((joinG g ts).reverse ++ R) = partsR g 0 a (r ++ acc) R := by
  intro ts
  induction ts with
  | nil => intro _ a r e; cases e
  | cons a r ih =>
    intro h a' r' e acc R
    injection e with e1 e2; subst e1 e2
    obtain ⟨h1, h2⟩ := h a (by simp)
    cases r with
    | nil =>
      rw [show joinG g [a] = a from rfl, parts_text g h1 h2, List.append_nil]; rfl
    | cons b r =>
      have hi := ih (fun t ht => h t (by simp only [List.mem_cons] at ht ⊢; exact .inr ht)) b r rfl
      rw [show joinG g (a :: b :: r) = a ++ gl g :: joinG g (b :: r) from rfl, List.reverse_append, List.reverse_cons, List.append_assoc, List.append_assoc, hi, List.singleton_append, partsR, hg]
      have hgg : isG (gl g) g = true := by unfold isG gl; simp
      rw [if_pos ⟨rfl, hgg⟩, show (0 : Int) + 0 = 0 from rfl, parts_text g h1 h2, List.append_nil]; rfl
theorem parts_joined (g : List UInt8) (hg : wt (gl g) = 0) (ts : List (List Tok)) (hne : ts ≠ []) (h : ∀ t ∈ ts, NoF g t ∧ Dyck t) : partsF (joinG g ts) g = ts := by
  obtain ⟨a, r, rfl⟩ := List.exists_cons_of_ne_nil hne
  have := parts_join g hg (a :: r) h a r rfl [] []
  rw [List.append_nil, List.append_nil] at this
  unfold partsF
  rw [this, partsR]
end Go.Proofs.YthlingdlehdlhaaGreatDoor.Par
