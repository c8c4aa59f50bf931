/- A region that draws its order and only makes memory: a table of what is so of each operation's value.
   The reference's reader: the brackets that match (pairs). -/
import Derived.Test.YthlingdlehdlhaaGreatDoorPInv2
import Derived.Test.YthlingdlehdlhaaGreatDoorRLeaf
import Derived.Deep.Cut
namespace Go.Proofs.YthlingdlehdlhaaGreatDoor.Par
open Go.RowKit Go.Shelf
set_option linter.unusedVariables false
set_option linter.unusedSimpArgs false

/-- What is so of a value in a world. -/
def VP := Value → World → Prop
def Steady (f : VP) : Prop := ∀ v w w', f v w → Below w.heap.size w w' → f v w'
/-- Where a region stands that only makes memory; its last operation puts what it answers. -/
structure RP (W : World) (n : Nat) (z : Value) (sl : Nat → Nat) (tab : List VP) (vs : Nat → Value) (w : World) (d : Nat → Bool) : Prop where
  gr : Below W.heap.size W w
  val : ∀ k f, tab[k]? = some f → d k = true → f (vs (sl k)) w
  keep : d n = false → vs (sl n) = z
  ord : d n = true → d 0 = true
theorem RP.start {W : World} {n : Nat} {z : Value} {sl : Nat → Nat} {tab : List VP} {vs : Nat → Value} (h : vs (sl n) = z) : RP W n z sl tab vs W.drew (fun _ => false) :=
  ⟨(Below.refl _ _).drew, (fun k f _ hd => by cases hd), (fun _ => h), (fun h => by cases h)⟩
theorem RP.first {W : World} {n : Nat} {z : Value} {sl : Nat → Nat} {tab : List VP} {vs : Nat → Value} {w : World} {d : Nat → Bool} (h : RP W n z sl tab vs w d) (h0 : d 0 = false) : vs (sl n) = z := by
  refine h.keep ?_
  cases hh : d n with
  | false => rfl
  | true => have := h.ord hh; rw [h0] at this; cases this
theorem RP.step {W : World} {n : Nat} {z : Value} {sl : Nat → Nat} {tab : List VP} {vs : Nat → Value} {w w' : World} {d : Nat → Bool} (h : RP W n z sl tab vs w d) (hst : ∀ f ∈ tab, Steady f) (hsl : ∀ i j, sl i = sl j → i = j) (k : Nat) (f : VP) (hf : tab[k]? = some f) (h0 : k = n → d 0 = true ∨ n = 0) (hb : Below w.heap.size w w') (v : Value) (hv : f v w') :
    RP W n z sl tab (upd vs (sl k) v) w' (fun j => decide (j = k) || d j) := by
  refine ⟨h.gr.trans (hb.mono h.gr.size), fun j g hg hd => ?_, fun hd => ?_, fun hd => ?_⟩
  · by_cases hj : j = k
    · subst hj
      rw [hf] at hg; injection hg with hg; subst hg
      rw [upd_same]; exact hv
    · rw [upd_other v (fun e => hj (hsl _ _ e))]
      rw [decide_eq_false hj, Bool.false_or] at hd
      exact hst g (List.mem_of_getElem? hg) _ _ _ (h.val j g hg hd) hb
  · by_cases hj : n = k
    · subst hj; simp at hd
    · rw [upd_other v (fun e => hj (hsl _ _ e))]
      rw [decide_eq_false hj, Bool.false_or] at hd
      exact h.keep hd
  · by_cases hj : n = k
    · rcases h0 hj.symm with h1 | h1
      · rw [h1, Bool.or_true]
      · rw [h1] at hj; rw [← hj]; rfl
    · rw [decide_eq_false hj, Bool.false_or] at hd
      rw [h.ord hd, Bool.or_true]
def isV (u : Value) : VP := fun v _ => v = u
theorem steadyV (u : Value) : Steady (isV u) := fun v w w' h _ => h
def slA (b l n k : Nat) : Nat := if k = n then l else b + k
theorem slA_inj {b l n : Nat} (h : l < b) : ∀ i j, slA b l n i = slA b l n j → i = j := by
  intro i j e
  unfold slA at e
  split at e <;> split at e <;> omega
theorem steady_nil : ∀ f ∈ ([] : List VP), Steady f := fun f hf => by cases hf
theorem steady_cons {f : VP} {r : List VP} (h : Steady f) (hr : ∀ g ∈ r, Steady g) : ∀ g ∈ f :: r, Steady g := fun g hg => by
  rcases List.mem_cons.1 hg with rfl | hg
  · exact h
  · exact hr g hg
end Go.Proofs.YthlingdlehdlhaaGreatDoor.Par

namespace Go.Proofs.YthlingdlehdlhaaGreatDoor.Par
open Go.RowKit Go.Shelf
set_option linter.unusedVariables false
set_option linter.unusedSimpArgs false

def oG : Nat → List UInt8
  | 0 => gLP
  | 1 => gLB
  | _ => gLC
def cG : Nat → List UInt8
  | 0 => gRP
  | 1 => gRB
  | _ => gRC
theorem brk_cases (t : Tok) : (∃ k, k < 3 ∧ t.kind = 3 ∧ t.txt = oG k) ∨ (∃ k, k < 3 ∧ t.kind = 3 ∧ t.txt = cG k) ∨ (∀ k, k < 3 → isG t (oG k) = false ∧ isG t (cG k) = false) := by
  by_cases h : (∃ k, k < 3 ∧ t.kind = 3 ∧ t.txt = oG k) ∨ (∃ k, k < 3 ∧ t.kind = 3 ∧ t.txt = cG k)
  · rcases h with h | h
    · exact .inl h
    · exact .inr (.inl h)
  · refine .inr (.inr fun k hk => ⟨?_, ?_⟩)
    · cases hg : isG t (oG k) with
      | false => rfl
      | true => exact absurd (.inl ⟨k, hk, (isG_eq hg).1, (isG_eq hg).2⟩) h
    · cases hg : isG t (cG k) with
      | false => rfl
      | true => exact absurd (.inr ⟨k, hk, (isG_eq hg).1, (isG_eq hg).2⟩) h
theorem brk3 (t : Tok) (k : Nat) (hk : k < 3) : isG t (oG k) = (decide (brk t = (k : Int)) && isOpen t) ∧ isG t (cG k) = (decide (brk t = (k : Int)) && isClose t) := by
  rcases brk_cases t with ⟨j, hj, h1, h2⟩ | ⟨j, hj, h1, h2⟩ | h
  · have e : ∀ g, isG t g = decide (oG j = g) := fun g => by unfold isG; rw [h1, h2]; simp
    unfold brk isOpen isClose
    simp only [e]
    rcases (by omega : j = 0 ∨ j = 1 ∨ j = 2) with rfl | rfl | rfl <;> rcases (by omega : k = 0 ∨ k = 1 ∨ k = 2) with rfl | rfl | rfl <;> decide
  · have e : ∀ g, isG t g = decide (cG j = g) := fun g => by unfold isG; rw [h1, h2]; simp
    unfold brk isOpen isClose
    simp only [e]
    rcases (by omega : j = 0 ∨ j = 1 ∨ j = 2) with rfl | rfl | rfl <;> rcases (by omega : k = 0 ∨ k = 1 ∨ k = 2) with rfl | rfl | rfl <;> decide
  · have a0 := h 0 (by omega)
    have a1 := h 1 (by omega)
    have a2 := h 2 (by omega)
    simp only [oG, cG] at a0 a1 a2
    have eb : brk t = -1 := by unfold brk; simp [a0, a1, a2]
    rw [(h k hk).1, (h k hk).2, eb, decide_eq_false (by omega)]
    simp
theorem brk_lt (t : Tok) : brk t < 3 := by unfold brk; split; omega; split; omega; split; omega; omega
theorem wt_open3 {t : Tok} {k : Nat} (hk : k < 3) (h : isG t (oG k) = true) : brk t = k ∧ wt t = -1 ∧ isOpen t = true := by
  rw [(brk3 t k hk).1, Bool.and_eq_true] at h
  have h1 := of_decide_eq_true h.1
  exact ⟨h1, by rw [brk_wt, if_pos (by omega), if_pos h.2], h.2⟩
theorem wt_close3 {t : Tok} {k : Nat} (hk : k < 3) (h : isG t (cG k) = true) : brk t = k ∧ wt t = 1 ∧ isG t (oG k) = false := by
  have ho : isG t (oG k) = false := by
    have := (isG_eq h).2
    cases ho : isG t (oG k) with
    | false => rfl
    | true =>
      have e := (isG_eq ho).2
      rw [this] at e
      rcases (by omega : k = 0 ∨ k = 1 ∨ k = 2) with rfl | rfl | rfl <;> exact absurd e (by decide)
  have h' := h
  rw [(brk3 t k hk).2, Bool.and_eq_true] at h
  have h1 := of_decide_eq_true h.1
  have h2 : isOpen t = false := by
    have := (brk3 t k hk).1
    rw [ho, h.1, Bool.true_and] at this; exact this.symm
  exact ⟨h1, by rw [brk_wt, if_pos (by omega), if_neg (by rw [h2]; simp)], ho⟩
theorem brk_neither {t : Tok} {k : Nat} (hk : k < 3) (h1 : isG t (oG k) = false) (h2 : isG t (cG k) = false) : brk t ≠ k := fun e => by
  rw [(brk3 t k hk).1, decide_eq_true e, Bool.true_and] at h1
  rw [(brk3 t k hk).2, decide_eq_true e, Bool.true_and] at h2
  have hw : wt t = 0 := by unfold wt; rw [if_neg (by rw [h2]; simp), if_neg (by rw [h1]; simp)]
  have := brk_of_wt hw
  omega
/-- The row of the places that match. -/
def atC (A : List Nat) : Array Value := (A.map fun n : Nat => Value.int .i64 (n : Int)).toArray
theorem atC_set (A : List Nat) (i j : Nat) : (atC A).setIfInBounds i (.int .i64 (j : Int)) = atC (A.set i j) := by
  unfold atC; rw [List.setIfInBounds_toArray, List.map_set]
theorem atC_put {W : World} {B i : Nat} {A : List Nat} (h : W.heap[B]? = some (.cells (atC A) 3)) (j : Nat) : (W.setCell ⟨B, i, none⟩ (.int .i64 (j : Int))).heap[B]? = some (.cells (atC (A.set i j)) 3) := by
  rw [← atC_set]; exact heap_set1 h _
theorem atC_cell {W : World} {B i : Nat} {A : List Nat} (h : W.heap[B]? = some (.cells (atC A) 3)) {j : Nat} (hj : A[i]? = some j) : W.cell? ⟨B, i, none⟩ = some (.int .i64 (j : Int)) := by
  rw [Lib.cell_of_heap h]
  unfold atC
  simp [hj]
theorem own_far {w w' : World} {base e size n : Nat} {v : Value} {xs : List Value} (h : w.ownsRow base e size v n xs) (hh : ∀ g, base ≤ g → w'.heap[g]? = w.heap[g]?) : w'.ownsRow base e size v n xs := by
  refine ⟨h.1, ?_⟩
  rcases h.2 with h | ⟨g, cap, cur, e, h1, h2, h3⟩
  · exact .inl h
  · exact .inr ⟨g, cap, cur, e, h1, (hh g h1).trans h2, h3⟩
/-- Where the inner loop stands. -/
def Mid (T : List Tok) (i k : Nat) (t : Tok) (os : List Nat) (d : Nat) (A : List Nat) (os' : List Nat) (d' : Nat) (A' : List Nat) : Prop :=
  (((k : Int) ≤ brk t ∨ brk t < 0) ∧ os' = os ∧ d' = d ∧ A' = A.set i i) ∨ (0 ≤ brk t ∧ brk t < (k : Int) ∧ AtI T (i + 1) os' A' ∧ matchF [] 0 (T.take (i + 1)) = some (kinds T os', d'))
theorem Mid.next {T : List Tok} {i k : Nat} {t : Tok} {os : List Nat} {d : Nat} {A os' : List Nat} {d' : Nat} {A' : List Nat} (h : Mid T i k t os d A os' d' A') (hk : brk t ≠ k) : Mid T i (k + 1) t os d A os' d' A' := by
  rcases h with ⟨h1, h2⟩ | ⟨h1, h2, h3⟩
  · exact .inl ⟨by omega, h2⟩
  · exact .inr ⟨h1, by omega, h3⟩
theorem Mid.first {T : List Tok} {i k : Nat} {t : Tok} {os : List Nat} {d : Nat} {A os' : List Nat} {d' : Nat} {A' : List Nat} (h : Mid T i k t os d A os' d' A') (hk : brk t = k) : os' = os ∧ d' = d ∧ A' = A.set i i := by
  rcases h with ⟨h1, h2⟩ | ⟨h1, h2, h3⟩
  · exact h2
  · omega
theorem Mid.last {T : List Tok} {i : Nat} {t : Tok} {os : List Nat} {d : Nat} {A os' : List Nat} {d' : Nat} {A' : List Nat} (h : Mid T i 3 t os d A os' d' A') (ht : T[i]? = some t) (hI : AtI T i os A) (hM : matchF [] 0 (T.take i) = some (kinds T os, d)) : AtI T (i + 1) os' A' ∧ matchF [] 0 (T.take (i + 1)) = some (kinds T os', d') := by
  rcases h with ⟨h1, rfl, rfl, rfl⟩ | ⟨h1, h2, h3⟩
  · have hb : brk t < 0 := by have := brk_lt t; omega
    have hw : wt t = 0 := by rw [brk_wt, if_neg (by omega)]
    exact ⟨hI.none ht hw, match_none hM ht hw⟩
  · exact h3
theorem Mid.push {T : List Tok} {i k : Nat} {t : Tok} {os : List Nat} {d : Nat} {A os' : List Nat} {d' : Nat} {A' : List Nat} (h : Mid T i k t os d A os' d' A') (hk : k < 3) (hg : isG t (oG k) = true) (ht : T[i]? = some t) (hI : AtI T i os A) (hM : matchF [] 0 (T.take i) = some (kinds T os, d)) : Mid T i (k + 1) t os d A (i :: os') (max d' (os'.length + 1)) A' := by
  obtain ⟨hb, hw, -⟩ := wt_open3 hk hg
  obtain ⟨rfl, rfl, rfl⟩ := h.first hb
  exact .inr ⟨by omega, by omega, hI.push ht hw, match_push hM ht hw⟩
theorem Mid.top {T : List Tok} {i k : Nat} {t : Tok} {os : List Nat} {d : Nat} {A : List Nat} {o : Nat} {r : List Nat} {d' : Nat} {A' : List Nat} (h : Mid T i k t os d A (o :: r) d' A') (hk : k < 3) (hg : isG t (cG k) = true) (hI : AtI T i os A) : o < i ∧ ∃ u, T[o]? = some u ∧ wt u = -1 := by
  obtain ⟨hb, hw, -⟩ := wt_close3 hk hg
  obtain ⟨rfl, rfl, rfl⟩ := h.first hb
  have := hI.stk
  exact ⟨this.1, this.2.1⟩
theorem Mid.pop {T : List Tok} {i k : Nat} {t u : Tok} {os : List Nat} {d : Nat} {A : List Nat} {o : Nat} {r : List Nat} {d' : Nat} {A' : List Nat} (h : Mid T i k t os d A (o :: r) d' A') (hk : k < 3) (hg : isG t (cG k) = true) (ht : T[i]? = some t) (hu : T[o]? = some u) (hgu : isG u (oG k) = true) (hI : AtI T i os A) (hM : matchF [] 0 (T.take i) = some (kinds T os, d)) : Mid T i (k + 1) t os d A r d' ((A'.set i o).set o i) := by
  obtain ⟨hb, hw, -⟩ := wt_close3 hk hg
  obtain ⟨hbu, hwu, -⟩ := wt_open3 hk hgu
  obtain ⟨rfl, rfl, rfl⟩ := h.first hb
  exact .inr ⟨by omega, by omega, hI.pop ht hw hu (by omega), match_pop hM ht hw hu (by omega)⟩
theorem Mid.bad0 {T : List Tok} {i k : Nat} {t : Tok} {os : List Nat} {d : Nat} {A : List Nat} {d' : Nat} {A' : List Nat} (h : Mid T i k t os d A [] d' A') (hk : k < 3) (hg : isG t (cG k) = true) (ht : T[i]? = some t) (hM : matchF [] 0 (T.take i) = some (kinds T os, d)) : (matchedF T).2 = false := by
  obtain ⟨hb, hw, -⟩ := wt_close3 hk hg
  obtain ⟨rfl, rfl, rfl⟩ := h.first hb
  rw [match_bad hM ht hw (by simp [kinds])]
theorem Mid.bad1 {T : List Tok} {i k : Nat} {t u : Tok} {os : List Nat} {d : Nat} {A : List Nat} {o : Nat} {r : List Nat} {d' : Nat} {A' : List Nat} (h : Mid T i k t os d A (o :: r) d' A') (hk : k < 3) (hg : isG t (cG k) = true) (ht : T[i]? = some t) (hu : T[o]? = some u) (hwu : wt u = -1) (hgu : isG u (oG k) = false) (hM : matchF [] 0 (T.take i) = some (kinds T os, d)) : (matchedF T).2 = false := by
  obtain ⟨hb, hw, -⟩ := wt_close3 hk hg
  obtain ⟨rfl, rfl, rfl⟩ := h.first hb
  rw [match_bad hM ht hw ?_]
  obtain ⟨h0, ho⟩ := wt_open hwu
  rw [(brk3 u k hk).1, ho, Bool.and_true] at hgu
  have hne := of_decide_eq_false hgu
  unfold kinds
  rw [List.map_cons, hu, Option.map_some, Option.getD_some, List.head?_cons]
  intro e
  injection e with e
  exact hne (e.trans hb)
/-- A row of three strings. -/
def isL (s1 s2 s3 : ByteArray) : VP := fun v W => ∃ b, v = .slice (some ⟨b, 0, none⟩) 3 3 ∧ W.heap[b]? = some (.cells #[.string s1, .string s2, .string s3] 9)
def isLp (s1 s2 s3 : ByteArray) (k : Nat) : VP := fun v W => ∃ b, v = .pointer (some ⟨b, k, none⟩) ∧ W.heap[b]? = some (.cells #[.string s1, .string s2, .string s3] 9)
theorem steadyL (s1 s2 s3 : ByteArray) : Steady (isL s1 s2 s3) := fun v w w' ⟨b, e, h⟩ hb => ⟨b, e, (hb.block _ (Array.getElem?_eq_some_iff.1 h).1).trans h⟩
theorem steadyLp (s1 s2 s3 : ByteArray) (k : Nat) : Steady (isLp s1 s2 s3 k) := fun v w w' ⟨b, e, h⟩ hb => ⟨b, e, (hb.block _ (Array.getElem?_eq_some_iff.1 h).1).trans h⟩
theorem lit_open {W : World} {b k : Nat} (hk : k < 3) (h : W.heap[b]? = some (.cells #[.string ⟨#[40]⟩, .string ⟨#[91]⟩, .string ⟨#[123]⟩] 9)) : W.cell? ⟨b, k, none⟩ = some (.string (bs (oG k))) := by
  rw [Lib.cell_of_heap h]
  rcases (by omega : k = 0 ∨ k = 1 ∨ k = 2) with rfl | rfl | rfl <;> rfl
theorem lit_close {W : World} {b k : Nat} (hk : k < 3) (h : W.heap[b]? = some (.cells #[.string ⟨#[41]⟩, .string ⟨#[93]⟩, .string ⟨#[125]⟩] 9)) : W.cell? ⟨b, k, none⟩ = some (.string (bs (cG k))) := by
  rw [Lib.cell_of_heap h]
  rcases (by omega : k = 0 ∨ k = 1 ∨ k = 2) with rfl | rfl | rfl <;> rfl
/-- What pairs answers. -/
def PairA (w : World) (T : List Tok) (e : Ending) (w' : World) : Prop :=
  ((∃ (a : Option Addr) (c : Nat) (A : List Nat) (d : Nat), e = .returned (.tuple #[.slice a A.length c, .int .i64 (d : Int), .bool true]) ∧ matchedF T = ((d : Int), true) ∧ AtOK T A ∧ Dyck T ∧ Ints w' (.slice a A.length c) (A.map fun n : Nat => (n : Int))) ∨ (∃ (a : Option Addr) (n c : Nat) (d : Int), e = .returned (.tuple #[.slice a n c, .int .i64 d, .bool false]) ∧ (matchedF T).2 = false)) ∧ Below w.heap.size w w'
theorem at_ints {W : World} {B : Nat} {A : List Nat} (h : W.heap[B]? = some (.cells (atC A) 3)) (hA : A.length ≤ 8000000) : Ints W (.slice (some ⟨B, 0, none⟩) A.length A.length) (A.map fun n : Nat => (n : Int)) := by
  refine ⟨some ⟨B, 0, none⟩, A.length, by rw [List.length_map], by simp, by omega, (fun e => by cases e), fun i hi => ⟨B, 0, rfl, ?_⟩⟩
  rw [List.length_map, List.length_map] at hi
  rw [Nat.zero_add, atC_cell h (List.getElem?_eq_getElem hi)]
  simp [List.getElem?_eq_getElem hi]

set_option maxRecDepth 100000 in
set_option maxHeartbeats 8000000 in
theorem rpairs_any (T : List Tok) (a : Option Addr) (c : Nat) (w : World) (hT : IsToks w (.slice a T.length c) T) (hTl : T.length ≤ 8000000) :
    Calls Tryz.prog 35 #[.slice a T.length c] w fun e w' => PairA w T e w' := by
  obtain ⟨i0, hi, hz0, hz1, hz2⟩ := info_parts (show (Tryz.prog.info? 3).map (fun i => (i.zero, i.size, i.bytes)) = some (some (.int .i64 0), 1, 8) by kernel_rfl)
  go_enter Tryz.func35, Tryz.ntmps35
  go_wp2_with (at_make; refine wpList_make_full _ rfl _ _ 27 rfl w.heap.size 3 i0 (.int .i64 0) 1 Tryz.underlying27 hi hz0 hz1 _ _ _ _ T.length rfl rfl rfl rfl (by rw [hz2]; omega) (by simp [maxLen]; omega) (by simp) ?_)
  intro w1 hown hgrow
  have hB1 : Below w.heap.size w w1 := (Below.refl _ w).grown hgrow (Nat.le_refl _) (fun k e => by cases e)
  have hsz : w.heap.size < w1.heap.size := (hown.lt _ rfl).2
  have hA1 : w1.heap[w.heap.size]? = some (.cells (atC (List.replicate T.length 0)) 3) := by
    obtain ⟨q1, ⟨q2, -⟩ | ⟨g, cap, cur, q3, q4, q5, q6, q7, q8, q9⟩⟩ := hown
    · cases q2
    · injection q3 with e1 e2 e3
      injection e1 with e1
      injection e1 with e1
      subst e1 e3
      rw [q5]
      have : cur = atC (List.replicate T.length 0) := by
        apply Array.ext'
        have hc : cur.toList.length = T.length * 1 := q8
        rw [← List.take_of_length_le (Nat.le_of_eq hc), q9]
        unfold atC
        apply List.ext_getElem
        · simp [madeCells]
        · intro i h1 h2
          simp [madeCells, Nat.mod_one]
      rw [this]
  clear hown hgrow
  go_wp2_with fail
  go_loopw [6, 7, 8] (fun vo vd vi wr => ∃ (i d : Nat) (os A : List Nat), i ≤ T.length ∧ vi = .int .i64 (i : Nat) ∧ vd = .int .i64 (d : Nat) ∧ d ≤ i ∧ os.length ≤ i ∧ wr.ownsRow w1.heap.size 3 1 vo os.length (os.reverse.map (fun n : Nat => Value.int .i64 (n : Int))) ∧ Below w.heap.size w wr ∧ w1.heap.size ≤ wr.heap.size ∧ wr.heap[w.heap.size]? = some (.cells (atC A) 3) ∧ Hid (A.length = T.length ∧ AtI T i os A ∧ matchF [] 0 (T.take i) = some (kinds T os, d)))
    (fun _ _ vi _ => T.length - (intOf vi).toNat)
  case atStart => exact ⟨0, 0, [], List.replicate T.length 0, Nat.zero_le _, rfl, rfl, Nat.le_refl _, Nat.le_refl _, World.ownsRow_nil _ _ _ _, hB1, Nat.le_refl _, hA1, hid ⟨by simp, AtI.start T _ (by simp), by rw [List.take_zero]; rfl⟩⟩
  case round =>
    obtain ⟨i, d, os, A, hiT, rfl, rfl, hdi, hosi, hrow, hB, hwz, hA, HI⟩ := hrel
    by_cases hlt : i < T.length
    · obtain ⟨t, ht⟩ : ∃ t, T[i]? = some t := ⟨_, List.getElem?_eq_getElem hlt⟩
      obtain ⟨bb, bo, sa, sc, ea, ec, rfl, ⟨g0, g1, g2, g3, g4⟩, -, -, -⟩ := tok_get hT ht
      have hTt : ∀ V, Below w.heap.size w V → TokAt V bb (bo + i * 5) t (.slice sa t.val.shape.length sc) (.slice ea t.val.elems.length ec) := fun V hV => ⟨(hV.cell (World.block_lt_of_cell? w _ g0)).trans g0, (hV.cell (World.block_lt_of_cell? w _ g1)).trans g1, (hV.cell (World.block_lt_of_cell? w _ g2)).trans g2, (hV.cell (World.block_lt_of_cell? w _ g3)).trans g3, (hV.cell (World.block_lt_of_cell? w _ g4)).trans g4⟩
      have hii : (i : Int) < (T.length : Int) := by omega
      obtain ⟨j0, hj0⟩ : ∃ j, A[i]? = some j := ⟨_, List.getElem?_eq_getElem (by rw [HI.out.1]; exact hlt)⟩
      have hc0 := atC_cell hA hj0
      have hf0 := Lib.frozen_of_heap hA i
      have hB2 : Below w.heap.size w (wr.setCell ⟨w.heap.size, i, none⟩ (.int .i64 (i : Nat))) := hB.setCell (Nat.le_refl _) _
      have hrow2 : (wr.setCell ⟨w.heap.size, i, none⟩ (.int .i64 (i : Nat))).ownsRow w1.heap.size 3 1 _ os.length _ := own_far hrow (fun g hg => Below.heap_setCell wr ⟨w.heap.size, i, none⟩ _ g (by show g ≠ w.heap.size; omega))
      have hA2 := atC_put (i := i) hA i
      have hwz2 : w1.heap.size ≤ (wr.setCell ⟨w.heap.size, i, none⟩ (.int .i64 (i : Nat))).heap.size := by rw [World.size_setCell]; exact hwz
      have Ht := hid ht
      clear g0 g1 g2 g3 g4 hj0 ht hrow hB hwz hA
      go_upto_region 8 with fail
      generalize wr.setCell ⟨w.heap.size, i, none⟩ (.int .i64 (i : Nat)) = w2 at *
      clear hc0 hf0
      go_wp2_with fail
      go_loopw [6, 7, 9] (fun vo vd vk wr => ∃ (k d' : Nat) (os' A' : List Nat), k ≤ 3 ∧ vk = .int .i64 (k : Nat) ∧ vd = .int .i64 (d' : Nat) ∧ d' ≤ i + 1 ∧ os'.length ≤ i + 1 ∧ wr.ownsRow w1.heap.size 3 1 vo os'.length (os'.reverse.map (fun n : Nat => Value.int .i64 (n : Int))) ∧ Below w.heap.size w wr ∧ w1.heap.size ≤ wr.heap.size ∧ wr.heap[w.heap.size]? = some (.cells (atC A') 3) ∧ Hid (A'.length = T.length ∧ Mid T i k t os d A os' d' A'))
        (fun _ _ vk _ => 3 - (intOf vk).toNat)
      case atStart => exact ⟨0, d, os, A.set i i, by omega, rfl, rfl, by omega, by omega, hrow2, hB2, hwz2, hA2, hid ⟨by rw [List.length_set]; exact HI.out.1, .inl ⟨by omega, rfl, rfl, rfl⟩⟩⟩
      case round =>
        obtain ⟨k, d', os', A', hk3, rfl, rfl, hd'i, hos'i, hrow', hB', hwz', hA', HM⟩ := hrel
        by_cases hk3 : k < 3
        · have hki : (k : Int) < 3 := by omega
          clear hrow2 hB2 hwz2 hA2
          obtain ⟨av, cv, rfl⟩ := own_slice hrow'
          have hTt' : ∀ V, Below wr.heap.size wr V → TokAt V bb (bo + i * 5) t (.slice sa t.val.shape.length sc) (.slice ea t.val.elems.length ec) := fun V hV => hTt V (hB'.trans (hV.mono hB'.size))
          go_upto_region 11 with fail
          have hsl := slA_inj (b := 28) (l := 0) (n := 1000) (by decide)
          have hst : ∀ qq ∈ [isV (.slice (some ⟨bb, bo, none⟩) T.length c), isV (.int .i64 (i : Int)), isV (.pointer (some ⟨bb, bo + i * 5, none⟩)), isV (.agg #[.int .i64 t.kind, .string (bs t.txt), .int .i64 t.val.kind, .slice sa t.val.shape.length sc, .slice ea t.val.elems.length ec]), isL ⟨#[40]⟩ ⟨#[91]⟩ ⟨#[123]⟩, isV (.int .i64 (k : Int)), isLp ⟨#[40]⟩ ⟨#[91]⟩ ⟨#[123]⟩ k, isV (.string (bs (oG k))), isV (.bool (isG t (oG k)))], Steady qq := steady_cons (steadyV _) (steady_cons (steadyV _) (steady_cons (steadyV _) (steady_cons (steadyV _) (steady_cons (steadyL _ _ _) (steady_cons (steadyV _) (steady_cons (steadyLp _ _ _ _) (steady_cons (steadyV _) (steady_cons (steadyV _) (steady_nil)))))))))
          refine region_vals [28, 29, 30, 31, 32, 33, 34, 35, 36] (by decide) _ (RP wr 1000 undef (slA 28 0 1000) [isV (.slice (some ⟨bb, bo, none⟩) T.length c), isV (.int .i64 (i : Int)), isV (.pointer (some ⟨bb, bo + i * 5, none⟩)), isV (.agg #[.int .i64 t.kind, .string (bs t.txt), .int .i64 t.val.kind, .slice sa t.val.shape.length sc, .slice ea t.val.elems.length ec]), isL ⟨#[40]⟩ ⟨#[91]⟩ ⟨#[123]⟩, isV (.int .i64 (k : Int)), isLp ⟨#[40]⟩ ⟨#[91]⟩ ⟨#[123]⟩ k, isV (.string (bs (oG k))), isV (.bool (isG t (oG k)))]) (fun k => if k = 28 then u28 else if k = 29 then u29 else if k = 30 then u30 else if k = 31 then u31 else if k = 32 then u32 else if k = 33 then u33 else if k = 34 then u34 else if k = 35 then u35 else if k = 36 then u36 else undef) (by kernel_rfl) (by kernel_rfl) rfl (by kernel_rfl) (by kernel_rfl) (RP.start rfl) ?_ ?_
          · intro ii hi d0 vs V Ac hfar hv hd hdep hJ
            have hi2 : ii < 9 := hi
            have hgr := hJ.gr
            have p0 : Ac.tmps[0]? = some (.slice (some ⟨bb, bo, none⟩) T.length c) := (hfar 0 (by decide)).trans rfl
            have p8 : Ac.tmps[8]? = some (.int .i64 (i : Int)) := (hfar 8 (by decide)).trans rfl
            have p9 : Ac.tmps[9]? = some (.int .i64 (k : Int)) := (hfar 9 (by decide)).trans rfl
            clear hfar hi hd
            rcases (by omega : ii = 0 ∨ ii = 1 ∨ ii = 2 ∨ ii = 3 ∨ ii = 4 ∨ ii = 5 ∨ ii = 6 ∨ ii = 7 ∨ ii = 8) with rfl | rfl | rfl | rfl | rfl | rfl | rfl | rfl | rfl
            · refine step_free rfl rfl (fun K' hK => ?_)
              clear hv hdep
              go_simp
              exact hK _ _ ⟨_, .inr ⟨28, _, by decide, rfl, rfl⟩, hJ.step hst hsl 0 _ rfl (fun h => absurd h (by decide)) (Below.refl _ _) _ (rfl)⟩
            · refine step_free rfl rfl (fun K' hK => ?_)
              clear hv hdep
              go_simp
              exact hK _ _ ⟨_, .inr ⟨29, _, by decide, rfl, rfl⟩, hJ.step hst hsl 1 _ rfl (fun h => absurd h (by decide)) (Below.refl _ _) _ (rfl)⟩
            · have e0 : vs 28 = .slice (some ⟨bb, bo, none⟩) T.length c := hJ.val 0 _ rfl (hdep 0 (by decide))
              have a28 : Ac.tmps[28]? = some (vs 28) := hv 28 (by decide)
              rw [e0] at a28
              have e1 : vs 29 = .int .i64 (i : Int) := hJ.val 1 _ rfl (hdep 1 (by decide))
              have a29 : Ac.tmps[29]? = some (vs 29) := hv 29 (by decide)
              rw [e1] at a29
              refine step_free rfl rfl (fun K' hK => ?_)
              clear hv hdep
              go_simp
              exact hK _ _ ⟨_, .inr ⟨30, _, by decide, rfl, rfl⟩, hJ.step hst hsl 2 _ rfl (fun h => absurd h (by decide)) (Below.refl _ _) _ (rfl)⟩
            · have e2 : vs 30 = .pointer (some ⟨bb, bo + i * 5, none⟩) := hJ.val 2 _ rfl (hdep 2 (by decide))
              have a30 : Ac.tmps[30]? = some (vs 30) := hv 30 (by decide)
              rw [e2] at a30
              refine step_free rfl rfl (fun K' hK => ?_)
              clear hv hdep
              obtain ⟨g0, g1, g2, g3, g4⟩ := hTt' V hgr
              go_simp
              exact hK _ _ ⟨_, .inr ⟨31, _, by decide, rfl, rfl⟩, hJ.step hst hsl 3 _ rfl (fun h => absurd h (by decide)) (Below.refl _ _) _ (rfl)⟩
            · refine step_free rfl rfl (fun K' hK => ?_)
              clear hv hdep
              go_simp
              exact hK _ _ ⟨_, .inr ⟨32, _, by decide, rfl, rfl⟩, hJ.step hst hsl 4 _ rfl (fun h => absurd h (by decide)) ((Below.refl _ _).alloc (Nat.le_refl _) _) _ (⟨_, rfl, heap_alloc_new V _⟩)⟩
            · refine step_free rfl rfl (fun K' hK => ?_)
              clear hv hdep
              go_simp
              exact hK _ _ ⟨_, .inr ⟨33, _, by decide, rfl, rfl⟩, hJ.step hst hsl 5 _ rfl (fun h => absurd h (by decide)) (Below.refl _ _) _ (rfl)⟩
            · have e4 : isL ⟨#[40]⟩ ⟨#[91]⟩ ⟨#[123]⟩ (vs 32) V := hJ.val 4 _ rfl (hdep 4 (by decide))
              have a32 : Ac.tmps[32]? = some (vs 32) := hv 32 (by decide)
              obtain ⟨lb, e4, hl⟩ := e4
              rw [e4] at a32
              have e5 : vs 33 = .int .i64 (k : Int) := hJ.val 5 _ rfl (hdep 5 (by decide))
              have a33 : Ac.tmps[33]? = some (vs 33) := hv 33 (by decide)
              rw [e5] at a33
              refine step_free rfl rfl (fun K' hK => ?_)
              clear hv hdep
              go_simp
              exact hK _ _ ⟨_, .inr ⟨34, _, by decide, rfl, rfl⟩, hJ.step hst hsl 6 _ rfl (fun h => absurd h (by decide)) (Below.refl _ _) _ (⟨_, rfl, hl⟩)⟩
            · have e6 : isLp ⟨#[40]⟩ ⟨#[91]⟩ ⟨#[123]⟩ k (vs 34) V := hJ.val 6 _ rfl (hdep 6 (by decide))
              have a34 : Ac.tmps[34]? = some (vs 34) := hv 34 (by decide)
              obtain ⟨lb, e6, hl⟩ := e6
              rw [e6] at a34
              refine step_free rfl rfl (fun K' hK => ?_)
              clear hv hdep
              have hc := lit_open hk3 hl
              go_simp
              exact hK _ _ ⟨_, .inr ⟨35, _, by decide, rfl, rfl⟩, hJ.step hst hsl 7 _ rfl (fun h => absurd h (by decide)) (Below.refl _ _) _ (rfl)⟩
            · have e3 : vs 31 = .agg #[.int .i64 t.kind, .string (bs t.txt), .int .i64 t.val.kind, .slice sa t.val.shape.length sc, .slice ea t.val.elems.length ec] := hJ.val 3 _ rfl (hdep 3 (by decide))
              have a31 : Ac.tmps[31]? = some (vs 31) := hv 31 (by decide)
              rw [e3] at a31
              have e7 : vs 35 = .string (bs (oG k)) := hJ.val 7 _ rfl (hdep 7 (by decide))
              have a35 : Ac.tmps[35]? = some (vs 35) := hv 35 (by decide)
              rw [e7] at a35
              refine step_free rfl rfl (fun K' hK => ?_)
              clear hv hdep
              go_simp
              go_at_call 38
              refine (ris_any t _ _ (oG k) _ rfl V).mono ?_
              rintro e W ⟨rfl, b⟩
              exact hK _ _ ⟨_, .inr ⟨36, _, by decide, rfl, rfl⟩, hJ.step hst hsl 8 _ rfl (fun h => absurd h (by decide)) b _ (rfl)⟩
          · intro d0 vs V hall hJ
            have h2 : vs 36 = .bool (isG t (oG k)) := hJ.val 8 _ rfl (hall 8 (show 8 < 9 by decide))
            have hBV := hJ.gr
            clear hall hJ hst hsl
            simp only [puts, List.foldl_cons, List.foldl_nil, Act.put, List.setIfInBounds_toArray, List.set_cons_zero, List.set_cons_succ, Nat.reduceAdd]
            rw [h2]
            clear h2
            generalize vs 28 = y28
            generalize vs 29 = y29
            generalize vs 30 = y30
            generalize vs 31 = y31
            generalize vs 32 = y32
            generalize vs 33 = y33
            generalize vs 34 = y34
            generalize vs 35 = y35
            have hrow3 := owns_below hrow' hBV
            have hA3 := (hBV.block w.heap.size (by omega)).trans hA'
            have hB3 := hB'.trans (hBV.mono hB'.size)
            have hwz3 : w1.heap.size ≤ V.heap.size := Nat.le_trans hwz' hBV.size
            clear hrow' hA' hB' hwz' hTt' hBV
            have hTV : ∀ W, Below V.heap.size V W → TokAt W bb (bo + i * 5) t (.slice sa t.val.shape.length sc) (.slice ea t.val.elems.length ec) := fun W hW => hTt W (hB3.trans (hW.mono hB3.size))
            cases hb1 : isG t (oG k) with
            | true =>
              have hb2 : isG t (cG k) = false := by
                cases hc : isG t (cG k) with
                | false => rfl
                | true => rw [(wt_close3 hk3 hc).2.2] at hb1; cases hb1
              have HP := hid (HM.out.2.push hk3 hb1 Ht.out HI.out.2.1 HI.out.2.2)
              have HL := hid HM.out.1
              have hos2 : os'.length ≤ i := by rw [(HM.out.2.first (wt_open3 hk3 hb1).1).1]; exact hosi
              clear HM hb1
              by_cases hdl : d' < os'.length + 1
              · have hdli : (d' : Int) < ((os'.length + 1 : Nat) : Int) := by omega
                have hdli2 : (d' : Int) < (os'.length : Int) + 1 := by omega
                rw [Nat.max_eq_right (by omega)] at HP
                clear hdl
                go_wp2_with (at_builtin; go_must (refine wpList_append_own _ rfl _ _ 27 rfl w1.heap.size 3 i0 (.int .i64 0) 1 8 Tryz.underlying27 hi hz0 hz1 hz2 rfl (by decide) _ _ _ rfl (hrow3.alloc _) ⟨V.heap.size, 0, none⟩ 1 1 [.int .i64 (i : Int)] rfl rfl (one_new V (.int .i64 (i : Int)) 3) (by simp [Value.oneCell']) (by simp [maxLen]; omega) (by omega) (by simp; omega) ?_); intro v' w3 hown' hgrow _; obtain ⟨g', cap', rfl⟩ := ownsRow_succ hown')
                have hB4 : Below w.heap.size w w3 := own_grow (hB3.alloc hB3.size _) (own_weak (hrow3.alloc _) (Nat.le_of_lt hsz)) hgrow (by simp; have := hB3.size; omega)
                have hA4 : w3.heap[w.heap.size]? = some (.cells (atC A') 3) := (hgrow.block _ (by simp; omega) (fun e => by have := ((hrow3.alloc (.cells #[.int .i64 (i : Int)] 3)).lt _ e.symm).1; omega)).trans ((heap_alloc_old V _ (by omega)).trans hA3)
                have hwz4 : w1.heap.size ≤ w3.heap.size := Nat.le_trans hwz3 (Nat.le_trans (by simp) hgrow.size)
                have hTV3 : ∀ W, Below w3.heap.size w3 W → TokAt W bb (bo + i * 5) t (.slice sa t.val.shape.length sc) (.slice ea t.val.elems.length ec) := fun W hW => hTt W (hB4.trans (hW.mono hB4.size))
                clear hgrow hrow3 hB3 hA3 hwz3 hTV
                have hsl := slA_inj (b := 47) (l := 0) (n := 1000) (by decide)
                have hst : ∀ qq ∈ [isV (.slice (some ⟨bb, bo, none⟩) T.length c), isV (.int .i64 (i : Int)), isV (.pointer (some ⟨bb, bo + i * 5, none⟩)), isV (.agg #[.int .i64 t.kind, .string (bs t.txt), .int .i64 t.val.kind, .slice sa t.val.shape.length sc, .slice ea t.val.elems.length ec]), isL ⟨#[41]⟩ ⟨#[93]⟩ ⟨#[125]⟩, isV (.int .i64 (k : Int)), isLp ⟨#[41]⟩ ⟨#[93]⟩ ⟨#[125]⟩ k, isV (.string (bs (cG k))), isV (.bool (isG t (cG k)))], Steady qq := steady_cons (steadyV _) (steady_cons (steadyV _) (steady_cons (steadyV _) (steady_cons (steadyV _) (steady_cons (steadyL _ _ _) (steady_cons (steadyV _) (steady_cons (steadyLp _ _ _ _) (steady_cons (steadyV _) (steady_cons (steadyV _) (steady_nil)))))))))
                refine region_vals [47, 48, 49, 50, 51, 52, 53, 54, 55] (by decide) _ (RP w3 1000 undef (slA 47 0 1000) [isV (.slice (some ⟨bb, bo, none⟩) T.length c), isV (.int .i64 (i : Int)), isV (.pointer (some ⟨bb, bo + i * 5, none⟩)), isV (.agg #[.int .i64 t.kind, .string (bs t.txt), .int .i64 t.val.kind, .slice sa t.val.shape.length sc, .slice ea t.val.elems.length ec]), isL ⟨#[41]⟩ ⟨#[93]⟩ ⟨#[125]⟩, isV (.int .i64 (k : Int)), isLp ⟨#[41]⟩ ⟨#[93]⟩ ⟨#[125]⟩ k, isV (.string (bs (cG k))), isV (.bool (isG t (cG k)))]) (fun k => if k = 47 then u47 else if k = 48 then u48 else if k = 49 then u49 else if k = 50 then u50 else if k = 51 then u51 else if k = 52 then u52 else if k = 53 then u53 else if k = 54 then u54 else if k = 55 then u55 else undef) (by kernel_rfl) (by kernel_rfl) rfl (by kernel_rfl) (by kernel_rfl) (RP.start rfl) ?_ ?_
                · intro ii hi d0 vs V Ac hfar hv hd hdep hJ
                  have hi2 : ii < 9 := hi
                  have hgr := hJ.gr
                  have p0 : Ac.tmps[0]? = some (.slice (some ⟨bb, bo, none⟩) T.length c) := (hfar 0 (by decide)).trans rfl
                  have p8 : Ac.tmps[8]? = some (.int .i64 (i : Int)) := (hfar 8 (by decide)).trans rfl
                  have p9 : Ac.tmps[9]? = some (.int .i64 (k : Int)) := (hfar 9 (by decide)).trans rfl
                  clear hfar hi hd
                  rcases (by omega : ii = 0 ∨ ii = 1 ∨ ii = 2 ∨ ii = 3 ∨ ii = 4 ∨ ii = 5 ∨ ii = 6 ∨ ii = 7 ∨ ii = 8) with rfl | rfl | rfl | rfl | rfl | rfl | rfl | rfl | rfl
                  · refine step_free rfl rfl (fun K' hK => ?_)
                    clear hv hdep
                    go_simp
                    exact hK _ _ ⟨_, .inr ⟨47, _, by decide, rfl, rfl⟩, hJ.step hst hsl 0 _ rfl (fun h => absurd h (by decide)) (Below.refl _ _) _ (rfl)⟩
                  · refine step_free rfl rfl (fun K' hK => ?_)
                    clear hv hdep
                    go_simp
                    exact hK _ _ ⟨_, .inr ⟨48, _, by decide, rfl, rfl⟩, hJ.step hst hsl 1 _ rfl (fun h => absurd h (by decide)) (Below.refl _ _) _ (rfl)⟩
                  · have e0 : vs 47 = .slice (some ⟨bb, bo, none⟩) T.length c := hJ.val 0 _ rfl (hdep 0 (by decide))
                    have a47 : Ac.tmps[47]? = some (vs 47) := hv 47 (by decide)
                    rw [e0] at a47
                    have e1 : vs 48 = .int .i64 (i : Int) := hJ.val 1 _ rfl (hdep 1 (by decide))
                    have a48 : Ac.tmps[48]? = some (vs 48) := hv 48 (by decide)
                    rw [e1] at a48
                    refine step_free rfl rfl (fun K' hK => ?_)
                    clear hv hdep
                    go_simp
                    exact hK _ _ ⟨_, .inr ⟨49, _, by decide, rfl, rfl⟩, hJ.step hst hsl 2 _ rfl (fun h => absurd h (by decide)) (Below.refl _ _) _ (rfl)⟩
                  · have e2 : vs 49 = .pointer (some ⟨bb, bo + i * 5, none⟩) := hJ.val 2 _ rfl (hdep 2 (by decide))
                    have a49 : Ac.tmps[49]? = some (vs 49) := hv 49 (by decide)
                    rw [e2] at a49
                    refine step_free rfl rfl (fun K' hK => ?_)
                    clear hv hdep
                    obtain ⟨g0, g1, g2, g3, g4⟩ := hTV3 V hgr
                    go_simp
                    exact hK _ _ ⟨_, .inr ⟨50, _, by decide, rfl, rfl⟩, hJ.step hst hsl 3 _ rfl (fun h => absurd h (by decide)) (Below.refl _ _) _ (rfl)⟩
                  · refine step_free rfl rfl (fun K' hK => ?_)
                    clear hv hdep
                    go_simp
                    exact hK _ _ ⟨_, .inr ⟨51, _, by decide, rfl, rfl⟩, hJ.step hst hsl 4 _ rfl (fun h => absurd h (by decide)) ((Below.refl _ _).alloc (Nat.le_refl _) _) _ (⟨_, rfl, heap_alloc_new V _⟩)⟩
                  · refine step_free rfl rfl (fun K' hK => ?_)
                    clear hv hdep
                    go_simp
                    exact hK _ _ ⟨_, .inr ⟨52, _, by decide, rfl, rfl⟩, hJ.step hst hsl 5 _ rfl (fun h => absurd h (by decide)) (Below.refl _ _) _ (rfl)⟩
                  · have e4 : isL ⟨#[41]⟩ ⟨#[93]⟩ ⟨#[125]⟩ (vs 51) V := hJ.val 4 _ rfl (hdep 4 (by decide))
                    have a51 : Ac.tmps[51]? = some (vs 51) := hv 51 (by decide)
                    obtain ⟨lb, e4, hl⟩ := e4
                    rw [e4] at a51
                    have e5 : vs 52 = .int .i64 (k : Int) := hJ.val 5 _ rfl (hdep 5 (by decide))
                    have a52 : Ac.tmps[52]? = some (vs 52) := hv 52 (by decide)
                    rw [e5] at a52
                    refine step_free rfl rfl (fun K' hK => ?_)
                    clear hv hdep
                    go_simp
                    exact hK _ _ ⟨_, .inr ⟨53, _, by decide, rfl, rfl⟩, hJ.step hst hsl 6 _ rfl (fun h => absurd h (by decide)) (Below.refl _ _) _ (⟨_, rfl, hl⟩)⟩
                  · have e6 : isLp ⟨#[41]⟩ ⟨#[93]⟩ ⟨#[125]⟩ k (vs 53) V := hJ.val 6 _ rfl (hdep 6 (by decide))
                    have a53 : Ac.tmps[53]? = some (vs 53) := hv 53 (by decide)
                    obtain ⟨lb, e6, hl⟩ := e6
                    rw [e6] at a53
                    refine step_free rfl rfl (fun K' hK => ?_)
                    clear hv hdep
                    have hc := lit_close hk3 hl
                    go_simp
                    exact hK _ _ ⟨_, .inr ⟨54, _, by decide, rfl, rfl⟩, hJ.step hst hsl 7 _ rfl (fun h => absurd h (by decide)) (Below.refl _ _) _ (rfl)⟩
                  · have e3 : vs 50 = .agg #[.int .i64 t.kind, .string (bs t.txt), .int .i64 t.val.kind, .slice sa t.val.shape.length sc, .slice ea t.val.elems.length ec] := hJ.val 3 _ rfl (hdep 3 (by decide))
                    have a50 : Ac.tmps[50]? = some (vs 50) := hv 50 (by decide)
                    rw [e3] at a50
                    have e7 : vs 54 = .string (bs (cG k)) := hJ.val 7 _ rfl (hdep 7 (by decide))
                    have a54 : Ac.tmps[54]? = some (vs 54) := hv 54 (by decide)
                    rw [e7] at a54
                    refine step_free rfl rfl (fun K' hK => ?_)
                    clear hv hdep
                    go_simp
                    go_at_call 38
                    refine (ris_any t _ _ (cG k) _ rfl V).mono ?_
                    rintro e W ⟨rfl, b⟩
                    exact hK _ _ ⟨_, .inr ⟨55, _, by decide, rfl, rfl⟩, hJ.step hst hsl 8 _ rfl (fun h => absurd h (by decide)) b _ (rfl)⟩
                · intro d0 vs V hall hJ
                  have h2 : vs 55 = .bool (isG t (cG k)) := hJ.val 8 _ rfl (hall 8 (show 8 < 9 by decide))
                  have hBV := hJ.gr
                  clear hall hJ hst hsl
                  simp only [puts, List.foldl_cons, List.foldl_nil, Act.put, List.setIfInBounds_toArray, List.set_cons_zero, List.set_cons_succ, Nat.reduceAdd]
                  rw [h2]
                  clear h2
                  generalize vs 47 = y47
                  generalize vs 48 = y48
                  generalize vs 49 = y49
                  generalize vs 50 = y50
                  generalize vs 51 = y51
                  generalize vs 52 = y52
                  generalize vs 53 = y53
                  generalize vs 54 = y54
                  rw [hb2]
                  have hrow5 := owns_below hown' hBV
                  have hA5 := (hBV.block w.heap.size (by omega)).trans hA4
                  have hB5 := hB4.trans (hBV.mono hB4.size)
                  have hwz5 : w1.heap.size ≤ V.heap.size := Nat.le_trans hwz4 hBV.size
                  clear hown' hA4 hB4 hwz4 hTV3 hBV
                  go_wp2_with fail
                  go_roundw
                  case rel => exact ⟨k + 1, os'.length + 1, i :: os', A', by omega, by go_num, rfl, by omega, by simp only [List.length_cons]; omega, by simpa using hrow5, hB5, hwz5, hA5, hid ⟨HL.out, HP.out⟩⟩
                  case measure => simp [intOf]; omega
              · have hdli : ¬ (d' : Int) < ((os'.length + 1 : Nat) : Int) := by omega
                have hdli2 : ¬ (d' : Int) < (os'.length : Int) + 1 := by omega
                rw [Nat.max_eq_left (by omega)] at HP
                clear hdl
                go_wp2_with (at_builtin; go_must (refine wpList_append_own _ rfl _ _ 27 rfl w1.heap.size 3 i0 (.int .i64 0) 1 8 Tryz.underlying27 hi hz0 hz1 hz2 rfl (by decide) _ _ _ rfl (hrow3.alloc _) ⟨V.heap.size, 0, none⟩ 1 1 [.int .i64 (i : Int)] rfl rfl (one_new V (.int .i64 (i : Int)) 3) (by simp [Value.oneCell']) (by simp [maxLen]; omega) (by omega) (by simp; omega) ?_); intro v' w3 hown' hgrow _; obtain ⟨g', cap', rfl⟩ := ownsRow_succ hown')
                have hB4 : Below w.heap.size w w3 := own_grow (hB3.alloc hB3.size _) (own_weak (hrow3.alloc _) (Nat.le_of_lt hsz)) hgrow (by simp; have := hB3.size; omega)
                have hA4 : w3.heap[w.heap.size]? = some (.cells (atC A') 3) := (hgrow.block _ (by simp; omega) (fun e => by have := ((hrow3.alloc (.cells #[.int .i64 (i : Int)] 3)).lt _ e.symm).1; omega)).trans ((heap_alloc_old V _ (by omega)).trans hA3)
                have hwz4 : w1.heap.size ≤ w3.heap.size := Nat.le_trans hwz3 (Nat.le_trans (by simp) hgrow.size)
                have hTV3 : ∀ W, Below w3.heap.size w3 W → TokAt W bb (bo + i * 5) t (.slice sa t.val.shape.length sc) (.slice ea t.val.elems.length ec) := fun W hW => hTt W (hB4.trans (hW.mono hB4.size))
                clear hgrow hrow3 hB3 hA3 hwz3 hTV
                have hsl := slA_inj (b := 47) (l := 0) (n := 1000) (by decide)
                have hst : ∀ qq ∈ [isV (.slice (some ⟨bb, bo, none⟩) T.length c), isV (.int .i64 (i : Int)), isV (.pointer (some ⟨bb, bo + i * 5, none⟩)), isV (.agg #[.int .i64 t.kind, .string (bs t.txt), .int .i64 t.val.kind, .slice sa t.val.shape.length sc, .slice ea t.val.elems.length ec]), isL ⟨#[41]⟩ ⟨#[93]⟩ ⟨#[125]⟩, isV (.int .i64 (k : Int)), isLp ⟨#[41]⟩ ⟨#[93]⟩ ⟨#[125]⟩ k, isV (.string (bs (cG k))), isV (.bool (isG t (cG k)))], Steady qq := steady_cons (steadyV _) (steady_cons (steadyV _) (steady_cons (steadyV _) (steady_cons (steadyV _) (steady_cons (steadyL _ _ _) (steady_cons (steadyV _) (steady_cons (steadyLp _ _ _ _) (steady_cons (steadyV _) (steady_cons (steadyV _) (steady_nil)))))))))
                refine region_vals [47, 48, 49, 50, 51, 52, 53, 54, 55] (by decide) _ (RP w3 1000 undef (slA 47 0 1000) [isV (.slice (some ⟨bb, bo, none⟩) T.length c), isV (.int .i64 (i : Int)), isV (.pointer (some ⟨bb, bo + i * 5, none⟩)), isV (.agg #[.int .i64 t.kind, .string (bs t.txt), .int .i64 t.val.kind, .slice sa t.val.shape.length sc, .slice ea t.val.elems.length ec]), isL ⟨#[41]⟩ ⟨#[93]⟩ ⟨#[125]⟩, isV (.int .i64 (k : Int)), isLp ⟨#[41]⟩ ⟨#[93]⟩ ⟨#[125]⟩ k, isV (.string (bs (cG k))), isV (.bool (isG t (cG k)))]) (fun k => if k = 47 then u47 else if k = 48 then u48 else if k = 49 then u49 else if k = 50 then u50 else if k = 51 then u51 else if k = 52 then u52 else if k = 53 then u53 else if k = 54 then u54 else if k = 55 then u55 else undef) (by kernel_rfl) (by kernel_rfl) rfl (by kernel_rfl) (by kernel_rfl) (RP.start rfl) ?_ ?_
                · intro ii hi d0 vs V Ac hfar hv hd hdep hJ
                  have hi2 : ii < 9 := hi
                  have hgr := hJ.gr
                  have p0 : Ac.tmps[0]? = some (.slice (some ⟨bb, bo, none⟩) T.length c) := (hfar 0 (by decide)).trans rfl
                  have p8 : Ac.tmps[8]? = some (.int .i64 (i : Int)) := (hfar 8 (by decide)).trans rfl
                  have p9 : Ac.tmps[9]? = some (.int .i64 (k : Int)) := (hfar 9 (by decide)).trans rfl
                  clear hfar hi hd
                  rcases (by omega : ii = 0 ∨ ii = 1 ∨ ii = 2 ∨ ii = 3 ∨ ii = 4 ∨ ii = 5 ∨ ii = 6 ∨ ii = 7 ∨ ii = 8) with rfl | rfl | rfl | rfl | rfl | rfl | rfl | rfl | rfl
                  · refine step_free rfl rfl (fun K' hK => ?_)
                    clear hv hdep
                    go_simp
                    exact hK _ _ ⟨_, .inr ⟨47, _, by decide, rfl, rfl⟩, hJ.step hst hsl 0 _ rfl (fun h => absurd h (by decide)) (Below.refl _ _) _ (rfl)⟩
                  · refine step_free rfl rfl (fun K' hK => ?_)
                    clear hv hdep
                    go_simp
                    exact hK _ _ ⟨_, .inr ⟨48, _, by decide, rfl, rfl⟩, hJ.step hst hsl 1 _ rfl (fun h => absurd h (by decide)) (Below.refl _ _) _ (rfl)⟩
                  · have e0 : vs 47 = .slice (some ⟨bb, bo, none⟩) T.length c := hJ.val 0 _ rfl (hdep 0 (by decide))
                    have a47 : Ac.tmps[47]? = some (vs 47) := hv 47 (by decide)
                    rw [e0] at a47
                    have e1 : vs 48 = .int .i64 (i : Int) := hJ.val 1 _ rfl (hdep 1 (by decide))
                    have a48 : Ac.tmps[48]? = some (vs 48) := hv 48 (by decide)
                    rw [e1] at a48
                    refine step_free rfl rfl (fun K' hK => ?_)
                    clear hv hdep
                    go_simp
                    exact hK _ _ ⟨_, .inr ⟨49, _, by decide, rfl, rfl⟩, hJ.step hst hsl 2 _ rfl (fun h => absurd h (by decide)) (Below.refl _ _) _ (rfl)⟩
                  · have e2 : vs 49 = .pointer (some ⟨bb, bo + i * 5, none⟩) := hJ.val 2 _ rfl (hdep 2 (by decide))
                    have a49 : Ac.tmps[49]? = some (vs 49) := hv 49 (by decide)
                    rw [e2] at a49
                    refine step_free rfl rfl (fun K' hK => ?_)
                    clear hv hdep
                    obtain ⟨g0, g1, g2, g3, g4⟩ := hTV3 V hgr
                    go_simp
                    exact hK _ _ ⟨_, .inr ⟨50, _, by decide, rfl, rfl⟩, hJ.step hst hsl 3 _ rfl (fun h => absurd h (by decide)) (Below.refl _ _) _ (rfl)⟩
                  · refine step_free rfl rfl (fun K' hK => ?_)
                    clear hv hdep
                    go_simp
                    exact hK _ _ ⟨_, .inr ⟨51, _, by decide, rfl, rfl⟩, hJ.step hst hsl 4 _ rfl (fun h => absurd h (by decide)) ((Below.refl _ _).alloc (Nat.le_refl _) _) _ (⟨_, rfl, heap_alloc_new V _⟩)⟩
                  · refine step_free rfl rfl (fun K' hK => ?_)
                    clear hv hdep
                    go_simp
                    exact hK _ _ ⟨_, .inr ⟨52, _, by decide, rfl, rfl⟩, hJ.step hst hsl 5 _ rfl (fun h => absurd h (by decide)) (Below.refl _ _) _ (rfl)⟩
                  · have e4 : isL ⟨#[41]⟩ ⟨#[93]⟩ ⟨#[125]⟩ (vs 51) V := hJ.val 4 _ rfl (hdep 4 (by decide))
                    have a51 : Ac.tmps[51]? = some (vs 51) := hv 51 (by decide)
                    obtain ⟨lb, e4, hl⟩ := e4
                    rw [e4] at a51
                    have e5 : vs 52 = .int .i64 (k : Int) := hJ.val 5 _ rfl (hdep 5 (by decide))
                    have a52 : Ac.tmps[52]? = some (vs 52) := hv 52 (by decide)
                    rw [e5] at a52
                    refine step_free rfl rfl (fun K' hK => ?_)
                    clear hv hdep
                    go_simp
                    exact hK _ _ ⟨_, .inr ⟨53, _, by decide, rfl, rfl⟩, hJ.step hst hsl 6 _ rfl (fun h => absurd h (by decide)) (Below.refl _ _) _ (⟨_, rfl, hl⟩)⟩
                  · have e6 : isLp ⟨#[41]⟩ ⟨#[93]⟩ ⟨#[125]⟩ k (vs 53) V := hJ.val 6 _ rfl (hdep 6 (by decide))
                    have a53 : Ac.tmps[53]? = some (vs 53) := hv 53 (by decide)
                    obtain ⟨lb, e6, hl⟩ := e6
                    rw [e6] at a53
                    refine step_free rfl rfl (fun K' hK => ?_)
                    clear hv hdep
                    have hc := lit_close hk3 hl
                    go_simp
                    exact hK _ _ ⟨_, .inr ⟨54, _, by decide, rfl, rfl⟩, hJ.step hst hsl 7 _ rfl (fun h => absurd h (by decide)) (Below.refl _ _) _ (rfl)⟩
                  · have e3 : vs 50 = .agg #[.int .i64 t.kind, .string (bs t.txt), .int .i64 t.val.kind, .slice sa t.val.shape.length sc, .slice ea t.val.elems.length ec] := hJ.val 3 _ rfl (hdep 3 (by decide))
                    have a50 : Ac.tmps[50]? = some (vs 50) := hv 50 (by decide)
                    rw [e3] at a50
                    have e7 : vs 54 = .string (bs (cG k)) := hJ.val 7 _ rfl (hdep 7 (by decide))
                    have a54 : Ac.tmps[54]? = some (vs 54) := hv 54 (by decide)
                    rw [e7] at a54
                    refine step_free rfl rfl (fun K' hK => ?_)
                    clear hv hdep
                    go_simp
                    go_at_call 38
                    refine (ris_any t _ _ (cG k) _ rfl V).mono ?_
                    rintro e W ⟨rfl, b⟩
                    exact hK _ _ ⟨_, .inr ⟨55, _, by decide, rfl, rfl⟩, hJ.step hst hsl 8 _ rfl (fun h => absurd h (by decide)) b _ (rfl)⟩
                · intro d0 vs V hall hJ
                  have h2 : vs 55 = .bool (isG t (cG k)) := hJ.val 8 _ rfl (hall 8 (show 8 < 9 by decide))
                  have hBV := hJ.gr
                  clear hall hJ hst hsl
                  simp only [puts, List.foldl_cons, List.foldl_nil, Act.put, List.setIfInBounds_toArray, List.set_cons_zero, List.set_cons_succ, Nat.reduceAdd]
                  rw [h2]
                  clear h2
                  generalize vs 47 = y47
                  generalize vs 48 = y48
                  generalize vs 49 = y49
                  generalize vs 50 = y50
                  generalize vs 51 = y51
                  generalize vs 52 = y52
                  generalize vs 53 = y53
                  generalize vs 54 = y54
                  rw [hb2]
                  have hrow5 := owns_below hown' hBV
                  have hA5 := (hBV.block w.heap.size (by omega)).trans hA4
                  have hB5 := hB4.trans (hBV.mono hB4.size)
                  have hwz5 : w1.heap.size ≤ V.heap.size := Nat.le_trans hwz4 hBV.size
                  clear hown' hA4 hB4 hwz4 hTV3 hBV
                  go_wp2_with fail
                  go_roundw
                  case rel => exact ⟨k + 1, d', i :: os', A', by omega, by go_num, rfl, by omega, by simp only [List.length_cons]; omega, by simpa using hrow5, hB5, hwz5, hA5, hid ⟨HL.out, HP.out⟩⟩
                  case measure => simp [intOf]; omega
            | false =>
              go_upto_region 15 with fail
              have hsl := slA_inj (b := 47) (l := 0) (n := 1000) (by decide)
              have hst : ∀ qq ∈ [isV (.slice (some ⟨bb, bo, none⟩) T.length c), isV (.int .i64 (i : Int)), isV (.pointer (some ⟨bb, bo + i * 5, none⟩)), isV (.agg #[.int .i64 t.kind, .string (bs t.txt), .int .i64 t.val.kind, .slice sa t.val.shape.length sc, .slice ea t.val.elems.length ec]), isL ⟨#[41]⟩ ⟨#[93]⟩ ⟨#[125]⟩, isV (.int .i64 (k : Int)), isLp ⟨#[41]⟩ ⟨#[93]⟩ ⟨#[125]⟩ k, isV (.string (bs (cG k))), isV (.bool (isG t (cG k)))], Steady qq := steady_cons (steadyV _) (steady_cons (steadyV _) (steady_cons (steadyV _) (steady_cons (steadyV _) (steady_cons (steadyL _ _ _) (steady_cons (steadyV _) (steady_cons (steadyLp _ _ _ _) (steady_cons (steadyV _) (steady_cons (steadyV _) (steady_nil)))))))))
              refine region_vals [47, 48, 49, 50, 51, 52, 53, 54, 55] (by decide) _ (RP V 1000 undef (slA 47 0 1000) [isV (.slice (some ⟨bb, bo, none⟩) T.length c), isV (.int .i64 (i : Int)), isV (.pointer (some ⟨bb, bo + i * 5, none⟩)), isV (.agg #[.int .i64 t.kind, .string (bs t.txt), .int .i64 t.val.kind, .slice sa t.val.shape.length sc, .slice ea t.val.elems.length ec]), isL ⟨#[41]⟩ ⟨#[93]⟩ ⟨#[125]⟩, isV (.int .i64 (k : Int)), isLp ⟨#[41]⟩ ⟨#[93]⟩ ⟨#[125]⟩ k, isV (.string (bs (cG k))), isV (.bool (isG t (cG k)))]) (fun k => if k = 47 then u47 else if k = 48 then u48 else if k = 49 then u49 else if k = 50 then u50 else if k = 51 then u51 else if k = 52 then u52 else if k = 53 then u53 else if k = 54 then u54 else if k = 55 then u55 else undef) (by kernel_rfl) (by kernel_rfl) rfl (by kernel_rfl) (by kernel_rfl) (RP.start rfl) ?_ ?_
              · intro ii hi d0 vs V2 Ac hfar hv hd hdep hJ
                have hi2 : ii < 9 := hi
                have hgr := hJ.gr
                have p0 : Ac.tmps[0]? = some (.slice (some ⟨bb, bo, none⟩) T.length c) := (hfar 0 (by decide)).trans rfl
                have p8 : Ac.tmps[8]? = some (.int .i64 (i : Int)) := (hfar 8 (by decide)).trans rfl
                have p9 : Ac.tmps[9]? = some (.int .i64 (k : Int)) := (hfar 9 (by decide)).trans rfl
                clear hfar hi hd
                rcases (by omega : ii = 0 ∨ ii = 1 ∨ ii = 2 ∨ ii = 3 ∨ ii = 4 ∨ ii = 5 ∨ ii = 6 ∨ ii = 7 ∨ ii = 8) with rfl | rfl | rfl | rfl | rfl | rfl | rfl | rfl | rfl
                · refine step_free rfl rfl (fun K' hK => ?_)
                  clear hv hdep
                  go_simp
                  exact hK _ _ ⟨_, .inr ⟨47, _, by decide, rfl, rfl⟩, hJ.step hst hsl 0 _ rfl (fun h => absurd h (by decide)) (Below.refl _ _) _ (rfl)⟩
                · refine step_free rfl rfl (fun K' hK => ?_)
                  clear hv hdep
                  go_simp
                  exact hK _ _ ⟨_, .inr ⟨48, _, by decide, rfl, rfl⟩, hJ.step hst hsl 1 _ rfl (fun h => absurd h (by decide)) (Below.refl _ _) _ (rfl)⟩
                · have e0 : vs 47 = .slice (some ⟨bb, bo, none⟩) T.length c := hJ.val 0 _ rfl (hdep 0 (by decide))
                  have a47 : Ac.tmps[47]? = some (vs 47) := hv 47 (by decide)
                  rw [e0] at a47
                  have e1 : vs 48 = .int .i64 (i : Int) := hJ.val 1 _ rfl (hdep 1 (by decide))
                  have a48 : Ac.tmps[48]? = some (vs 48) := hv 48 (by decide)
                  rw [e1] at a48
                  refine step_free rfl rfl (fun K' hK => ?_)
                  clear hv hdep
                  go_simp
                  exact hK _ _ ⟨_, .inr ⟨49, _, by decide, rfl, rfl⟩, hJ.step hst hsl 2 _ rfl (fun h => absurd h (by decide)) (Below.refl _ _) _ (rfl)⟩
                · have e2 : vs 49 = .pointer (some ⟨bb, bo + i * 5, none⟩) := hJ.val 2 _ rfl (hdep 2 (by decide))
                  have a49 : Ac.tmps[49]? = some (vs 49) := hv 49 (by decide)
                  rw [e2] at a49
                  refine step_free rfl rfl (fun K' hK => ?_)
                  clear hv hdep
                  obtain ⟨g0, g1, g2, g3, g4⟩ := hTV V2 hgr
                  go_simp
                  exact hK _ _ ⟨_, .inr ⟨50, _, by decide, rfl, rfl⟩, hJ.step hst hsl 3 _ rfl (fun h => absurd h (by decide)) (Below.refl _ _) _ (rfl)⟩
                · refine step_free rfl rfl (fun K' hK => ?_)
                  clear hv hdep
                  go_simp
                  exact hK _ _ ⟨_, .inr ⟨51, _, by decide, rfl, rfl⟩, hJ.step hst hsl 4 _ rfl (fun h => absurd h (by decide)) ((Below.refl _ _).alloc (Nat.le_refl _) _) _ (⟨_, rfl, heap_alloc_new V2 _⟩)⟩
                · refine step_free rfl rfl (fun K' hK => ?_)
                  clear hv hdep
                  go_simp
                  exact hK _ _ ⟨_, .inr ⟨52, _, by decide, rfl, rfl⟩, hJ.step hst hsl 5 _ rfl (fun h => absurd h (by decide)) (Below.refl _ _) _ (rfl)⟩
                · have e4 : isL ⟨#[41]⟩ ⟨#[93]⟩ ⟨#[125]⟩ (vs 51) V2 := hJ.val 4 _ rfl (hdep 4 (by decide))
                  have a51 : Ac.tmps[51]? = some (vs 51) := hv 51 (by decide)
                  obtain ⟨lb, e4, hl⟩ := e4
                  rw [e4] at a51
                  have e5 : vs 52 = .int .i64 (k : Int) := hJ.val 5 _ rfl (hdep 5 (by decide))
                  have a52 : Ac.tmps[52]? = some (vs 52) := hv 52 (by decide)
                  rw [e5] at a52
                  refine step_free rfl rfl (fun K' hK => ?_)
                  clear hv hdep
                  go_simp
                  exact hK _ _ ⟨_, .inr ⟨53, _, by decide, rfl, rfl⟩, hJ.step hst hsl 6 _ rfl (fun h => absurd h (by decide)) (Below.refl _ _) _ (⟨_, rfl, hl⟩)⟩
                · have e6 : isLp ⟨#[41]⟩ ⟨#[93]⟩ ⟨#[125]⟩ k (vs 53) V2 := hJ.val 6 _ rfl (hdep 6 (by decide))
                  have a53 : Ac.tmps[53]? = some (vs 53) := hv 53 (by decide)
                  obtain ⟨lb, e6, hl⟩ := e6
                  rw [e6] at a53
                  refine step_free rfl rfl (fun K' hK => ?_)
                  clear hv hdep
                  have hc := lit_close hk3 hl
                  go_simp
                  exact hK _ _ ⟨_, .inr ⟨54, _, by decide, rfl, rfl⟩, hJ.step hst hsl 7 _ rfl (fun h => absurd h (by decide)) (Below.refl _ _) _ (rfl)⟩
                · have e3 : vs 50 = .agg #[.int .i64 t.kind, .string (bs t.txt), .int .i64 t.val.kind, .slice sa t.val.shape.length sc, .slice ea t.val.elems.length ec] := hJ.val 3 _ rfl (hdep 3 (by decide))
                  have a50 : Ac.tmps[50]? = some (vs 50) := hv 50 (by decide)
                  rw [e3] at a50
                  have e7 : vs 54 = .string (bs (cG k)) := hJ.val 7 _ rfl (hdep 7 (by decide))
                  have a54 : Ac.tmps[54]? = some (vs 54) := hv 54 (by decide)
                  rw [e7] at a54
                  refine step_free rfl rfl (fun K' hK => ?_)
                  clear hv hdep
                  go_simp
                  go_at_call 38
                  refine (ris_any t _ _ (cG k) _ rfl V2).mono ?_
                  rintro e W ⟨rfl, b⟩
                  exact hK _ _ ⟨_, .inr ⟨55, _, by decide, rfl, rfl⟩, hJ.step hst hsl 8 _ rfl (fun h => absurd h (by decide)) b _ (rfl)⟩
              · intro d0 vs V2 hall hJ
                have h2 : vs 55 = .bool (isG t (cG k)) := hJ.val 8 _ rfl (hall 8 (show 8 < 9 by decide))
                have hBV := hJ.gr
                clear hall hJ hst hsl
                simp only [puts, List.foldl_cons, List.foldl_nil, Act.put, List.setIfInBounds_toArray, List.set_cons_zero, List.set_cons_succ, Nat.reduceAdd]
                rw [h2]
                clear h2
                generalize vs 47 = y47
                generalize vs 48 = y48
                generalize vs 49 = y49
                generalize vs 50 = y50
                generalize vs 51 = y51
                generalize vs 52 = y52
                generalize vs 53 = y53
                generalize vs 54 = y54
                have hrow4 := owns_below hrow3 hBV
                have hA4 := (hBV.block w.heap.size (by omega)).trans hA3
                have hB4 := hB3.trans (hBV.mono hB3.size)
                have hwz4 : w1.heap.size ≤ V2.heap.size := Nat.le_trans hwz3 hBV.size
                clear hrow3 hA3 hB3 hwz3 hTV hBV
                cases hb2 : isG t (cG k) with
                | false =>
                  have HP := hid (HM.out.2.next (brk_neither hk3 hb1 hb2))
                  have HL := hid HM.out.1
                  clear HM hb1 hb2
                  go_wp2_with fail
                  go_roundw
                  case rel => exact ⟨k + 1, d', os', A', by omega, by go_num, rfl, hd'i, hos'i, hrow4, hB4, hwz4, hA4, hid ⟨HL.out, HP.out⟩⟩
                  case measure => simp [intOf]; omega
                | true =>
                  clear hb1
                  cases os' with
                  | nil =>
                    have HP := hid (HM.out.2.bad0 hk3 hb2 Ht.out HI.out.2.2)
                    clear HM hb2
                    rw [List.length_nil] at *
                    go_upto_region 17 with fail
                    go_quiet (fail)
                    go_wp2
                    go_ret3
                    exact ⟨.inr ⟨_, _, _, _, rfl, HP.out⟩, below_drewN hB4 _⟩
                  | cons o r =>
                    obtain ⟨hoi, u, hu, hwu⟩ := HM.out.2.top hk3 hb2 HI.out.2.1
                    obtain ⟨bb', bo', usa, usc, uea, uec, equ, ⟨g0, g1, g2, g3, g4⟩, -, -, -⟩ := tok_get hT hu
                    simp only [Option.some.injEq, Addr.mk.injEq, and_true] at equ
                    obtain ⟨rfl, rfl⟩ := equ
                    have hTu : ∀ W, Below V2.heap.size V2 W → TokAt W bb (bo + o * 5) u (.slice usa u.val.shape.length usc) (.slice uea u.val.elems.length uec) := fun W hW => by
                      have hV := hB4.trans (hW.mono hB4.size)
                      exact ⟨(hV.cell (World.block_lt_of_cell? w _ g0)).trans g0, (hV.cell (World.block_lt_of_cell? w _ g1)).trans g1, (hV.cell (World.block_lt_of_cell? w _ g2)).trans g2, (hV.cell (World.block_lt_of_cell? w _ g3)).trans g3, (hV.cell (World.block_lt_of_cell? w _ g4)).trans g4⟩
                    clear g0 g1 g2 g3 g4
                    have hoT : (o : Int) < (T.length : Int) := by omega
                    have hio := Ints.of_owns (xs := ((o :: r).reverse.map fun n : Nat => (n : Int))) (by rw [List.length_map, List.length_reverse, List.map_map]; exact hrow4)
                    obtain ⟨gb, go, rfl, hcx⟩ := hio.cell r.length (by simp)
                    have hcv : (r.length : Int) ≤ (cv : Int) := by
                      obtain ⟨a', c', e', q1, -⟩ := hio
                      simp only [Value.slice.injEq] at e'
                      obtain ⟨-, -, rfl⟩ := e'
                      simp at q1; omega
                    have hget : (((o :: r).reverse.map fun n : Nat => (n : Int)))[r.length]?.getD 0 = (o : Int) := by simp
                    rw [hget] at hcx
                    have hgb : w1.heap.size ≤ gb := (hrow4.lt _ rfl).1
                    clear hio hget
                    have hOp : ∀ W, Below V2.heap.size V2 W → W.cell? ⟨gb, go + r.length, none⟩ = some (.int .i64 (o : Int)) := fun W hW => (hW.cell (World.block_lt_of_cell? V2 _ hcx)).trans hcx
                    simp only [List.length_cons] at hos'i hrow4 ⊢
                    have hn0 : (0 : Int) ≤ (r.length : Int) := by omega
                    have hn1 : IntKind.i64.wrap (((r.length + 1 : Nat) : Int) - 1) = (r.length : Int) := by rw [show ((r.length + 1 : Nat) : Int) - 1 = (r.length : Int) by omega]; exact IntWalk.i64_in _ (by omega)
                    have hn3 : IntKind.i64.wrap ((r.length : Int) + 1 - 1) = (r.length : Int) := by rw [show (r.length : Int) + 1 - 1 = (r.length : Int) by omega]; exact IntWalk.i64_in _ (by omega)
                    have hsl : (r.length : Int) < ((r.length + 1 : Nat) : Int) := by omega
                    have hn4 : ¬ (r.length : Int) < 0 := by omega
                    have hn5 : (r.length : Int) < (r.length : Int) + 1 := by omega
                    have Hcut := hid (owns_cut hrow4 (m := r.length) (by simp))
                    have hL2 : A'.length = T.length := HM.out.1
                    obtain ⟨j1, hj1⟩ : ∃ j, A'[i]? = some j := ⟨_, List.getElem?_eq_getElem (by omega)⟩
                    obtain ⟨j2, hj2⟩ : ∃ j, (A'.set i o)[o]? = some j := ⟨_, List.getElem?_eq_getElem (by rw [List.length_set]; omega)⟩
                    have Hj := hid (And.intro hj1 hj2)
                    clear hj1 hj2 hcx hL2
                    go_upto_region 17 with fail
                    have hsl := slA_inj (b := 59) (l := 0) (n := 1000) (by decide)
                    have hst : ∀ qq ∈ [isV (.int .i64 (r.length : Int)), isV (.bool false), isV (.bool false), isV (.slice (some ⟨bb, bo, none⟩) T.length c), isV (.slice (some ⟨gb, go, none⟩) (r.length + 1) cv), isV (.int .i64 (r.length : Int)), isV (.pointer (some ⟨gb, go + r.length, none⟩)), isV (.int .i64 (o : Int)), isV (.pointer (some ⟨bb, bo + o * 5, none⟩)), isV (.agg #[.int .i64 u.kind, .string (bs u.txt), .int .i64 u.val.kind, .slice usa u.val.shape.length usc, .slice uea u.val.elems.length uec]), isL ⟨#[40]⟩ ⟨#[91]⟩ ⟨#[123]⟩, isV (.int .i64 (k : Int)), isLp ⟨#[40]⟩ ⟨#[91]⟩ ⟨#[123]⟩ k, isV (.string (bs (oG k))), isV (.bool (isG u (oG k))), isV (.bool (!(isG u (oG k)))), isV (.bool (!(isG u (oG k))))], Steady qq := steady_cons (steadyV _) (steady_cons (steadyV _) (steady_cons (steadyV _) (steady_cons (steadyV _) (steady_cons (steadyV _) (steady_cons (steadyV _) (steady_cons (steadyV _) (steady_cons (steadyV _) (steady_cons (steadyV _) (steady_cons (steadyV _) (steady_cons (steadyL _ _ _) (steady_cons (steadyV _) (steady_cons (steadyLp _ _ _ _) (steady_cons (steadyV _) (steady_cons (steadyV _) (steady_cons (steadyV _) (steady_cons (steadyV _) (steady_nil)))))))))))))))))
                    refine region_vals [59, 60, 61, 62, 63, 64, 65, 66, 67, 68, 69, 70, 71, 72, 73, 74, 75] (by decide) _ (RP V2 1000 undef (slA 59 0 1000) [isV (.int .i64 (r.length : Int)), isV (.bool false), isV (.bool false), isV (.slice (some ⟨bb, bo, none⟩) T.length c), isV (.slice (some ⟨gb, go, none⟩) (r.length + 1) cv), isV (.int .i64 (r.length : Int)), isV (.pointer (some ⟨gb, go + r.length, none⟩)), isV (.int .i64 (o : Int)), isV (.pointer (some ⟨bb, bo + o * 5, none⟩)), isV (.agg #[.int .i64 u.kind, .string (bs u.txt), .int .i64 u.val.kind, .slice usa u.val.shape.length usc, .slice uea u.val.elems.length uec]), isL ⟨#[40]⟩ ⟨#[91]⟩ ⟨#[123]⟩, isV (.int .i64 (k : Int)), isLp ⟨#[40]⟩ ⟨#[91]⟩ ⟨#[123]⟩ k, isV (.string (bs (oG k))), isV (.bool (isG u (oG k))), isV (.bool (!(isG u (oG k)))), isV (.bool (!(isG u (oG k))))]) (fun k => if k = 59 then u59 else if k = 60 then u60 else if k = 61 then u61 else if k = 62 then u62 else if k = 63 then u63 else if k = 64 then u64 else if k = 65 then u65 else if k = 66 then u66 else if k = 67 then u67 else if k = 68 then u68 else if k = 69 then u69 else if k = 70 then u70 else if k = 71 then u71 else if k = 72 then u72 else if k = 73 then u73 else if k = 74 then u74 else if k = 75 then u75 else undef) (by kernel_rfl) (by kernel_rfl) rfl (by kernel_rfl) (by kernel_rfl) (RP.start rfl) ?_ ?_
                    · intro ii hi d0 vs V Ac hfar hv hd hdep hJ
                      have hi2 : ii < 17 := hi
                      have hgr := hJ.gr
                      have p0 : Ac.tmps[0]? = some (.slice (some ⟨bb, bo, none⟩) T.length c) := (hfar 0 (by decide)).trans rfl
                      have p6 : Ac.tmps[6]? = some (.slice (some ⟨gb, go, none⟩) (r.length + 1) cv) := (hfar 6 (by decide)).trans rfl
                      have p9 : Ac.tmps[9]? = some (.int .i64 (k : Int)) := (hfar 9 (by decide)).trans rfl
                      have p10 : Ac.tmps[10]? = some (.int .i64 (r.length : Int)) := (hfar 10 (by decide)).trans rfl
                      clear hfar hi hd
                      rcases (by omega : ii = 0 ∨ ii = 1 ∨ ii = 2 ∨ ii = 3 ∨ ii = 4 ∨ ii = 5 ∨ ii = 6 ∨ ii = 7 ∨ ii = 8 ∨ ii = 9 ∨ ii = 10 ∨ ii = 11 ∨ ii = 12 ∨ ii = 13 ∨ ii = 14 ∨ ii = 15 ∨ ii = 16) with rfl | rfl | rfl | rfl | rfl | rfl | rfl | rfl | rfl | rfl | rfl | rfl | rfl | rfl | rfl | rfl | rfl
                      · refine step_free rfl rfl (fun K' hK => ?_)
                        clear hv hdep
                        go_simp
                        exact hK _ _ ⟨_, .inr ⟨59, _, by decide, rfl, rfl⟩, hJ.step hst hsl 0 _ rfl (fun h => absurd h (by decide)) (Below.refl _ _) _ (rfl)⟩
                      · have e0 : vs 59 = .int .i64 (r.length : Int) := hJ.val 0 _ rfl (hdep 0 (by decide))
                        have a59 : Ac.tmps[59]? = some (vs 59) := hv 59 (by decide)
                        rw [e0] at a59
                        refine step_free rfl rfl (fun K' hK => ?_)
                        clear hv hdep
                        go_simp
                        exact hK _ _ ⟨_, .inr ⟨60, _, by decide, rfl, rfl⟩, hJ.step hst hsl 1 _ rfl (fun h => absurd h (by decide)) (Below.refl _ _) _ (rfl)⟩
                      · have e1 : vs 60 = .bool false := hJ.val 1 _ rfl (hdep 1 (by decide))
                        have a60 : Ac.tmps[60]? = some (vs 60) := hv 60 (by decide)
                        rw [e1] at a60
                        refine step_free rfl rfl (fun K' hK => ?_)
                        clear hv hdep
                        go_simp
                        exact hK _ _ ⟨_, .inr ⟨61, _, by decide, rfl, rfl⟩, hJ.step hst hsl 2 _ rfl (fun h => absurd h (by decide)) (Below.refl _ _) _ (rfl)⟩
                      · have e2 : vs 61 = .bool false := hJ.val 2 _ rfl (hdep 2 (by decide))
                        have a61 : Ac.tmps[61]? = some (vs 61) := hv 61 (by decide)
                        rw [e2] at a61
                        refine step_guard rfl rfl rfl a61 (fun K' hK => ?_)
                        clear hv hdep
                        go_simp
                        exact hK _ _ ⟨_, .inr ⟨62, _, by decide, rfl, rfl⟩, hJ.step hst hsl 3 _ rfl (fun h => absurd h (by decide)) (Below.refl _ _) _ (rfl)⟩
                      · have e2 : vs 61 = .bool false := hJ.val 2 _ rfl (hdep 2 (by decide))
                        have a61 : Ac.tmps[61]? = some (vs 61) := hv 61 (by decide)
                        rw [e2] at a61
                        refine step_guard rfl rfl rfl a61 (fun K' hK => ?_)
                        clear hv hdep
                        go_simp
                        exact hK _ _ ⟨_, .inr ⟨63, _, by decide, rfl, rfl⟩, hJ.step hst hsl 4 _ rfl (fun h => absurd h (by decide)) (Below.refl _ _) _ (rfl)⟩
                      · have e2 : vs 61 = .bool false := hJ.val 2 _ rfl (hdep 2 (by decide))
                        have a61 : Ac.tmps[61]? = some (vs 61) := hv 61 (by decide)
                        rw [e2] at a61
                        refine step_guard rfl rfl rfl a61 (fun K' hK => ?_)
                        clear hv hdep
                        go_simp
                        exact hK _ _ ⟨_, .inr ⟨64, _, by decide, rfl, rfl⟩, hJ.step hst hsl 5 _ rfl (fun h => absurd h (by decide)) (Below.refl _ _) _ (rfl)⟩
                      · have e4 : vs 63 = .slice (some ⟨gb, go, none⟩) (r.length + 1) cv := hJ.val 4 _ rfl (hdep 4 (by decide))
                        have a63 : Ac.tmps[63]? = some (vs 63) := hv 63 (by decide)
                        rw [e4] at a63
                        have e5 : vs 64 = .int .i64 (r.length : Int) := hJ.val 5 _ rfl (hdep 5 (by decide))
                        have a64 : Ac.tmps[64]? = some (vs 64) := hv 64 (by decide)
                        rw [e5] at a64
                        have e2 : vs 61 = .bool false := hJ.val 2 _ rfl (hdep 2 (by decide))
                        have a61 : Ac.tmps[61]? = some (vs 61) := hv 61 (by decide)
                        rw [e2] at a61
                        refine step_guard rfl rfl rfl a61 (fun K' hK => ?_)
                        clear hv hdep
                        go_simp
                        exact hK _ _ ⟨_, .inr ⟨65, _, by decide, rfl, rfl⟩, hJ.step hst hsl 6 _ rfl (fun h => absurd h (by decide)) (Below.refl _ _) _ (rfl)⟩
                      · have e6 : vs 65 = .pointer (some ⟨gb, go + r.length, none⟩) := hJ.val 6 _ rfl (hdep 6 (by decide))
                        have a65 : Ac.tmps[65]? = some (vs 65) := hv 65 (by decide)
                        rw [e6] at a65
                        have e2 : vs 61 = .bool false := hJ.val 2 _ rfl (hdep 2 (by decide))
                        have a61 : Ac.tmps[61]? = some (vs 61) := hv 61 (by decide)
                        rw [e2] at a61
                        refine step_guard rfl rfl rfl a61 (fun K' hK => ?_)
                        clear hv hdep
                        have hc := hOp V hgr
                        go_simp
                        exact hK _ _ ⟨_, .inr ⟨66, _, by decide, rfl, rfl⟩, hJ.step hst hsl 7 _ rfl (fun h => absurd h (by decide)) (Below.refl _ _) _ (rfl)⟩
                      · have e3 : vs 62 = .slice (some ⟨bb, bo, none⟩) T.length c := hJ.val 3 _ rfl (hdep 3 (by decide))
                        have a62 : Ac.tmps[62]? = some (vs 62) := hv 62 (by decide)
                        rw [e3] at a62
                        have e7 : vs 66 = .int .i64 (o : Int) := hJ.val 7 _ rfl (hdep 7 (by decide))
                        have a66 : Ac.tmps[66]? = some (vs 66) := hv 66 (by decide)
                        rw [e7] at a66
                        have e2 : vs 61 = .bool false := hJ.val 2 _ rfl (hdep 2 (by decide))
                        have a61 : Ac.tmps[61]? = some (vs 61) := hv 61 (by decide)
                        rw [e2] at a61
                        refine step_guard rfl rfl rfl a61 (fun K' hK => ?_)
                        clear hv hdep
                        go_simp
                        exact hK _ _ ⟨_, .inr ⟨67, _, by decide, rfl, rfl⟩, hJ.step hst hsl 8 _ rfl (fun h => absurd h (by decide)) (Below.refl _ _) _ (rfl)⟩
                      · have e8 : vs 67 = .pointer (some ⟨bb, bo + o * 5, none⟩) := hJ.val 8 _ rfl (hdep 8 (by decide))
                        have a67 : Ac.tmps[67]? = some (vs 67) := hv 67 (by decide)
                        rw [e8] at a67
                        have e2 : vs 61 = .bool false := hJ.val 2 _ rfl (hdep 2 (by decide))
                        have a61 : Ac.tmps[61]? = some (vs 61) := hv 61 (by decide)
                        rw [e2] at a61
                        refine step_guard rfl rfl rfl a61 (fun K' hK => ?_)
                        clear hv hdep
                        obtain ⟨g0, g1, g2, g3, g4⟩ := hTu V hgr
                        go_simp
                        exact hK _ _ ⟨_, .inr ⟨68, _, by decide, rfl, rfl⟩, hJ.step hst hsl 9 _ rfl (fun h => absurd h (by decide)) (Below.refl _ _) _ (rfl)⟩
                      · have e2 : vs 61 = .bool false := hJ.val 2 _ rfl (hdep 2 (by decide))
                        have a61 : Ac.tmps[61]? = some (vs 61) := hv 61 (by decide)
                        rw [e2] at a61
                        refine step_guard rfl rfl rfl a61 (fun K' hK => ?_)
                        clear hv hdep
                        go_simp
                        exact hK _ _ ⟨_, .inr ⟨69, _, by decide, rfl, rfl⟩, hJ.step hst hsl 10 _ rfl (fun h => absurd h (by decide)) ((Below.refl _ _).alloc (Nat.le_refl _) _) _ (⟨_, rfl, heap_alloc_new V _⟩)⟩
                      · have e2 : vs 61 = .bool false := hJ.val 2 _ rfl (hdep 2 (by decide))
                        have a61 : Ac.tmps[61]? = some (vs 61) := hv 61 (by decide)
                        rw [e2] at a61
                        refine step_guard rfl rfl rfl a61 (fun K' hK => ?_)
                        clear hv hdep
                        go_simp
                        exact hK _ _ ⟨_, .inr ⟨70, _, by decide, rfl, rfl⟩, hJ.step hst hsl 11 _ rfl (fun h => absurd h (by decide)) (Below.refl _ _) _ (rfl)⟩
                      · have e10 : isL ⟨#[40]⟩ ⟨#[91]⟩ ⟨#[123]⟩ (vs 69) V := hJ.val 10 _ rfl (hdep 10 (by decide))
                        have a69 : Ac.tmps[69]? = some (vs 69) := hv 69 (by decide)
                        obtain ⟨lb, e10, hl⟩ := e10
                        rw [e10] at a69
                        have e11 : vs 70 = .int .i64 (k : Int) := hJ.val 11 _ rfl (hdep 11 (by decide))
                        have a70 : Ac.tmps[70]? = some (vs 70) := hv 70 (by decide)
                        rw [e11] at a70
                        have e2 : vs 61 = .bool false := hJ.val 2 _ rfl (hdep 2 (by decide))
                        have a61 : Ac.tmps[61]? = some (vs 61) := hv 61 (by decide)
                        rw [e2] at a61
                        refine step_guard rfl rfl rfl a61 (fun K' hK => ?_)
                        clear hv hdep
                        go_simp
                        exact hK _ _ ⟨_, .inr ⟨71, _, by decide, rfl, rfl⟩, hJ.step hst hsl 12 _ rfl (fun h => absurd h (by decide)) (Below.refl _ _) _ (⟨_, rfl, hl⟩)⟩
                      · have e12 : isLp ⟨#[40]⟩ ⟨#[91]⟩ ⟨#[123]⟩ k (vs 71) V := hJ.val 12 _ rfl (hdep 12 (by decide))
                        have a71 : Ac.tmps[71]? = some (vs 71) := hv 71 (by decide)
                        obtain ⟨lb, e12, hl⟩ := e12
                        rw [e12] at a71
                        have e2 : vs 61 = .bool false := hJ.val 2 _ rfl (hdep 2 (by decide))
                        have a61 : Ac.tmps[61]? = some (vs 61) := hv 61 (by decide)
                        rw [e2] at a61
                        refine step_guard rfl rfl rfl a61 (fun K' hK => ?_)
                        clear hv hdep
                        have hc := lit_open hk3 hl
                        go_simp
                        exact hK _ _ ⟨_, .inr ⟨72, _, by decide, rfl, rfl⟩, hJ.step hst hsl 13 _ rfl (fun h => absurd h (by decide)) (Below.refl _ _) _ (rfl)⟩
                      · have e9 : vs 68 = .agg #[.int .i64 u.kind, .string (bs u.txt), .int .i64 u.val.kind, .slice usa u.val.shape.length usc, .slice uea u.val.elems.length uec] := hJ.val 9 _ rfl (hdep 9 (by decide))
                        have a68 : Ac.tmps[68]? = some (vs 68) := hv 68 (by decide)
                        rw [e9] at a68
                        have e13 : vs 72 = .string (bs (oG k)) := hJ.val 13 _ rfl (hdep 13 (by decide))
                        have a72 : Ac.tmps[72]? = some (vs 72) := hv 72 (by decide)
                        rw [e13] at a72
                        have e2 : vs 61 = .bool false := hJ.val 2 _ rfl (hdep 2 (by decide))
                        have a61 : Ac.tmps[61]? = some (vs 61) := hv 61 (by decide)
                        rw [e2] at a61
                        refine step_guard rfl rfl rfl a61 (fun K' hK => ?_)
                        clear hv hdep
                        go_simp
                        go_at_call 38
                        refine (ris_any u _ _ (oG k) _ rfl V).mono ?_
                        rintro e W ⟨rfl, b⟩
                        exact hK _ _ ⟨_, .inr ⟨73, _, by decide, rfl, rfl⟩, hJ.step hst hsl 14 _ rfl (fun h => absurd h (by decide)) b _ (rfl)⟩
                      · have e14 : vs 73 = .bool (isG u (oG k)) := hJ.val 14 _ rfl (hdep 14 (by decide))
                        have a73 : Ac.tmps[73]? = some (vs 73) := hv 73 (by decide)
                        rw [e14] at a73
                        have e2 : vs 61 = .bool false := hJ.val 2 _ rfl (hdep 2 (by decide))
                        have a61 : Ac.tmps[61]? = some (vs 61) := hv 61 (by decide)
                        rw [e2] at a61
                        refine step_guard rfl rfl rfl a61 (fun K' hK => ?_)
                        clear hv hdep
                        go_simp
                        exact hK _ _ ⟨_, .inr ⟨74, _, by decide, rfl, rfl⟩, hJ.step hst hsl 15 _ rfl (fun h => absurd h (by decide)) (Below.refl _ _) _ (rfl)⟩
                      · have e2 : vs 61 = .bool false := hJ.val 2 _ rfl (hdep 2 (by decide))
                        have a61 : Ac.tmps[61]? = some (vs 61) := hv 61 (by decide)
                        rw [e2] at a61
                        have e15 : vs 74 = .bool (!(isG u (oG k))) := hJ.val 15 _ rfl (hdep 15 (by decide))
                        have a74 : Ac.tmps[74]? = some (vs 74) := hv 74 (by decide)
                        rw [e15] at a74
                        refine step_free rfl rfl (fun K' hK => ?_)
                        clear hv hdep
                        go_simp
                        exact hK _ _ ⟨_, .inr ⟨75, _, by decide, rfl, rfl⟩, hJ.step hst hsl 16 _ rfl (fun h => absurd h (by decide)) (Below.refl _ _) _ (rfl)⟩
                    · intro d0 vs V hall hJ
                      have h2 : vs 75 = .bool (!(isG u (oG k))) := hJ.val 16 _ rfl (hall 16 (show 16 < 17 by decide))
                      have hBV := hJ.gr
                      clear hall hJ hst hsl
                      simp only [puts, List.foldl_cons, List.foldl_nil, Act.put, List.setIfInBounds_toArray, List.set_cons_zero, List.set_cons_succ, Nat.reduceAdd]
                      rw [h2]
                      clear h2
                      generalize vs 59 = y59
                      generalize vs 60 = y60
                      generalize vs 61 = y61
                      generalize vs 62 = y62
                      generalize vs 63 = y63
                      generalize vs 64 = y64
                      generalize vs 65 = y65
                      generalize vs 66 = y66
                      generalize vs 67 = y67
                      generalize vs 68 = y68
                      generalize vs 69 = y69
                      generalize vs 70 = y70
                      generalize vs 71 = y71
                      generalize vs 72 = y72
                      generalize vs 73 = y73
                      generalize vs 74 = y74
                      have hrow5 := owns_below Hcut.out hBV
                      have hA5 := (hBV.block w.heap.size (by omega)).trans hA4
                      have hB5 := hB4.trans (hBV.mono hB4.size)
                      have hwz5 : w1.heap.size ≤ V.heap.size := Nat.le_trans hwz4 hBV.size
                      have hcx := hOp V hBV
                      clear Hcut hA4 hB4 hwz4 hOp hTu hrow4 hBV
                      cases hb3 : isG u (oG k) with
                      | false =>
                        have HP := hid (HM.out.2.bad1 hk3 hb2 Ht.out hu hwu hb3 HI.out.2.2)
                        clear HM hb2 hb3 hu
                        rw [Bool.not_false]
                        go_wp2_with fail
                        go_ret3
                        exact ⟨.inr ⟨_, _, _, _, rfl, HP.out⟩, hB5⟩
                      | true =>
                        have HP := hid (HM.out.2.pop hk3 hb2 Ht.out hu hb3 HI.out.2.1 HI.out.2.2)
                        have HL := hid HM.out.1
                        clear HM hb2 hb3 hu
                        rw [Bool.not_true]
                        have c1 := atC_cell hA5 Hj.out.1
                        have f1 := Lib.frozen_of_heap hA5 i
                        have hA6 := atC_put (i := i) hA5 o
                        have c2 := atC_cell hA6 Hj.out.2
                        have f2 := Lib.frozen_of_heap hA6 o
                        have c3 : (V.setCell ⟨w.heap.size, i, none⟩ (.int .i64 (o : Nat))).cell? ⟨gb, go + r.length, none⟩ = some (.int .i64 (o : Int)) := (cell_far _ _ _ _ (by show gb ≠ w.heap.size; omega)).trans hcx
                        have hA7 := atC_put (i := o) hA6 i
                        have hB7 := (hB5.setCell (p := ⟨w.heap.size, i, none⟩) (Nat.le_refl _) (.int .i64 (o : Nat))).setCell (p := ⟨w.heap.size, o, none⟩) (Nat.le_refl _) (.int .i64 (i : Nat))
                        have hrow7 := own_far (w' := (V.setCell ⟨w.heap.size, i, none⟩ (.int .i64 (o : Nat))).setCell ⟨w.heap.size, o, none⟩ (.int .i64 (i : Nat))) hrow5 (fun g hg => (Below.heap_setCell _ ⟨w.heap.size, o, none⟩ _ g (by show g ≠ w.heap.size; omega)).trans (Below.heap_setCell V ⟨w.heap.size, i, none⟩ _ g (by show g ≠ w.heap.size; omega)))
                        have hwz7 : w1.heap.size ≤ ((V.setCell ⟨w.heap.size, i, none⟩ (.int .i64 (o : Nat))).setCell ⟨w.heap.size, o, none⟩ (.int .i64 (i : Nat))).heap.size := by rw [World.size_setCell, World.size_setCell]; exact hwz5
                        clear hA5 hA6 hB5 hrow5 hwz5
                        go_wp2_with fail
                        go_roundw
                        case rel => exact ⟨k + 1, d', r, (A'.set i o).set o i, by omega, by go_num, rfl, hd'i, by omega, by simpa using hrow7, hB7, hwz7, hA7, hid ⟨by rw [List.length_set, List.length_set]; exact HL.out, HP.out⟩⟩
                        case measure => simp [intOf]; omega
        · have hk33 : k = 3 := by omega
          subst hk33
          have HP := hid (HM.out.2.last Ht.out HI.out.2.1 HI.out.2.2)
          have HL := hid HM.out.1
          clear HM hrow2 hB2 hwz2 hA2
          go_wp2_with fail
          go_roundw
          case rel => exact ⟨i + 1, d', os', A', by omega, by go_num, rfl, hd'i, hos'i, hrow', hB', hwz', hA', hid ⟨HL.out, HP.out.1, HP.out.2⟩⟩
          case measure => simp [intOf]; omega
    · have hiT2 : i = T.length := by omega
      subst hiT2
      have HE := hid (match_end HI.out.2.2)
      cases os with
      | nil =>
        have HD := hid HI.out.2.1.done
        have HL := hid HI.out.1
        clear HI
        rw [List.length_nil] at *
        obtain ⟨av, cv, rfl⟩ := own_slice hrow
        go_wp2_with fail
        go_ret3
        refine ⟨.inl ⟨some ⟨w.heap.size, 0, none⟩, A.length, A, d, by rw [HL.out]; rfl, by rw [HE.out]; rfl, HD.out.1, HD.out.2, at_ints hA (by rw [HL.out]; exact hTl)⟩, hB⟩
      | cons o r =>
        have HF := hid (show (matchedF T).2 = false by rw [HE.out]; rfl)
        have hne : (((r.length + 1 : Nat) : Int) == 0) = false := by rw [beq_eq_false_iff_ne]; omega
        have hne2 : (((r.length : Int) + 1) == 0) = false := by rw [beq_eq_false_iff_ne]; omega
        clear HI HE
        simp only [List.length_cons] at *
        obtain ⟨av, cv, rfl⟩ := own_slice hrow
        go_wp2_with fail
        go_ret3
        exact ⟨.inr ⟨_, _, _, _, rfl, HF.out⟩, hB⟩
end Go.Proofs.YthlingdlehdlhaaGreatDoor.Par
