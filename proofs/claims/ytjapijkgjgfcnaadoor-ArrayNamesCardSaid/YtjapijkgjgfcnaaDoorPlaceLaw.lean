/- A number's place has that number, and a place's number that place; numbers rise as places do. -/
import Derived.Test.YtjapijkgjgfcnaaDoorAt
namespace Go.Proofs.YtjapijkgjgfcnaaDoor
set_option linter.unusedVariables false

def prd (xs : List Int) : Int := xs.foldr (· * ·) 1
def pl : List Int → List Int → Int
  | x :: xs, a :: aa => a * prd xs + pl xs aa
  | _, _ => 0
def Ok : List Int → List Int → Prop
  | x :: xs, a :: aa => (0 ≤ a ∧ a < x) ∧ Ok xs aa
  | [], [] => True
  | _, _ => False
def dg : List Int → Int → List Int
  | x :: xs, n => (n / prd xs % x) :: dg xs n
  | [], _ => []
def lexLt : List Int → List Int → Bool
  | a :: aa, b :: bs => if a = b then lexLt aa bs else decide (a < b)
  | _, _ => false

theorem prd_cons (x : Int) (xs : List Int) : prd (x :: xs) = x * prd xs := rfl
theorem strd_prd (xs : List Int) : strd xs xs.length = prd xs := by simp [strd, prd]

theorem sumTo_pl (xs at_ : List Int) (hl : at_.length = xs.length) (k : Nat) (hk : k ≤ xs.length) : sumTo xs at_ k = pl (xs.drop (xs.length - k)) (at_.drop (xs.length - k)) := by
  induction k with
  | zero => rw [Nat.sub_zero, List.drop_length, sumTo]; rfl
  | succ k ih =>
    have e : xs.length - k = xs.length - (k + 1) + 1 := by omega
    rw [sumTo, ih (by omega), drop_cons xs (xs.length - (k + 1)) (by omega), drop_cons at_ (xs.length - (k + 1)) (by omega), pl, e]
    have : strd xs k = prd (xs.drop (xs.length - (k + 1) + 1)) := by rw [← e]; rfl
    rw [this, show xs.length - 1 - k = xs.length - (k + 1) from by omega, Int.mul_comm, Int.add_comm]

theorem sumTo_all (xs at_ : List Int) (hl : at_.length = xs.length) : sumTo xs at_ xs.length = pl xs at_ := by
  rw [sumTo_pl xs at_ hl _ (Nat.le_refl _)]; simp

theorem dg_length (xs : List Int) (n : Int) : (dg xs n).length = xs.length := by
  induction xs with
  | nil => rfl
  | cons x r ih => simp [dg, ih]

theorem dg_get (xs : List Int) (n : Int) (i : Nat) (h : i < xs.length) : (dg xs n)[i]? = some (n / prd (xs.drop (i + 1)) % xs[i]?.getD 0) := by
  induction xs generalizing i with
  | nil => simp at h
  | cons x r ih =>
    cases i with
    | zero => simp [dg]
    | succ i => simpa [dg] using ih i (by simpa using h)

theorem atList_dg (xs : List Int) (n : Int) : atList xs n = dg xs n := by
  apply List.ext_getElem?
  intro i
  by_cases h : i < xs.length
  · rw [dg_get xs n i h]
    unfold atList
    rw [List.getElem?_map, List.getElem?_range h]
    simp only [Option.map_some, atVal]
    have : strd xs (xs.length - 1 - i) = prd (xs.drop (i + 1)) := by
      unfold strd prd
      rw [show xs.length - (xs.length - 1 - i) = i + 1 from by omega]
    rw [this]
  · rw [List.getElem?_eq_none (by simp [atList]; omega), List.getElem?_eq_none (by rw [dg_length]; omega)]

theorem ok_iff (xs at_ : List Int) : (at_.length = xs.length ∧ inShape xs at_ = true) ↔ Ok xs at_ := by
  unfold inShape
  rw [decide_eq_true_eq]
  induction xs generalizing at_ with
  | nil => cases at_ <;> simp [Ok]
  | cons x r ih =>
    cases at_ with
    | nil => simp [Ok]
    | cons a aa =>
      rw [Ok, ← ih aa]
      constructor
      · rintro ⟨h1, h2⟩
        have h0 := h2 0 (by simp)
        refine ⟨by simpa [okAt] using h0, by simpa using h1, fun i hi => ?_⟩
        have := h2 (i + 1) (by simpa using hi)
        simpa [okAt] using this
      · rintro ⟨h0, h1, h2⟩
        refine ⟨by simpa using h1, fun i hi => ?_⟩
        cases i with
        | zero => simpa [okAt] using h0
        | succ i => simpa [okAt] using h2 i (by simpa using hi)

theorem pl_bd (xs aa : List Int) (h : Ok xs aa) : 0 ≤ pl xs aa ∧ pl xs aa < prd xs := by
  induction xs generalizing aa with
  | nil => cases aa <;> simp_all [Ok, pl, prd]
  | cons x r ih =>
    cases aa with
    | nil => exact h.elim
    | cons a aa =>
      obtain ⟨⟨h0, h1⟩, h2⟩ := h
      obtain ⟨b0, b1⟩ := ih aa h2
      rw [pl, prd_cons]
      have hp : 0 ≤ a * prd r := Int.mul_nonneg h0 (by omega)
      have hq : (a + 1) * prd r ≤ x * prd r := Int.mul_le_mul_of_nonneg_right (by omega) (by omega)
      rw [Int.add_mul, Int.one_mul] at hq
      omega

theorem dg_add (xs : List Int) (hp : 1 ≤ prd xs) (hx : ∀ x ∈ xs, 1 ≤ x) (n k : Int) : dg xs (n + k * prd xs) = dg xs n := by
  induction xs generalizing k with
  | nil => rfl
  | cons x r ih =>
    have hr : 1 ≤ prd r := by
      rcases Int.lt_or_le (prd r) 1 with h | h
      · rw [prd_cons] at hp
        have : x * prd r ≤ 0 := Int.mul_nonpos_of_nonneg_of_nonpos (by have := hx x (by simp); omega) (by omega)
        omega
      · exact h
    rw [dg, dg, prd_cons, ← Int.mul_assoc, ih hr (fun y hy => hx y (by simp [hy])) (k * x)]
    congr 1
    rw [Int.add_mul_ediv_right _ _ (by omega), Int.add_mul_emod_self_right]

theorem prd_pos (xs : List Int) (hx : ∀ x ∈ xs, 1 ≤ x) : 1 ≤ prd xs := by
  induction xs with
  | nil => simp [prd]
  | cons x r ih =>
    rw [prd_cons]
    have h1 := hx x (by simp)
    have h2 := ih (fun y hy => hx y (by simp [hy]))
    have := Int.mul_le_mul h1 h2 (by omega) (by omega)
    omega

theorem ok_pos (xs aa : List Int) (h : Ok xs aa) : ∀ x ∈ xs, 1 ≤ x := by
  induction xs generalizing aa with
  | nil => simp
  | cons x r ih =>
    cases aa with
    | nil => exact h.elim
    | cons a aa =>
      intro y hy
      rcases List.mem_cons.1 hy with rfl | hy
      · have := h.1; omega
      · exact ih aa h.2 y hy

theorem dg_pl (xs aa : List Int) (h : Ok xs aa) : dg xs (pl xs aa) = aa := by
  induction xs generalizing aa with
  | nil => cases aa <;> simp_all [Ok, dg]
  | cons x r ih =>
    cases aa with
    | nil => exact h.elim
    | cons a aa =>
      have hr := ok_pos r aa h.2
      have hp := prd_pos r hr
      obtain ⟨b0, b1⟩ := pl_bd r aa h.2
      obtain ⟨h0, h1⟩ := h.1
      rw [pl, dg, Int.add_comm, dg_add r hp hr, ih aa h.2]
      congr 1
      rw [Int.add_mul_ediv_right _ _ (by omega), Int.ediv_eq_zero_of_lt b0 b1, Int.zero_add, Int.emod_eq_of_lt h0 h1]

theorem pl_dg (xs : List Int) (hx : ∀ x ∈ xs, 1 ≤ x) (n : Int) (h0 : 0 ≤ n) : pl xs (dg xs n) = n % prd xs := by
  induction xs with
  | nil => simp [pl, prd, Int.emod_one]
  | cons x r ih =>
    have hp := prd_pos r (fun y hy => hx y (by simp [hy]))
    have h1 := hx x (by simp)
    rw [dg, pl, ih (fun y hy => hx y (by simp [hy])), prd_cons]
    have e1 := Int.emod_add_mul_ediv n (prd r)
    have e2 := Int.emod_add_mul_ediv (n / prd r) x
    have b1 := Int.emod_nonneg n (b := prd r) (by omega)
    have b2 := Int.emod_lt_of_pos n (b := prd r) (by omega)
    have b3 := Int.emod_nonneg (n / prd r) (b := x) (by omega)
    have b4 := Int.emod_lt_of_pos (n / prd r) (b := x) (by omega)
    generalize n % prd r = m at *
    generalize n / prd r % x = d at *
    generalize n / prd r / x = q at *
    have en : n = (d * prd r + m) + q * (x * prd r) := by
      rw [← e1, ← e2, Int.mul_add, Int.mul_comm (prd r) d, Int.mul_comm (prd r) (x * q)]
      rw [Int.mul_comm x q, Int.mul_assoc]
      omega
    have hb : d * prd r + m < x * prd r := by
      have hq : (d + 1) * prd r ≤ x * prd r := Int.mul_le_mul_of_nonneg_right (by omega) (by omega)
      rw [Int.add_mul, Int.one_mul] at hq
      omega
    have hb0 : 0 ≤ d * prd r + m := by
      have := Int.mul_nonneg b3 (show 0 ≤ prd r by omega)
      omega
    rw [en, Int.add_mul_emod_self_right, Int.emod_eq_of_lt hb0 hb]

theorem dg_ok (xs : List Int) (hx : ∀ x ∈ xs, 1 ≤ x) (n : Int) : Ok xs (dg xs n) := by
  induction xs with
  | nil => trivial
  | cons x r ih =>
    have h1 := hx x (by simp)
    exact ⟨⟨Int.emod_nonneg _ (by omega), Int.emod_lt_of_pos _ (by omega)⟩, ih (fun y hy => hx y (by simp [hy]))⟩

theorem lex_pl (xs aa bs : List Int) (ha : Ok xs aa) (hb : Ok xs bs) : lexLt aa bs = decide (pl xs aa < pl xs bs) := by
  induction xs generalizing aa bs with
  | nil => cases aa <;> cases bs <;> simp_all [Ok, lexLt, pl]
  | cons x r ih =>
    cases aa with
    | nil => exact ha.elim
    | cons a aa =>
      cases bs with
      | nil => exact hb.elim
      | cons b bs =>
        obtain ⟨p0, p1⟩ := pl_bd r aa ha.2
        obtain ⟨q0, q1⟩ := pl_bd r bs hb.2
        rw [lexLt, pl, pl]
        split
        · rename_i e; subst e
          rw [ih aa bs ha.2 hb.2, Bool.eq_iff_iff, decide_eq_true_eq, decide_eq_true_eq]; omega
        · rename_i hne
          rw [Bool.eq_iff_iff, decide_eq_true_eq, decide_eq_true_eq]
          rcases Int.lt_or_gt_of_ne hne with h | h
          · have hq : (a + 1) * prd r ≤ b * prd r := Int.mul_le_mul_of_nonneg_right (by omega) (by omega)
            rw [Int.add_mul, Int.one_mul] at hq
            omega
          · have hq : (b + 1) * prd r ≤ a * prd r := Int.mul_le_mul_of_nonneg_right (by omega) (by omega)
            rw [Int.add_mul, Int.one_mul] at hq
            omega

/-- The three laws. -/
theorem place_some {xs at_ : List Int} {c k : Int} (hc : count xs = some c) (h : place xs at_ = some k) : atRes xs k = some at_ ∧ 0 ≤ k ∧ k < c := by
  unfold place at h
  rw [hc] at h
  simp only at h
  split at h
  · rename_i hok
    obtain rfl : sumTo xs at_ xs.length = k := by simpa using h
    rw [sumTo_all xs at_ hok.1]
    have ho := (ok_iff xs at_).1 hok
    have hb := pl_bd xs at_ ho
    have hcc := count_strd xs c hc
    rw [strd_prd] at hcc
    refine ⟨?_, hb.1, by omega⟩
    unfold atRes
    rw [hc]
    simp only
    rw [if_pos ⟨hb.1, by omega⟩, atList_dg, dg_pl xs at_ ho]
  · simp at h

theorem pos_of_count {xs : List Int} {c n : Int} (hc : count xs = some c) (h0 : 0 ≤ n) (h1 : n < c) : ∀ x ∈ xs, 1 ≤ x := by
  have hf := fits_of_count xs c hc
  have hcc := count_strd xs c hc
  intro x hx
  obtain ⟨i, hi, rfl⟩ := List.getElem_of_mem hx
  have := entry_pos xs hf (by omega) i hi
  rwa [List.getElem?_eq_getElem hi, Option.getD_some] at this

theorem at_isSome {xs : List Int} {c : Int} (hc : count xs = some c) (n : Int) : (atRes xs n).isSome = (decide (0 ≤ n) && decide (n < c)) := by
  unfold atRes
  rw [hc]
  simp only
  by_cases h : 0 ≤ n ∧ n < c
  · rw [if_pos h]; simp [h.1, h.2]
  · rw [if_neg h]; by_cases h0 : 0 ≤ n <;> simp [h0] <;> omega

theorem at_place {xs l : List Int} {c n : Int} (hc : count xs = some c) (h : atRes xs n = some l) : place xs l = some n := by
  unfold atRes at h
  rw [hc] at h
  simp only at h
  split at h
  · rename_i hb
    obtain rfl : atList xs n = l := by simpa using h
    have hx := pos_of_count hc hb.1 hb.2
    have hcc := count_strd xs c hc
    rw [strd_prd] at hcc
    rw [atList_dg]
    have ho := dg_ok xs hx n
    have hok := (ok_iff xs _).2 ho
    unfold place
    rw [hc]
    simp only
    rw [if_pos hok, sumTo_all xs _ hok.1, pl_dg xs hx n hb.1, Int.emod_eq_of_lt hb.1 (by omega)]
  · simp at h

theorem at_lex {xs l l' : List Int} {c n m : Int} (hc : count xs = some c) (h : atRes xs n = some l) (h' : atRes xs m = some l') : lexLt l l' = decide (n < m) := by
  have p1 := at_place hc h
  have p2 := at_place hc h'
  unfold place at p1 p2
  rw [hc] at p1 p2
  simp only at p1 p2
  split at p1
  · split at p2
    · rename_i o1 o2
      rw [sumTo_all _ _ o1.1] at p1
      rw [sumTo_all _ _ o2.1] at p2
      rw [lex_pl xs l l' ((ok_iff _ _).1 o1) ((ok_iff _ _).1 o2)]
      have e1 : pl xs l = n := by simpa using p1
      have e2 : pl xs l' = m := by simpa using p2
      rw [e1, e2]
    · simp at p2
  · simp at p1

end Go.Proofs.YtjapijkgjgfcnaaDoor
