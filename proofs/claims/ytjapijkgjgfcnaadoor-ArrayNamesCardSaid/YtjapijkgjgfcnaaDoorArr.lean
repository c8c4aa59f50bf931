/- array.Check: arrays, characters. -/
import Derived.Test.YtjapijkgjgfcnaaDoorShelf
import Derived.Test.YtjapijkgjgfcnaaDoorLib
import Derived.Test.YtjapijkgjgfcnaaDoorCount
import Derived.Test.YtjapijkgjgfcnaaDoorRead11
namespace Go.Proofs.YtjapijkgjgfcnaaDoor
open Go.RowKit Go.Shelf
set_option linter.unusedVariables false

structure Arr where
  kind : Int
  shape : List Int
  elems : List Int
deriving DecidableEq

def Rng (xs : List Int) : Prop := ∀ i, i < xs.length → -9223372036854775808 ≤ xs[i]?.getD 0 ∧ xs[i]?.getD 0 ≤ 9223372036854775807

/-- A value that reads as an array. -/
def IsArr (w : World) (v : Value) (x : Arr) : Prop := ∃ vs ve, v = .agg #[.int .i64 x.kind, vs, ve] ∧ Ints w vs x.shape ∧ Ints w ve x.elems ∧ Rng x.elems

theorem IsArr.below {w w' : World} {v : Value} {x : Arr} (h : IsArr w v x) (hb : Below w.heap.size w w') : IsArr w' v x := by
  obtain ⟨vs, ve, e, h1, h2, h3⟩ := h
  exact ⟨vs, ve, e, h1.below hb, h2.below hb, h3⟩

def isChar (n : Int) : Bool := decide (0 ≤ n) && (decide (n ≤ 1114111) && Lib.validRune n)
def hasOdd (xs : List Int) : Bool := xs.any fun n => !isChar n

set_option maxRecDepth 100000 in
set_option maxHeartbeats 400000 in
theorem char_any (n : Int) (w : World) : Calls Tryd.prog 43 #[.int .i64 n] w fun e w' => e = .returned (.bool (isChar n)) ∧ w = w' := by
  by_cases h0 : 0 ≤ n
  · have t0 : decide (0 ≤ n) = true := decide_eq_true h0
    by_cases h1 : n ≤ 1114111
    · have t1 : decide (n ≤ 1114111) = true := decide_eq_true h1
      have H : Hid (isChar n = Lib.validRune n) := hid (by unfold isChar; rw [t0, t1]; rfl)
      have hw : wrap32 n = n := by unfold wrap32; omega
      go_enter Tryd.func43, Tryd.ntmps43
      go_wp2_with (go_at_call 74; refine (Tryd.utf8_ValidRune n _).mono ?_; rintro e w' ⟨rfl, rfl⟩)
      go_ret
      exact ⟨by rw [H.out]; rfl, rfl⟩
    · have t1 : decide (n ≤ 1114111) = false := decide_eq_false h1
      have H : Hid (isChar n = false) := hid (by unfold isChar; rw [t0, t1]; rfl)
      go_enter Tryd.func43, Tryd.ntmps43
      go_wp2_with fail
      go_ret
      exact ⟨by rw [H.out]; rfl, rfl⟩
  · have t0 : decide (0 ≤ n) = false := decide_eq_false h0
    have H : Hid (isChar n = false) := hid (by unfold isChar; rw [t0]; rfl)
    go_enter Tryd.func43, Tryd.ntmps43
    go_wp2_with fail
    go_ret
    exact ⟨by rw [H.out]; rfl, rfl⟩

theorem check1_any (n : Int) (w : World) : Calls Tryd.prog 42 #[.int .i64 n] w fun e w' => e = .returned (.bool (!isChar n)) ∧ w = w' := by
  go_enter Tryd.func42, Tryd.ntmps42
  go_wp2_with (go_at_call 43; refine (char_any n _).mono ?_; rintro e w' ⟨rfl, rfl⟩)
  go_ret
  exact ⟨rfl, rfl⟩

set_option maxRecDepth 100000 in
set_option maxHeartbeats 400000 in
theorem indexFunc_any (v : Value) (xs : List Int) (w : World) (hx : Ints w v xs) :
    Calls Tryd.prog 75 #[v, .func (.func 42) #[] #[]] w fun e w' => (∃ r, e = .returned (.int .i64 r) ∧ decide (0 ≤ r) = hasOdd xs) ∧ Quiet w w' := by
  obtain ⟨a, cap, rfl, h1, h2, h3, hc⟩ := hx.parts
  clear hx
  go_enter Tryd.func75, Tryd.ntmps75
  go_wp2
  go_loopw [8] (fun i wr => ∃ k : Nat, k ≤ xs.length ∧ i = .int .i64 k ∧ hasOdd (xs.take k) = false ∧ Quiet w wr) (fun i _ => xs.length - (intOf i).toNat)
  case atStart => exact ⟨0, by omega, rfl, by simp [hasOdd], Quiet.refl _⟩
  case round =>
    obtain ⟨k, hk, rfl, ht, ⟨nq0, rfl⟩⟩ := hrel
    by_cases hlt : k < xs.length
    · rcases hc with rfl | ⟨b, o, rfl, hc⟩
      · simp at hlt
      have hcell := hc k hlt
      have t1 : xs.take (k + 1) = xs.take k ++ [xs[k]?.getD 0] := take_succ_getD xs k hlt
      have hmem : xs[k]?.getD 0 ∈ xs := by rw [List.getElem?_eq_getElem hlt, Option.getD_some]; exact List.getElem_mem hlt
      generalize xs[k]?.getD 0 = n at hcell t1 hmem
      have hki : (k : Int) < (xs.length : Int) := by omega
      cases hb : isChar n
      · have H : Hid (decide (0 ≤ (k : Int)) = hasOdd xs) := hid (by
          have : hasOdd xs = true := by unfold hasOdd; rw [List.any_eq_true]; exact ⟨n, hmem, by simp [hb]⟩
          rw [this]; simp)
        clear t1 ht hc hmem
        have hnb : (!isChar n) = true := by rw [hb]; rfl
        go_wp2_with (go_at_call 42; refine (check1_any n _).mono ?_; rintro e w' ⟨rfl, rfl⟩; rw [hnb])
        go_ret
        exact ⟨⟨_, rfl, H.out⟩, ⟨_, rfl⟩⟩
      · have H : Hid (hasOdd (xs.take (k + 1)) = false) := hid (by rw [t1]; unfold hasOdd at *; rw [List.any_append, ht]; simp [hb])
        clear t1 ht hc hmem
        have hnb : (!isChar n) = false := by rw [hb]; rfl
        go_wp2_with (go_at_call 42; refine (check1_any n _).mono ?_; rintro e w' ⟨rfl, rfl⟩; rw [hnb])
        go_roundw
        case rel => exact ⟨k + 1, by omega, by go_num, H.out, ⟨_, rfl⟩⟩
        case measure => simp [intOf]; omega
    · have H : Hid (hasOdd xs = false) := hid (by rw [List.take_of_length_le (by omega)] at ht; exact ht)
      clear ht hc
      go_wp2
      go_ret
      exact ⟨⟨_, rfl, by rw [H.out]; rfl⟩, ⟨_, rfl⟩⟩

theorem containsFunc_any (v : Value) (xs : List Int) (w : World) (hx : Ints w v xs) :
    Calls Tryd.prog 44 #[v, .func (.func 42) #[] #[]] w fun e w' => e = .returned (.bool (hasOdd xs)) ∧ Quiet w w' := by
  go_enter Tryd.func44, Tryd.ntmps44
  go_wp2_with fail
  refine (indexFunc_any v xs w hx).mono ?_
  rintro e w' ⟨⟨r, rfl, hr⟩, hq⟩
  have H := hid hr
  clear hr
  go_wp2_with fail
  go_ret
  exact ⟨by rw [H.out]; rfl, hq⟩

/-- An array that may be. -/
def okArr (x : Arr) : Bool := decide (count x.shape = some (x.elems.length : Int)) && (decide (x.kind = 1) || (decide (x.kind = 2) && !hasOdd x.elems))
def chk (x : Arr) : Int := if okArr x = true then 0 else 110

set_option maxRecDepth 100000 in
set_option maxHeartbeats 1000000 in
theorem check_any (v : Value) (x : Arr) (w : World) (hx : IsArr w v x) :
    Calls Tryd.prog 16 #[v] w fun e w' => e = .returned (.int .i64 (chk x)) ∧ Below w.heap.size w w' := by
  obtain ⟨vs, ve, rfl, hs, he, -⟩ := hx
  have hs1 := fun o => hs.below ((Below.refl _ w).alloc (Nat.le_refl _) o)
  have he1 := fun o => he.below ((Below.refl _ w).alloc (Nat.le_refl _) o)
  have hB1 := fun o => (Below.refl _ w).alloc (Nat.le_refl _) o
  obtain ⟨ae, cape, rfl, -⟩ := he.parts
  obtain ⟨kind, shape, elems⟩ := x
  simp only at hs he hs1 he1 ⊢
  clear hs he
  go_enter Tryd.func16, Tryd.ntmps16
  go_wp2_with fail
  refine (count_any vs shape _ (hs1 _)).mono ?_
  rintro e w' ⟨rfl, rfl⟩
  cases hc : count shape with
  | none =>
    have H : Hid (chk ⟨kind, shape, elems⟩ = 110) := hid (by unfold chk okArr; rw [hc]; simp)
    simp only [cRes]
    clear hc
    go_wp2_with fail
    go_ret
    exact ⟨by rw [H.out]; rfl, hB1 _⟩
  | some n =>
    simp only [cRes]
    by_cases hn : n = (elems.length : Int)
    · subst hn
      by_cases h1 : kind = 1
      · subst h1
        have H : Hid (chk ⟨1, shape, elems⟩ = 0) := hid (by unfold chk okArr; rw [hc]; simp)
        clear hc
        go_wp2_with fail
        go_ret
        exact ⟨by rw [H.out]; rfl, hB1 _⟩
      · have t1 : (kind == (1 : Int)) = false := by simpa using h1
        by_cases h2 : kind = 2
        · subst h2
          cases ho : hasOdd elems
          · have H : Hid (chk ⟨2, shape, elems⟩ = 0) := hid (by unfold chk okArr; rw [hc, ho]; simp)
            clear hc h1
            go_wp2_with (go_at_call 44; refine (containsFunc_any _ elems _ (he1 _)).mono ?_; rintro e w' ⟨rfl, hq⟩; rw [ho])
            go_ret
            exact ⟨by rw [H.out]; rfl, (hB1 _).trans (hq.below _)⟩
          · have H : Hid (chk ⟨2, shape, elems⟩ = 110) := hid (by unfold chk okArr; rw [hc, ho]; simp)
            clear hc h1
            go_wp2_with (go_at_call 44; refine (containsFunc_any _ elems _ (he1 _)).mono ?_; rintro e w' ⟨rfl, hq⟩; rw [ho])
            go_ret
            exact ⟨by rw [H.out]; rfl, (hB1 _).trans (hq.below _)⟩
        · have t2 : (kind == (2 : Int)) = false := by simpa using h2
          have H : Hid (chk ⟨kind, shape, elems⟩ = 110) := hid (by unfold chk okArr; simp [h1, h2])
          clear hc h1 h2
          go_wp2_with fail
          go_ret
          exact ⟨by rw [H.out]; rfl, hB1 _⟩
    · have tn : (n != (elems.length : Int)) = true := by simpa using hn
      have H : Hid (chk ⟨kind, shape, elems⟩ = 110) := hid (by unfold chk okArr; rw [hc]; simp [hn])
      clear hc hn
      go_wp2_with fail
      go_ret
      exact ⟨by rw [H.out]; rfl, hB1 _⟩

end Go.Proofs.YtjapijkgjgfcnaaDoor
