/- ArrayTexts: the walk of the law. -/
import Derived.Test.YtjapijkgjgfcnaaDoorTextInj
import Derived.Test.YtjapijkgjgfcnaaDoorAlive
import Derived.Test.YtjapijkgjgfcnaaDoorSame
namespace Go.Proofs.YtjapijkgjgfcnaaDoor
open Go.RowKit Go.Shelf
set_option linter.unusedVariables false

theorem two_texts {x y : Arr} (hx : okArr x = true) (hy : okArr y = true) : ((bs (textRes x)).toList == (bs (textRes y)).toList) = sameB x y := by
  rw [str_eq]
  have e : ∀ z : Arr, okArr z = true → textRes z = textOf z := fun z hz => by unfold textRes; rw [hz]; rfl
  rw [e x hx, e y hy]
  by_cases h : x = y
  · subst h; simp [sameB]
  · have : sameB x y = false := by
      cases hs : sameB x y with
      | false => rfl
      | true => exact absurd ((sameB_eq x y).1 hs) h
    rw [this, decide_eq_false]
    intro e
    apply h
    apply text_inj hx hy
    have := congrArg (fun b => b.data.toList) e
    simpa [bs_list] using this

/-- What stays known from call to call: both arguments, and the two blocks in which they lie. -/
def TwoSt (w w' : World) (x y : Arr) (vs ve vs' ve' : Value) : Prop :=
  Below w.heap.size w w' ∧ Box3 w' w.heap.size (.int .i64 x.kind) vs ve ∧ Box3 w' (w.heap.size + 1) (.int .i64 y.kind) vs' ve' ∧
    IsArr w' (.agg #[.int .i64 x.kind, vs, ve]) x ∧ IsArr w' (.agg #[.int .i64 y.kind, vs', ve']) y ∧ Tabs w' ∧ w.heap.size + 2 ≤ w'.heap.size

theorem TwoSt.next {w w' w'' : World} {x y : Arr} {vs ve vs' ve' : Value} (h : TwoSt w w' x y vs ve vs' ve') (hb : Below w'.heap.size w' w'') : TwoSt w w'' x y vs ve vs' ve' := by
  obtain ⟨h1, h2, h3, h4, h5, h6, h7⟩ := h
  have := hb.size
  exact ⟨h1.trans (hb.mono h1.size), h2.below hb (by omega), h3.below hb (by omega), h4.below hb, h5.below hb, h6.below hb, by omega⟩

theorem great_two (x : Arr) : great x = 1 ∨ great x = 0 := by unfold great; split <;> simp
theorem chk_two (x : Arr) : (okArr x = false ∧ chk x = 110) ∨ (okArr x = true ∧ chk x = 0) := by
  cases h : okArr x <;> simp [chk, h]

set_option maxRecDepth 100000 in
set_option maxHeartbeats 4000000 in
theorem texts_walk (va vb : Value) (x y : Arr) (w : World) (hT : Tabs w) (hx : IsArr w va x) (hy : IsArr w vb y) :
    Calls Tryd.prog 4 #[va, vb] w fun e w' => e = .returned (.bool true) ∧ Below w.heap.size w w' := by
  have hB2 : ∀ o o', Below w.heap.size w ((w.alloc o).alloc o') := fun o o' => ((Below.refl _ w).alloc (Nat.le_refl _) o).alloc (by simp) o'
  obtain ⟨vs, ve, rfl, -, -, -⟩ := id hx
  obtain ⟨vs', ve', rfl, -, -, -⟩ := id hy
  have S0 : ∀ t t', TwoSt w ((w.alloc (.cells #[.int .i64 x.kind, vs, ve] t)).alloc (.cells #[.int .i64 y.kind, vs', ve'] t')) x y vs ve vs' ve' := fun t t' =>
    ⟨hB2 _ _, ⟨by go_simp, by go_simp, by go_simp⟩, ⟨by go_simp, by go_simp, by go_simp⟩, hx.below (hB2 _ _), hy.below (hB2 _ _), hT.below (hB2 _ _), by simp⟩
  clear hx hy hB2 hT
  go_enter Tryd.func4, Tryd.ntmps4
  go_wp2_with fail
  refine (alive_any _ (S0 _ _).2.2.2.2.2.1).mono ?_
  rintro e w1 ⟨rfl, hb⟩
  have S1 := (S0 _ _).next hb
  clear S0 hb
  obtain ⟨-, ⟨a0, a1, a2⟩, ⟨b0, b1, b2⟩, -⟩ := id S1
  go_wp2_with fail
  refine (great_any _ x _ S1.2.2.2.1).mono ?_
  rintro e w2 ⟨rfl, hb⟩
  have S2 := S1.next hb
  clear S1 hb a0 a1 a2 b0 b1 b2
  rcases great_two x with hg | hg
  · rw [hg]
    clear hg
    go_wp2_with fail
    go_ret
    exact ⟨rfl, S2.1⟩
  rw [hg]
  clear hg
  obtain ⟨-, ⟨a0, a1, a2⟩, ⟨b0, b1, b2⟩, -⟩ := id S2
  go_wp2_with fail
  refine (great_any _ y _ S2.2.2.2.2.1).mono ?_
  rintro e w3 ⟨rfl, hb⟩
  have S3 := S2.next hb
  clear S2 hb a0 a1 a2 b0 b1 b2
  rcases great_two y with hg | hg
  · rw [hg]
    clear hg
    go_wp2_with fail
    go_ret
    exact ⟨rfl, S3.1⟩
  rw [hg]
  clear hg
  obtain ⟨-, ⟨a0, a1, a2⟩, ⟨b0, b1, b2⟩, -⟩ := id S3
  go_wp2_with fail
  refine (text_any _ x _ S3.2.2.2.2.2.1 S3.2.2.2.1).mono ?_
  rintro e w4 ⟨rfl, hb⟩
  have S4 := S3.next hb
  clear S3 hb a0 a1 a2 b0 b1 b2
  obtain ⟨-, ⟨a0, a1, a2⟩, ⟨b0, b1, b2⟩, -⟩ := id S4
  have H2 := hid (@two_texts x y)
  generalize bs (textRes x) = sx at *
  go_wp2_with fail
  refine (text_any _ y _ S4.2.2.2.2.2.1 S4.2.2.2.2.1).mono ?_
  rintro e w5 ⟨rfl, hb⟩
  have S5 := S4.next hb
  clear S4 hb a0 a1 a2 b0 b1 b2
  generalize bs (textRes y) = sy at *
  obtain ⟨-, ⟨a0, a1, a2⟩, ⟨b0, b1, b2⟩, -⟩ := id S5
  rcases chk_two x with ⟨ox, cx⟩ | ⟨ox, cx⟩ <;> rcases chk_two y with ⟨oy, cy⟩ | ⟨oy, cy⟩
  · rw [cx, cy]
    clear H2
    go_wp2_with fail
    refine (check_any _ x _ S5.2.2.2.1).mono ?_
    rintro e w6 ⟨rfl, hb⟩
    have S6 := S5.next hb
    rw [cx]
    clear S5 hb a0 a1 a2 b0 b1 b2
    obtain ⟨-, ⟨a0, a1, a2⟩, ⟨b0, b1, b2⟩, -⟩ := id S6
    go_wp2_with fail
    refine (check_any _ y _ S6.2.2.2.2.1).mono ?_
    rintro e w7 ⟨rfl, hb⟩
    have S7 := S6.next hb
    rw [cy]
    clear S6 hb a0 a1 a2 b0 b1 b2
    go_wp2_with fail
    go_ret
    exact ⟨rfl, S7.1⟩
  · rw [cx, cy]
    clear H2
    go_wp2_with fail
    refine (check_any _ x _ S5.2.2.2.1).mono ?_
    rintro e w6 ⟨rfl, hb⟩
    have S6 := S5.next hb
    rw [cx]
    clear S5 hb a0 a1 a2 b0 b1 b2
    go_wp2_with fail
    go_ret
    exact ⟨rfl, S6.1⟩
  · rw [cx, cy]
    clear H2
    go_wp2_with fail
    refine (check_any _ y _ S5.2.2.2.2.1).mono ?_
    rintro e w6 ⟨rfl, hb⟩
    have S6 := S5.next hb
    rw [cy]
    clear S5 hb a0 a1 a2 b0 b1 b2
    go_wp2_with fail
    go_ret
    exact ⟨rfl, S6.1⟩
  · rw [cx, cy]
    have H3 := hid (H2.out ox oy)
    clear H2 ox oy
    go_wp2_with fail
    refine (same_any _ _ x y _ S5.2.2.2.1 S5.2.2.2.2.1).mono ?_
    rintro e w6 ⟨rfl, hb⟩
    have S6 := S5.next hb
    clear S5 hb a0 a1 a2 b0 b1 b2
    go_wp2_with fail
    go_ret
    exact ⟨by show Ending.returned (Value.bool ((sx.toList == sy.toList) == sameB x y)) = _; rw [H3.out]; simp, S6.1⟩
end Go.Proofs.YtjapijkgjgfcnaaDoor
