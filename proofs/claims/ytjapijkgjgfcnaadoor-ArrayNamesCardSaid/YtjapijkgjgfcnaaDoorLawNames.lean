/- ArrayNames: the walk of the law. -/
import Derived.Test.YtjapijkgjgfcnaaDoorChars
import Derived.Test.YtjapijkgjgfcnaaDoorPlaceLaw
namespace Go.Proofs.YtjapijkgjgfcnaaDoor
open Go.RowKit Go.Shelf
set_option linter.unusedVariables false
set_option linter.unusedSimpArgs false

theorem al1 {w w1 : World} (B : Below w.heap.size w w1) (o : Obj) : Below w.heap.size w (w1.alloc o) := B.alloc B.size o
theorem tr1 {w w1 w2 : World} (B : Below w.heap.size w w1) (h : Below w1.heap.size w1 w2) : Below w.heap.size w w2 := B.trans (h.mono B.size)

theorem count_b (v : Value) (xs : List Int) (w : World) (c : Option Int) (hx : Ints w v xs) (hc : count xs = c) : Calls Tryd.prog 10 #[v] w fun e w' => e = .returned (cRes c) ∧ Below w.heap.size w w' :=
  (count_any v xs w hx).mono fun e w' h => by rw [← hc, ← h.2]; exact ⟨h.1, Below.refl _ _⟩
theorem at_b (v : Value) (xs : List Int) (n : Int) (w : World) (r : Option (List Int)) (hx : Ints w v xs) (h0 : -9223372036854775808 ≤ n) (h1 : n ≤ 9223372036854775807) (hr : atRes xs n = r) :
    Calls Tryd.prog 12 #[v, .int .i64 n] w fun e w' => ∃ a c, e = .returned (.tuple #[.slice a (r.getD []).length c, .bool r.isSome]) ∧ Ints w' (.slice a (r.getD []).length c) (r.getD []) ∧ Below w.heap.size w w' :=
  (at_any v xs n w hx h0 h1).mono fun e w' ⟨u, he, ho, hb⟩ => by
    subst hr
    obtain ⟨a, c, rfl⟩ := own_slice ho
    exact ⟨a, c, he, Ints.of_owns ho, hb⟩
theorem place_b (va vb : Value) (xs ys : List Int) (w : World) (r : Option Int) (hx : Ints w va xs) (hy : Ints w vb ys) (hr : place xs ys = r) :
    Calls Tryd.prog 11 #[va, vb] w fun e w' => e = .returned (pRes r) ∧ Below w.heap.size w w' := by subst hr; exact place_any va vb xs ys w hx hy
theorem shapes_b (va vb : Value) (xs ys : List Int) (w : World) (hx : Ints w va xs) (hy : Ints w vb ys) (h : xs = ys) :
    Calls Tryd.prog 13 #[va, vb] w fun e w' => e = .returned (.bool true) ∧ Below w.heap.size w w' :=
  (rshapes_any va vb xs ys w hx hy).mono fun e w' ⟨he, hq⟩ => ⟨by rw [he, decide_eq_true h], hq.below _⟩
theorem check_b (v : Value) (x : Arr) (w : World) (c : Int) (hx : IsArr w v x) (hc : chk x = c) : Calls Tryd.prog 16 #[v] w fun e w' => e = .returned (.int .i64 c) ∧ Below w.heap.size w w' := by subst hc; exact check_any v x w hx
theorem text_b (v : Value) (x : Arr) (want : ByteArray) (w : World) (hT : Tabs w) (hx : IsArr w v x) (h : textB x want = true) :
    Calls Tryd.prog 22 #[v, .string want] w fun e w' => e = .returned (.bool true) ∧ Below w.heap.size w w' := by rw [← h]; exact text_fn v x want w hT hx
theorem chars_b (s : ByteArray) (w : World) (l : List Int) (hs : s.size ≤ 1000000) (h : runesOf s = l) :
    Calls Tryd.prog 24 #[.string s] w fun e w' => ∃ vs ve, e = .returned (.agg #[.int .i64 2, vs, ve]) ∧ IsArr w' (.agg #[.int .i64 2, vs, ve]) ⟨2, [(l.length : Int)], l⟩ ∧ Below w.heap.size w w' := by
  subst h
  exact (chars_any s w hs).mono fun e w' ⟨⟨v, he, hv⟩, hb⟩ => by
    obtain ⟨vs, ve, rfl, _⟩ := id hv
    exact ⟨vs, ve, he, hv, hb⟩
theorem vector_b (v : Value) (xs : List Int) (w : World) (hx : Ints w v xs) (hr : Rng xs) (hl : xs.length ≤ 1000000) :
    Calls Tryd.prog 23 #[v] w fun e w' => ∃ vs ve, e = .returned (.agg #[.int .i64 1, vs, ve]) ∧ IsArr w' (.agg #[.int .i64 1, vs, ve]) ⟨1, [(xs.length : Int)], xs⟩ ∧ Below w.heap.size w w' :=
  (vector_any v xs w hx hr hl).mono fun e w' ⟨⟨u, he, hv⟩, hb⟩ => by
    obtain ⟨vs, ve, rfl, _⟩ := id hv
    exact ⟨vs, ve, he, hv, hb⟩
theorem scalar_b (n : Int) (w : World) (h0 : -9223372036854775808 ≤ n) (h1 : n ≤ 9223372036854775807) :
    Calls Tryd.prog 25 #[.int .i64 n] w fun e w' => ∃ vs ve, e = .returned (.agg #[.int .i64 1, vs, ve]) ∧ IsArr w' (.agg #[.int .i64 1, vs, ve]) ⟨1, [], [n]⟩ ∧ Below w.heap.size w w' :=
  (scalar_any n w h0 h1).mono fun e w' ⟨⟨u, he, hv⟩, hb⟩ => by
    obtain ⟨vs, ve, rfl, _⟩ := id hv
    exact ⟨vs, ve, he, hv, hb⟩
theorem made_ok {w w' : World} {kind : Int} {xs : List Int} {el : Nat → Int} {e : Ending} (h : Made w w' kind xs el e) (n : Nat) (l : List Int) (hc : count xs = some (n : Int)) (hl : els el n = l) (hk : chk ⟨kind, xs, l⟩ = 0) :
    ∃ vs ve, e = .returned (.tuple #[.agg #[.int .i64 kind, vs, ve], .int .i64 0]) ∧ IsArr w' (.agg #[.int .i64 kind, vs, ve]) ⟨kind, xs, l⟩ := by
  subst hl
  rcases h with ⟨h, _⟩ | ⟨m, h, h2⟩
  · rw [hc] at h; cases h
  · obtain rfl : n = m := by rw [hc] at h; have := Option.some.inj h; omega
    rcases h2 with ⟨h, _⟩ | ⟨_, v, he, hv⟩
    · rw [hk] at h; exact absurd h (by decide)
    · obtain ⟨vs, ve, rfl, _⟩ := id hv
      exact ⟨vs, ve, he, hv⟩
theorem made_no {w w' : World} {kind : Int} {xs : List Int} {el : Nat → Int} {e : Ending} (h : Made w w' kind xs el e) (n : Nat) (l : List Int) (hc : count xs = some (n : Int)) (hl : els el n = l) (hk : chk ⟨kind, xs, l⟩ = 110) :
    e = .returned (.tuple #[.agg #[.int .i64 0, .slice none 0 0, .slice none 0 0], .int .i64 110]) := by
  subst hl
  rcases h with ⟨h, _⟩ | ⟨m, h, h2⟩
  · rw [hc] at h; cases h
  · obtain rfl : n = m := by rw [hc] at h; have := Option.some.inj h; omega
    rcases h2 with ⟨_, he⟩ | ⟨h, _⟩
    · exact he
    · rw [hk] at h; exact absurd h (by decide)

theorem rng_all {xs : List Int} (h : xs.all (fun n => decide (-9223372036854775808 ≤ n) && decide (n ≤ 9223372036854775807)) = true) : Rng xs := by
  intro i hi
  have := List.all_eq_true.1 h xs[i] (List.getElem_mem hi)
  rw [List.getElem?_eq_getElem hi, Option.getD_some]
  simpa using this
theorem ints_five (w : World) (a b c d e : Int) (t : TypeId) : Ints (w.alloc (.cells #[.int .i64 a, .int .i64 b, .int .i64 c, .int .i64 d, .int .i64 e] t)) (.slice (some ⟨w.heap.size, 0, none⟩) 5 5) [a, b, c, d, e] := by
  refine ⟨some ⟨w.heap.size, 0, none⟩, 5, rfl, by simp, by omega, by simp, fun i hi => ⟨w.heap.size, 0, rfl, ?_⟩⟩
  have hi' : i < 5 := by simpa using hi
  match i, hi' with
  | 0, _ => simp
  | 1, _ => simp
  | 2, _ => simp
  | 3, _ => simp
  | 4, _ => simp
theorem ints_lit1 (w : World) (m : Int) (t : TypeId) : Ints (w.alloc (.cells #[.int .i64 m] t)) (.slice (some ⟨w.heap.size, 0, none⟩) 1 1) [m] := ints_one (by simp)

theorem make5 (W : World) : (Instr.makeSlice 22 (.int .i64 5) (.int .i64 5)).run Tryd.prog W = .ok (.slice (some ⟨W.heap.size, 0, none⟩) 5 5) (W.alloc (.cells #[.int .i64 0, .int .i64 0, .int .i64 0, .int .i64 0, .int .i64 0] 3)) := by
  obtain ⟨i0, hi, hz0, hz1, hz2⟩ := info_parts Tryd.infoInt
  have h := run_makeSlice (P := Tryd.prog) (w := W) 22 3 i0 (.int .i64 0) Tryd.underlying22 hi hz0 .i64 .i64 5 5 (by decide) (by decide) (by rw [hz1]; decide) (by rw [hz2]; decide) (by decide)
  rw [h, hz1, show madeCells (Value.int .i64 0).cells (Int.toNat 5 * 1) = #[.int .i64 0, .int .i64 0, .int .i64 0, .int .i64 0, .int .i64 0] by kernel_rfl]
  rfl

theorem isArr_slices1 {w : World} {k : Int} {vs ve : Value} {x : Arr} (h : IsArr w (.agg #[.int .i64 k, vs, ve]) x) : ∃ a c, vs = .slice a x.shape.length c := by
  obtain ⟨u, v, e, h1, h2, _⟩ := h
  simp only [Value.agg.injEq, Array.mk.injEq, List.cons.injEq] at e
  obtain ⟨a, c, rfl, -⟩ := h1.parts
  exact ⟨a, c, e.2.1⟩
theorem isArr_slices2 {w : World} {k : Int} {vs ve : Value} {x : Arr} (h : IsArr w (.agg #[.int .i64 k, vs, ve]) x) : ∃ a c, ve = .slice a x.elems.length c := by
  obtain ⟨u, v, e, h1, h2, _⟩ := h
  simp only [Value.agg.injEq, Array.mk.injEq, List.cons.injEq] at e
  obtain ⟨a, c, rfl, -⟩ := h2.parts
  exact ⟨a, c, e.2.2.1⟩

theorem ints_lit2o (w : World) (m n : Int) (t : TypeId) (o : Obj) : Ints ((w.alloc (.cells #[.int .i64 m, .int .i64 n] t)).alloc o) (.slice (some ⟨w.heap.size, 0, none⟩) 2 2) [m, n] := (ints_lit2 w m n t).below ((Below.refl _ _).alloc (Nat.le_refl _) _)
theorem ints_lit2e {w : World} {m n : Int} {t : TypeId} {b : Nat} (h : b = w.heap.size) : Ints (w.alloc (.cells #[.int .i64 m, .int .i64 n] t)) (.slice (some ⟨b, 0, none⟩) 2 2) [m, n] := by subst h; exact ints_lit2 w m n t
theorem ints_lit1e {w : World} {m : Int} {t : TypeId} {b : Nat} (h : b = w.heap.size) : Ints (w.alloc (.cells #[.int .i64 m] t)) (.slice (some ⟨b, 0, none⟩) 1 1) [m] := by subst h; exact ints_lit1 w m t
theorem els6 : els (fun k => wrap64 ((k : Int) + 1)) 6 = [1, 2, 3, 4, 5, 6] := by simp [els, List.range_succ, wrap64]
theorem box_new (w : World) (k : Int) (u v : Value) (t : TypeId) (o : Obj) : Box3 ((w.alloc (.cells #[.int .i64 k, u, v] t)).alloc o) w.heap.size (.int .i64 k) u v :=
  box_keep (w' := w.alloc (.cells #[.int .i64 k, u, v] t)) ⟨by go_simp, by go_simp, by go_simp⟩ ((Below.refl _ _).alloc (Nat.le_refl _) _)
theorem box_new0 (w : World) (k : Int) (u v : Value) (t : TypeId) : Box3 (w.alloc (.cells #[.int .i64 k, u, v] t)) w.heap.size (.int .i64 k) u v := ⟨by go_simp, by go_simp, by go_simp⟩
theorem text_no (v : Value) (x : Arr) (w : World) (hT : Tabs w) (hx : IsArr w v x) (h : okArr x = false) :
    Calls Tryd.prog 15 #[v] w fun e w' => e = .returned (.tuple #[.string ⟨#[]⟩, .int .i64 110]) ∧ Below w.heap.size w w' :=
  (text_any v x w hT hx).mono fun e w' ⟨he, hb⟩ => ⟨by rw [he]; unfold textRes chk; rw [h]; rfl, hb⟩
theorem rsame_b (va vb : Value) (x y : Arr) (w : World) (hx : IsArr w va x) (hy : IsArr w vb y) (h : x = y) :
    Calls Tryd.prog 26 #[va, vb] w fun e w' => e = .returned (.bool true) ∧ Below w.heap.size w w' := by rw [← (sameB_eq x y).2 h]; exact rsame_any va vb x y w hx hy
theorem place1 : place [2, 3] [0, 3] = none := by decide
theorem place2 : place [2, 3] [0] = none := by decide

theorem text1 : textB ⟨1, [1], [7]⟩ ⟨#[49, 226, 141, 180, 55]⟩ = true := by
  unfold textB; rw [show okArr ⟨1, [1], [7]⟩ = true by decide]; simp [textOf, bare, elemText, dig, Lib.itoa, Lib.decDigits, Lib.join, bs, List.intercalate]
theorem text2 : textB ⟨2, [4], [105, 116, 39, 115]⟩ ⟨#[39, 105, 116, 39, 39, 115, 39]⟩ = true := by
  unfold textB; rw [show okArr ⟨2, [4], [105, 116, 39, 115]⟩ = true by decide]; decide
theorem text3 : textB ⟨1, [2, 3], [1, 2, 3, 4, 5, 6]⟩ ⟨#[50, 32, 51, 226, 141, 180, 49, 32, 50, 32, 51, 32, 52, 32, 53, 32, 54]⟩ = true := by
  unfold textB; rw [show okArr ⟨1, [2, 3], [1, 2, 3, 4, 5, 6]⟩ = true by decide]; simp [textOf, bare, elemText, dig, Lib.itoa, Lib.decDigits, Lib.join, bs, List.intercalate]
theorem text4 : textB ⟨1, [0], []⟩ ⟨#[48, 226, 141, 180, 48]⟩ = true := by
  unfold textB; rw [show okArr ⟨1, [0], []⟩ = true by decide]; simp [textOf, bare, elemText, dig, Lib.itoa, Lib.decDigits, Lib.join, bs, List.intercalate]
theorem text5 : textB ⟨2, [0], []⟩ ⟨#[39, 39]⟩ = true := by
  unfold textB; rw [show okArr ⟨2, [0], []⟩ = true by decide]; decide
theorem text6 : textB ⟨2, [], [97]⟩ ⟨#[39, 97, 39]⟩ = true := by
  unfold textB; rw [show okArr ⟨2, [], [97]⟩ = true by decide]; decide
theorem text7 : textB ⟨2, [1], [97]⟩ ⟨#[49, 226, 141, 180, 39, 97, 39]⟩ = true := by
  unfold textB; rw [show okArr ⟨2, [1], [97]⟩ = true by decide]; simp [textOf, bare, elemText, subst, encs, Lib.encodeRune, Lib.encodeRuneZ, Lib.itoa, Lib.decDigits, Lib.join, bs, List.intercalate]
theorem text8 : textB ⟨2, [0, 2], []⟩ ⟨#[48, 32, 50, 226, 141, 180, 39, 39]⟩ = true := by
  unfold textB; rw [show okArr ⟨2, [0, 2], []⟩ = true by decide]; simp [textOf, bare, elemText, subst, encs, Lib.itoa, Lib.decDigits, Lib.join, bs, List.intercalate]
theorem text9 : textB ⟨1, [], [-9223372036854775808]⟩ ⟨#[194, 175, 57, 50, 50, 51, 51, 55, 50, 48, 51, 54, 56, 53, 52, 55, 55, 53, 56, 48, 56]⟩ = true := by
  unfold textB; rw [show okArr ⟨1, [], [-9223372036854775808]⟩ = true by decide]; simp [textOf, bare, elemText, dig, Lib.decDigits, Lib.join, bs, List.intercalate]

set_option maxRecDepth 100000 in
set_option maxHeartbeats 16000000 in
theorem names_walk (w : World) (hT : Tabs w) :
    Calls Tryd.prog 5 #[] w fun e w' => e = .returned (.bool true) ∧ Below w.heap.size w w' := by
  have B := Below.refl w.heap.size w
  have mk5 := make5
  go_enter Tryd.func5, Tryd.ntmps5
  go_wp2_with fail
  refine (count_b _ [] _ (some 1) (Ints.nil _) (by decide)).mono ?_
  rintro e w1 ⟨rfl, hb⟩
  replace B := tr1 B hb
  clear hb
  simp only [cRes]
  go_wp2_with fail
  refine (count_b _ [0, 4096] _ (some 0) (ints_lit2 _ _ _ _) (by decide)).mono ?_
  rintro e w2 ⟨rfl, hb⟩
  replace B := tr1 (al1 B _) hb
  clear hb
  simp only [cRes]
  go_wp2_with fail
  refine (count_b _ [65, 64] _ none (ints_lit2 _ _ _ _) (by decide)).mono ?_
  rintro e w3 ⟨rfl, hb⟩
  replace B := tr1 (al1 B _) hb
  clear hb
  simp only [cRes]
  go_wp2_with fail
  refine (count_b _ [0, 4097] _ none (ints_lit2 _ _ _ _) (by decide)).mono ?_
  rintro e w4 ⟨rfl, hb⟩
  replace B := tr1 (al1 B _) hb
  clear hb
  simp only [cRes]
  go_wp2_with fail
  refine (count_b _ [-1] _ none (ints_lit1 _ _ _) (by decide)).mono ?_
  rintro e w5 ⟨rfl, hb⟩
  replace B := tr1 (al1 B _) hb
  clear hb
  simp only [cRes]
  go_wp2_with fail
  refine (count_b _ [0, 0, 0, 0, 0] _ none (ints_five _ _ _ _ _ _ _) (by decide)).mono ?_
  rintro e w6 ⟨rfl, hb⟩
  replace B := tr1 (al1 B _) hb
  clear hb
  simp only [cRes]
  clear mk5
  go_wp2_with fail
  refine (at_b _ [2, 3] 4 _ (some [1, 1]) (ints_lit2 _ _ _ _) (by decide) (by decide) (by decide)).mono ?_
  rintro e w7 ⟨a1, c1, rfl, i1, hb⟩
  replace B := tr1 (al1 B _) hb
  clear hb
  simp only [Option.getD_some, Option.isSome_some, List.length_cons, List.length_nil, Nat.zero_add, Nat.reduceAdd] at i1 ⊢
  have D := Below.refl w7.heap.size w7
  go_wp2_with fail
  refine (place_b _ _ [2, 3] [0, 3] _ none ?_ ?_ place1).mono ?_
  · exact ints_lit2o _ _ _ _ _
  · exact ints_lit2e (by simp)
  rintro e w8 ⟨rfl, hb⟩
  replace B := tr1 (al1 (al1 B _) _) hb
  replace D := tr1 (al1 (al1 D _) _) hb
  clear hb
  simp only [pRes]
  go_wp2_with fail
  refine (place_b _ _ [2, 3] [0] _ none ?_ ?_ place2).mono ?_
  · exact ints_lit2o _ _ _ _ _
  · exact ints_lit1e (by simp)
  rintro e w9 ⟨rfl, hb⟩
  replace B := tr1 (al1 (al1 B _) _) hb
  replace D := tr1 (al1 (al1 D _) _) hb
  clear hb
  simp only [pRes]
  go_wp2_with fail
  refine (at_b _ [2, 3] 6 _ none (ints_lit2 _ _ _ _) (by decide) (by decide) (by decide)).mono ?_
  rintro e w10 ⟨a2, c2, rfl, -, hb⟩
  replace B := tr1 (al1 B _) hb
  replace D := tr1 (al1 D _) hb
  clear hb
  simp only [Option.getD_none, Option.isSome_none, List.length_nil] at *
  go_wp2_with fail
  refine (at_b _ [] 0 _ (some []) (Ints.nil _) (by decide) (by decide) (by decide)).mono ?_
  rintro e w11 ⟨a3, c3, rfl, -, hb⟩
  replace B := tr1 B hb
  replace D := tr1 D hb
  clear hb
  simp only [Option.getD_some, Option.isSome_some, List.length_nil] at *
  go_wp2_with fail
  refine (shapes_b _ _ [1, 1] [1, 1] _ ?_ ?_ rfl).mono ?_
  · exact i1.below (al1 D _)
  · exact ints_lit2e rfl
  rintro e w12 ⟨rfl, hb⟩
  replace B := tr1 (al1 B _) hb
  replace D := tr1 (al1 D _) hb
  clear hb
  clear D i1
  go_wp2_with fail
  refine (nameA_make 1 _ [2, 3] _ ?_ (by decide)).mono ?_
  · exact ints_lit2e rfl
  rintro e w13 ⟨hm, hb⟩
  replace B := tr1 (al1 B _) hb
  clear hb
  obtain ⟨vs1, ve1, rfl, ia⟩ := made_ok hm 6 [1, 2, 3, 4, 5, 6] (by decide) els6 (by decide)
  clear hm
  obtain ⟨as1, ds1, rfl⟩ := isArr_slices1 ia
  obtain ⟨ae1, de1, rfl⟩ := isArr_slices2 ia
  simp only [List.length_cons, List.length_nil, Nat.zero_add, Nat.reduceAdd] at ia ⊢
  go_wp2_with fail
  refine (nameB_make 2 _ [1] _ ?_ (by decide)).mono ?_
  · exact ints_lit1e (by simp)
  rintro e w14 ⟨hm, hb⟩
  replace B := tr1 (al1 (al1 B _) _) hb
  have s6 := box_keep (box_new w13 1 _ _ _ _) hb
  replace ia := ia.below (tr1 (al1 (al1 (Below.refl _ w13) _) _) hb)
  clear hb
  obtain rfl := made_no hm 1 [55296] (by decide) (by decide) (by decide)
  clear hm
  have D := Below.refl w14.heap.size w14
  go_wp2_with fail
  refine (nameC_make 3 _ [] _ ?_ (by decide)).mono ?_
  · exact Ints.nil _
  rintro e w15 ⟨hm, hb⟩
  replace B := tr1 (al1 B _) hb
  replace D := tr1 (al1 D _) hb
  clear hb
  obtain rfl := made_no hm 1 [0] (by decide) (by decide) (by decide)
  clear hm
  go_wp2_with fail
  refine (vector_b _ [7] _ ?_ (rng_all (by decide)) (by decide)).mono ?_
  · exact ints_lit1e (by simp)
  rintro e w16 ⟨vs, ve, rfl, ix, hb⟩
  replace B := tr1 (al1 (al1 B _) _) hb
  replace D := tr1 (al1 (al1 D _) _) hb
  clear hb
  go_wp2_with fail
  refine (text_b _ ⟨1, [1], [7]⟩ _ _ (hT.below B) ix text1).mono ?_
  rintro e w17 ⟨rfl, hb⟩
  replace B := tr1 B hb
  replace D := tr1 D hb
  clear hb
  clear ix
  go_wp2_with fail
  refine (chars_b _ _ [105, 116, 39, 115] (by decide) (by decide)).mono ?_
  rintro e w18 ⟨vs, ve, rfl, ix, hb⟩
  replace B := tr1 B hb
  replace D := tr1 D hb
  clear hb
  go_wp2_with fail
  refine (text_b _ ⟨2, [4], [105, 116, 39, 115]⟩ _ _ (hT.below B) ix text2).mono ?_
  rintro e w19 ⟨rfl, hb⟩
  replace B := tr1 B hb
  replace D := tr1 D hb
  clear hb
  clear ix
  obtain ⟨s60, s61, s62⟩ := s6.below D (World.block_lt_of_cell? w14 _ s6.1)
  go_wp2_with fail
  refine (text_b _ ⟨1, [2, 3], [1, 2, 3, 4, 5, 6]⟩ _ _ (hT.below B) (ia.below D) text3).mono ?_
  rintro e w20 ⟨rfl, hb⟩
  replace B := tr1 B hb
  replace D := tr1 D hb
  clear hb
  clear D s60 s61 s62 s6 ia
  go_wp2_with fail
  refine (vector_b _ [] _ (Ints.nil _) (rng_all (by decide)) (by decide)).mono ?_
  rintro e w21 ⟨vs, ve, rfl, ix, hb⟩
  replace B := tr1 B hb
  clear hb
  go_wp2_with fail
  refine (text_b _ ⟨1, [0], []⟩ _ _ (hT.below B) ix text4).mono ?_
  rintro e w22 ⟨rfl, hb⟩
  replace B := tr1 B hb
  clear hb
  clear ix
  go_wp2_with fail
  refine (chars_b _ _ [] (by decide) (by decide)).mono ?_
  rintro e w23 ⟨vs, ve, rfl, ix, hb⟩
  replace B := tr1 B hb
  clear hb
  go_wp2_with fail
  refine (text_b _ ⟨2, [0], []⟩ _ _ (hT.below B) ix text5).mono ?_
  rintro e w24 ⟨rfl, hb⟩
  replace B := tr1 B hb
  clear hb
  clear ix
  go_wp2_with fail
  refine (text_b _ ⟨2, [], [97]⟩ _ _ (hT.below (al1 B _)) ?_ text6).mono ?_
  · exact ⟨_, _, rfl, Ints.nil _, ints_lit1e rfl, (rng_all (by decide))⟩
  rintro e w25 ⟨rfl, hb⟩
  replace B := tr1 (al1 B _) hb
  clear hb
  go_wp2_with fail
  refine (chars_b _ _ [97] (by decide) (by decide)).mono ?_
  rintro e w26 ⟨vs, ve, rfl, ix, hb⟩
  replace B := tr1 B hb
  clear hb
  go_wp2_with fail
  refine (text_b _ ⟨2, [1], [97]⟩ _ _ (hT.below B) ix text7).mono ?_
  rintro e w27 ⟨rfl, hb⟩
  replace B := tr1 B hb
  clear hb
  clear ix
  go_wp2_with fail
  refine (text_b _ ⟨2, [0, 2], []⟩ _ _ (hT.below (al1 B _)) ?_ text8).mono ?_
  · exact ⟨_, _, rfl, ints_lit2e rfl, Ints.nil _, (rng_all (by decide))⟩
  rintro e w28 ⟨rfl, hb⟩
  replace B := tr1 (al1 B _) hb
  clear hb
  go_wp2_with fail
  refine (scalar_b _ _ (by decide) (by decide)).mono ?_
  rintro e w29 ⟨vs, ve, rfl, ix, hb⟩
  replace B := tr1 B hb
  clear hb
  go_wp2_with fail
  refine (text_b _ ⟨1, [], [-9223372036854775808]⟩ _ _ (hT.below B) ix text9).mono ?_
  rintro e w30 ⟨rfl, hb⟩
  replace B := tr1 B hb
  clear hb
  clear ix
  go_wp2_with fail
  refine (text_no _ ⟨0, [], []⟩ _ (hT.below B) ?_ (by decide)).mono ?_
  · exact ⟨_, _, rfl, Ints.nil _, Ints.nil _, (rng_all (by decide))⟩
  rintro e w31 ⟨rfl, hb⟩
  replace B := tr1 B hb
  clear hb
  go_wp2_with fail
  refine (check_b _ ⟨1, [], []⟩ _ 110 ?_ (by decide)).mono ?_
  · exact ⟨_, _, rfl, Ints.nil _, Ints.nil _, (rng_all (by decide))⟩
  rintro e w32 ⟨rfl, hb⟩
  replace B := tr1 B hb
  clear hb
  go_wp2_with fail
  refine (check_b _ ⟨2, [], [1114112]⟩ _ 110 ?_ (by decide)).mono ?_
  · exact ⟨_, _, rfl, Ints.nil _, ints_lit1e rfl, (rng_all (by decide))⟩
  rintro e w33 ⟨rfl, hb⟩
  replace B := tr1 (al1 B _) hb
  clear hb
  go_wp2_with fail
  refine (check_b _ ⟨2, [], [-1]⟩ _ 110 ?_ (by decide)).mono ?_
  · exact ⟨_, _, rfl, Ints.nil _, ints_lit1e rfl, (rng_all (by decide))⟩
  rintro e w34 ⟨rfl, hb⟩
  replace B := tr1 (al1 B _) hb
  clear hb
  go_wp2_with fail
  refine (check_b _ ⟨2, [], [1114111]⟩ _ 0 ?_ (by decide)).mono ?_
  · exact ⟨_, _, rfl, Ints.nil _, ints_lit1e rfl, (rng_all (by decide))⟩
  rintro e w35 ⟨rfl, hb⟩
  replace B := tr1 (al1 B _) hb
  clear hb
  go_wp2_with fail
  refine (chars_b _ _ [65533, 233] (by decide) (by decide)).mono ?_
  rintro e w36 ⟨vs, ve, rfl, ix, hb⟩
  replace B := tr1 B hb
  clear hb
  obtain ⟨as1, ds1, rfl⟩ := isArr_slices1 ix
  obtain ⟨ae1, de1, rfl⟩ := isArr_slices2 ix
  simp only [List.length_cons, List.length_nil, Nat.zero_add, Nat.reduceAdd] at ix ⊢
  go_wp2_with fail
  refine (alive_any _ (hT.below (al1 B _))).mono ?_
  rintro e w37 ⟨rfl, hb⟩
  replace B := tr1 (al1 B _) hb
  have s6 := box_keep (box_new0 w36 2 _ _ _) hb
  have ia := ix.below (tr1 (al1 (Below.refl _ w36) _) hb)
  clear hb
  obtain ⟨s60, s61, s62⟩ := s6
  go_wp2_with fail
  refine (rsame_b _ _ ⟨2, [2], [65533, 233]⟩ ⟨2, [2], [65533, 233]⟩ _ ?_ ?_ rfl).mono ?_
  · exact ia.below (al1 (al1 (Below.refl _ _) _) _)
  · exact ⟨_, _, rfl, (ints_lit1e rfl).below (al1 (Below.refl _ _) _), ints_lit2e (by simp), (rng_all (by decide))⟩
  rintro e w38 ⟨rfl, hb⟩
  replace B := tr1 (al1 (al1 B _) _) hb
  clear hb
  go_wp2_with fail
  go_ret
  exact ⟨rfl, B⟩
end Go.Proofs.YtjapijkgjgfcnaaDoor
