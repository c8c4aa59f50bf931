/- LexNames: the walk of the law (printed by gen_lnames.py). -/
import Derived.Test.YtgjaajgdiggbeaaGreatDoorLNames1
namespace Go.Proofs.YtgjaajgdiggbeaaGreatDoor
open Go.RowKit Go.Shelf
set_option linter.unusedVariables false
set_option linter.unusedSimpArgs false
set_option maxRecDepth 100000 in
set_option maxHeartbeats 16000000 in
theorem lnames_walk (w : World) (hG : Glob w) (hT : Tabs w) :
    Calls Tryz.prog 5 #[] w fun e w' => e = .returned (.bool true) ∧ Below w.heap.size w w' := by
  have B := Below.refl w.heap.size w
  go_enter Tryz.func5, Tryz.ntmps5
  go_wp2_with fail
  refine (lwvalue_any _ _ _ _ _ _ _ _).mono ?_
  rintro e w1 ⟨rfl, hb⟩
  have D := ((Below.refl _ w).alloc (Nat.le_refl _) (.cells #[.int .i64 97] 2)).trans (hb.mono (by simp))
  replace B := B.trans (D.mono B.size)
  have o1 := (arr_lit (k := 2) [97] (heap_alloc_new w _) rfl (rng_of (by decide)) (by decide)).below hb
  clear hb D
  have hr := fun (O : Obj) (hO : O = .cells ([[.int .i64 1, .string ⟨#[]⟩, .int .i64 2, .slice none 0 0, .slice (some ⟨w.heap.size, 0, none⟩) 1 1]] : List (List Value)).flatten.toArray 41) => lreads_b [39, 97, 39] ⟨#[39, 97, 39]⟩ (.slice (some ⟨w1.heap.size, 0, none⟩) 1 1) [⟨1, [], ⟨2, [], [97]⟩⟩] (w1.alloc O) ((hG.below B).alloc O) rfl (by decide) (by
      subst hO
      have hq := (Below.refl _ w1).alloc (Nat.le_refl _) (.cells ([[.int .i64 1, .string ⟨#[]⟩, .int .i64 2, .slice none 0 0, .slice (some ⟨w.heap.size, 0, none⟩) 1 1]] : List (List Value)).flatten.toArray 41)
      exact toks_lit _ [⟨1, [], ⟨2, [], [97]⟩⟩] (heap_alloc_new _ _) rfl (by decide) ⟨tokOwn_arr (o1.below hq), trivial⟩) (by decide +kernel)
  go_wp2_with fail
  refine (hr _ rfl).mono ?_
  rintro e w2 ⟨rfl, hb⟩
  have D := ((Below.refl _ w1).alloc (Nat.le_refl _) (.cells ([[.int .i64 1, .string ⟨#[]⟩, .int .i64 2, .slice none 0 0, .slice (some ⟨w.heap.size, 0, none⟩) 1 1]] : List (List Value)).flatten.toArray 41)).trans (hb.mono (by simp))
  replace B := B.trans (D.mono B.size)
  replace o1 := o1.below D
  clear hr
  clear o1
  clear hb D
  have hv := chars_own ⟨#[]⟩ w2 (by decide)
  rw [show runesOf ⟨#[]⟩ = [] by decide +kernel] at hv
  go_wp2_with fail
  refine (hv).mono ?_
  rintro e w3 ⟨⟨v, rfl, o3⟩, hb⟩
  have D := hb
  replace B := B.trans (D.mono B.size)
  clear hv
  obtain ⟨vs, ve, rfl, os, oe, -⟩ := id o3
  obtain ⟨o3a, o3c, rfl⟩ := own_slice os
  obtain ⟨o3x, o3y, rfl⟩ := own_slice oe
  clear os oe
  simp only [List.length_cons, List.length_nil, Nat.zero_add, Nat.reduceAdd] at *
  clear hb D
  go_wp2_with fail
  refine (lwvalue_any _ _ _ _ _ _ _ _).mono ?_
  rintro e w4 ⟨rfl, hb⟩
  have D := hb
  replace B := B.trans (D.mono B.size)
  replace o3 := o3.below D
  clear hb D
  have hr := fun (O : Obj) (hO : O = .cells ([[.int .i64 1, .string ⟨#[]⟩, .int .i64 2, .slice o3a 1 o3c, .slice o3x 0 o3y]] : List (List Value)).flatten.toArray 41) => lreads_b [39, 39] ⟨#[39, 39]⟩ (.slice (some ⟨w4.heap.size, 0, none⟩) 1 1) [⟨1, [], ⟨2, [0], []⟩⟩] (w4.alloc O) ((hG.below B).alloc O) rfl (by decide) (by
      subst hO
      have hq := (Below.refl _ w4).alloc (Nat.le_refl _) (.cells ([[.int .i64 1, .string ⟨#[]⟩, .int .i64 2, .slice o3a 1 o3c, .slice o3x 0 o3y]] : List (List Value)).flatten.toArray 41)
      exact toks_lit _ [⟨1, [], ⟨2, [0], []⟩⟩] (heap_alloc_new _ _) rfl (by decide) ⟨tokOwn_arr (o3.below hq), trivial⟩) (by decide +kernel)
  go_wp2_with fail
  refine (hr _ rfl).mono ?_
  rintro e w5 ⟨rfl, hb⟩
  have D := ((Below.refl _ w4).alloc (Nat.le_refl _) (.cells ([[.int .i64 1, .string ⟨#[]⟩, .int .i64 2, .slice o3a 1 o3c, .slice o3x 0 o3y]] : List (List Value)).flatten.toArray 41)).trans (hb.mono (by simp))
  replace B := B.trans (D.mono B.size)
  replace o3 := o3.below D
  clear hr
  clear o3
  clear hb D
  have hv := chars_own ⟨#[105, 116, 39, 115]⟩ w5 (by decide)
  rw [show runesOf ⟨#[105, 116, 39, 115]⟩ = [105, 116, 39, 115] by decide +kernel] at hv
  go_wp2_with fail
  refine (hv).mono ?_
  rintro e w6 ⟨⟨v, rfl, o6⟩, hb⟩
  have D := hb
  replace B := B.trans (D.mono B.size)
  clear hv
  obtain ⟨vs, ve, rfl, os, oe, -⟩ := id o6
  obtain ⟨o6a, o6c, rfl⟩ := own_slice os
  obtain ⟨o6x, o6y, rfl⟩ := own_slice oe
  clear os oe
  simp only [List.length_cons, List.length_nil, Nat.zero_add, Nat.reduceAdd] at *
  clear hb D
  go_wp2_with fail
  refine (lwvalue_any _ _ _ _ _ _ _ _).mono ?_
  rintro e w7 ⟨rfl, hb⟩
  have D := hb
  replace B := B.trans (D.mono B.size)
  replace o6 := o6.below D
  clear hb D
  have hr := fun (O : Obj) (hO : O = .cells ([[.int .i64 1, .string ⟨#[]⟩, .int .i64 2, .slice o6a 1 o6c, .slice o6x 4 o6y]] : List (List Value)).flatten.toArray 41) => lreads_b [39, 105, 116, 39, 39, 115, 39] ⟨#[39, 105, 116, 39, 39, 115, 39]⟩ (.slice (some ⟨w7.heap.size, 0, none⟩) 1 1) [⟨1, [], ⟨2, [4], [105, 116, 39, 115]⟩⟩] (w7.alloc O) ((hG.below B).alloc O) rfl (by decide) (by
      subst hO
      have hq := (Below.refl _ w7).alloc (Nat.le_refl _) (.cells ([[.int .i64 1, .string ⟨#[]⟩, .int .i64 2, .slice o6a 1 o6c, .slice o6x 4 o6y]] : List (List Value)).flatten.toArray 41)
      exact toks_lit _ [⟨1, [], ⟨2, [4], [105, 116, 39, 115]⟩⟩] (heap_alloc_new _ _) rfl (by decide) ⟨tokOwn_arr (o6.below hq), trivial⟩) (by decide +kernel)
  go_wp2_with fail
  refine (hr _ rfl).mono ?_
  rintro e w8 ⟨rfl, hb⟩
  have D := ((Below.refl _ w7).alloc (Nat.le_refl _) (.cells ([[.int .i64 1, .string ⟨#[]⟩, .int .i64 2, .slice o6a 1 o6c, .slice o6x 4 o6y]] : List (List Value)).flatten.toArray 41)).trans (hb.mono (by simp))
  replace B := B.trans (D.mono B.size)
  replace o6 := o6.below D
  clear hr
  clear o6
  clear hb D
  go_wp2_with fail
  refine (lwvalue_any _ _ _ _ _ _ _ _).mono ?_
  rintro e w9 ⟨rfl, hb⟩
  have D := ((Below.refl _ w8).alloc (Nat.le_refl _) (.cells #[.int .i64 39] 2)).trans (hb.mono (by simp))
  replace B := B.trans (D.mono B.size)
  have o9 := (arr_lit (k := 2) [39] (heap_alloc_new w8 _) rfl (rng_of (by decide)) (by decide)).below hb
  clear hb D
  have hr := fun (O : Obj) (hO : O = .cells ([[.int .i64 1, .string ⟨#[]⟩, .int .i64 2, .slice none 0 0, .slice (some ⟨w8.heap.size, 0, none⟩) 1 1]] : List (List Value)).flatten.toArray 41) => lreads_b [39, 39, 39, 39] ⟨#[39, 39, 39, 39]⟩ (.slice (some ⟨w9.heap.size, 0, none⟩) 1 1) [⟨1, [], ⟨2, [], [39]⟩⟩] (w9.alloc O) ((hG.below B).alloc O) rfl (by decide) (by
      subst hO
      have hq := (Below.refl _ w9).alloc (Nat.le_refl _) (.cells ([[.int .i64 1, .string ⟨#[]⟩, .int .i64 2, .slice none 0 0, .slice (some ⟨w8.heap.size, 0, none⟩) 1 1]] : List (List Value)).flatten.toArray 41)
      exact toks_lit _ [⟨1, [], ⟨2, [], [39]⟩⟩] (heap_alloc_new _ _) rfl (by decide) ⟨tokOwn_arr (o9.below hq), trivial⟩) (by decide +kernel)
  go_wp2_with fail
  refine (hr _ rfl).mono ?_
  rintro e w10 ⟨rfl, hb⟩
  have D := ((Below.refl _ w9).alloc (Nat.le_refl _) (.cells ([[.int .i64 1, .string ⟨#[]⟩, .int .i64 2, .slice none 0 0, .slice (some ⟨w8.heap.size, 0, none⟩) 1 1]] : List (List Value)).flatten.toArray 41)).trans (hb.mono (by simp))
  replace B := B.trans (D.mono B.size)
  replace o9 := o9.below D
  clear hr
  clear o9
  clear hb D
  have hv := fun (O : Obj) (hO : O = .cells #[.int .i64 1, .int .i64 2] 2) => vector_own (.slice (some ⟨w10.heap.size, 0, none⟩) 2 2) [1, 2] (w10.alloc O) (by
      subst hO
      exact Ints.of_owns (e := 2) (base := 0) (show World.ownsRow _ _ _ _ (.slice (some ⟨w10.heap.size, 0, none⟩) ([1, 2] : List Int).length 2) ([1, 2] : List Int).length (([1, 2] : List Int).map (.int .i64)) from owns_lit (cs := ([1, 2] : List Int).map (.int .i64)) (heap_alloc_new _ _) (Nat.zero_le _) (by simp [maxLen])))
    (rng_of (by decide)) (by decide)
  go_wp2_with fail
  refine (hv _ rfl).mono ?_
  rintro e w11 ⟨⟨v, rfl, o11⟩, hb⟩
  have D := ((Below.refl _ w10).alloc (Nat.le_refl _) (.cells #[.int .i64 1, .int .i64 2] 2)).trans (hb.mono (by simp))
  replace B := B.trans (D.mono B.size)
  clear hv
  obtain ⟨vs, ve, rfl, os, oe, -⟩ := id o11
  obtain ⟨o11a, o11c, rfl⟩ := own_slice os
  obtain ⟨o11x, o11y, rfl⟩ := own_slice oe
  clear os oe
  simp only [List.length_cons, List.length_nil, Nat.zero_add, Nat.reduceAdd] at *
  clear hb D
  go_wp2_with fail
  refine (lwvalue_any _ _ _ _ _ _ _ _).mono ?_
  rintro e w12 ⟨rfl, hb⟩
  have D := hb
  replace B := B.trans (D.mono B.size)
  replace o11 := o11.below D
  clear hb D
  have hv := chars_own ⟨#[97, 98]⟩ w12 (by decide)
  rw [show runesOf ⟨#[97, 98]⟩ = [97, 98] by decide +kernel] at hv
  go_wp2_with fail
  refine (hv).mono ?_
  rintro e w13 ⟨⟨v, rfl, o13⟩, hb⟩
  have D := hb
  replace B := B.trans (D.mono B.size)
  replace o11 := o11.below D
  clear hv
  obtain ⟨vs, ve, rfl, os, oe, -⟩ := id o13
  obtain ⟨o13a, o13c, rfl⟩ := own_slice os
  obtain ⟨o13x, o13y, rfl⟩ := own_slice oe
  clear os oe
  simp only [List.length_cons, List.length_nil, Nat.zero_add, Nat.reduceAdd] at *
  clear hb D
  go_wp2_with fail
  refine (lwvalue_any _ _ _ _ _ _ _ _).mono ?_
  rintro e w14 ⟨rfl, hb⟩
  have D := hb
  replace B := B.trans (D.mono B.size)
  replace o11 := o11.below D
  replace o13 := o13.below D
  clear hb D
  have hr := fun (O : Obj) (hO : O = .cells ([[.int .i64 1, .string ⟨#[]⟩, .int .i64 1, .slice o11a 1 o11c, .slice o11x 2 o11y], [.int .i64 1, .string ⟨#[]⟩, .int .i64 2, .slice o13a 1 o13c, .slice o13x 2 o13y]] : List (List Value)).flatten.toArray 41) => lreads_b [49, 32, 50, 39, 97, 98, 39] ⟨#[49, 32, 50, 39, 97, 98, 39]⟩ (.slice (some ⟨w14.heap.size, 0, none⟩) 2 2) [⟨1, [], ⟨1, [2], [1, 2]⟩⟩, ⟨1, [], ⟨2, [2], [97, 98]⟩⟩] (w14.alloc O) ((hG.below B).alloc O) rfl (by decide) (by
      subst hO
      have hq := (Below.refl _ w14).alloc (Nat.le_refl _) (.cells ([[.int .i64 1, .string ⟨#[]⟩, .int .i64 1, .slice o11a 1 o11c, .slice o11x 2 o11y], [.int .i64 1, .string ⟨#[]⟩, .int .i64 2, .slice o13a 1 o13c, .slice o13x 2 o13y]] : List (List Value)).flatten.toArray 41)
      exact toks_lit _ [⟨1, [], ⟨1, [2], [1, 2]⟩⟩, ⟨1, [], ⟨2, [2], [97, 98]⟩⟩] (heap_alloc_new _ _) rfl (by decide) ⟨tokOwn_arr (o11.below hq), tokOwn_arr (o13.below hq), trivial⟩) (by decide +kernel)
  go_wp2_with fail
  refine (hr _ rfl).mono ?_
  rintro e w15 ⟨rfl, hb⟩
  have D := ((Below.refl _ w14).alloc (Nat.le_refl _) (.cells ([[.int .i64 1, .string ⟨#[]⟩, .int .i64 1, .slice o11a 1 o11c, .slice o11x 2 o11y], [.int .i64 1, .string ⟨#[]⟩, .int .i64 2, .slice o13a 1 o13c, .slice o13x 2 o13y]] : List (List Value)).flatten.toArray 41)).trans (hb.mono (by simp))
  replace B := B.trans (D.mono B.size)
  replace o11 := o11.below D
  replace o13 := o13.below D
  clear hr
  clear o11 o13
  clear hb D
  go_wp2_with fail
  refine (lreads_b [] _ (.slice none 0 0) [] _ (hG.below B) rfl (by decide) (IsToks.nil _) (by decide +kernel)).mono ?_
  rintro e w16 ⟨rfl, hb⟩
  have D := hb
  replace B := B.trans (D.mono B.size)
  clear hb D
  go_wp2_with fail
  refine (lreads_b [32, 32] _ (.slice none 0 0) [] _ (hG.below B) rfl (by decide) (IsToks.nil _) (by decide +kernel)).mono ?_
  rintro e w17 ⟨rfl, hb⟩
  have D := hb
  replace B := B.trans (D.mono B.size)
  clear hb D
  have hv := fun (O : Obj) (hO : O = .cells #[.int .i64 1, .int .i64 (-2)] 2) => vector_own (.slice (some ⟨w17.heap.size, 0, none⟩) 2 2) [1, (-2)] (w17.alloc O) (by
      subst hO
      exact Ints.of_owns (e := 2) (base := 0) (show World.ownsRow _ _ _ _ (.slice (some ⟨w17.heap.size, 0, none⟩) ([1, (-2)] : List Int).length 2) ([1, (-2)] : List Int).length (([1, (-2)] : List Int).map (.int .i64)) from owns_lit (cs := ([1, (-2)] : List Int).map (.int .i64)) (heap_alloc_new _ _) (Nat.zero_le _) (by simp [maxLen])))
    (rng_of (by decide)) (by decide)
  go_wp2_with fail
  refine (hv _ rfl).mono ?_
  rintro e w18 ⟨⟨v, rfl, o18⟩, hb⟩
  have D := ((Below.refl _ w17).alloc (Nat.le_refl _) (.cells #[.int .i64 1, .int .i64 (-2)] 2)).trans (hb.mono (by simp))
  replace B := B.trans (D.mono B.size)
  clear hv
  obtain ⟨vs, ve, rfl, os, oe, -⟩ := id o18
  obtain ⟨o18a, o18c, rfl⟩ := own_slice os
  obtain ⟨o18x, o18y, rfl⟩ := own_slice oe
  clear os oe
  simp only [List.length_cons, List.length_nil, Nat.zero_add, Nat.reduceAdd] at *
  clear hb D
  go_wp2_with fail
  refine (lwvalue_any _ _ _ _ _ _ _ _).mono ?_
  rintro e w19 ⟨rfl, hb⟩
  have D := hb
  replace B := B.trans (D.mono B.size)
  replace o18 := o18.below D
  clear hb D
  have hr := fun (O : Obj) (hO : O = .cells ([[.int .i64 1, .string ⟨#[]⟩, .int .i64 1, .slice o18a 1 o18c, .slice o18x 2 o18y]] : List (List Value)).flatten.toArray 41) => lreads_b [49, 194, 175, 50] ⟨#[49, 194, 175, 50]⟩ (.slice (some ⟨w19.heap.size, 0, none⟩) 1 1) [⟨1, [], ⟨1, [2], [1, (-2)]⟩⟩] (w19.alloc O) ((hG.below B).alloc O) rfl (by decide) (by
      subst hO
      have hq := (Below.refl _ w19).alloc (Nat.le_refl _) (.cells ([[.int .i64 1, .string ⟨#[]⟩, .int .i64 1, .slice o18a 1 o18c, .slice o18x 2 o18y]] : List (List Value)).flatten.toArray 41)
      exact toks_lit _ [⟨1, [], ⟨1, [2], [1, (-2)]⟩⟩] (heap_alloc_new _ _) rfl (by decide) ⟨tokOwn_arr (o18.below hq), trivial⟩) (by decide +kernel)
  go_wp2_with fail
  refine (hr _ rfl).mono ?_
  rintro e w20 ⟨rfl, hb⟩
  have D := ((Below.refl _ w19).alloc (Nat.le_refl _) (.cells ([[.int .i64 1, .string ⟨#[]⟩, .int .i64 1, .slice o18a 1 o18c, .slice o18x 2 o18y]] : List (List Value)).flatten.toArray 41)).trans (hb.mono (by simp))
  replace B := B.trans (D.mono B.size)
  replace o18 := o18.below D
  clear hr
  clear o18
  clear hb D
  go_wp2_with fail
  refine (lwglyph_any _ _).mono ?_
  rintro e w21 ⟨rfl, hb⟩
  have D := hb
  replace B := B.trans (D.mono B.size)
  clear hb D
  have hr := fun (O : Obj) (hO : O = .cells ([[.int .i64 3, .string ⟨#[226, 139, 132]⟩, .int .i64 0, .slice none 0 0, .slice none 0 0]] : List (List Value)).flatten.toArray 41) => lreads_b [10] ⟨#[10]⟩ (.slice (some ⟨w21.heap.size, 0, none⟩) 1 1) [⟨3, [226, 139, 132], noArr⟩] (w21.alloc O) ((hG.below B).alloc O) rfl (by decide) (by
      subst hO
      have hq := (Below.refl _ w21).alloc (Nat.le_refl _) (.cells ([[.int .i64 3, .string ⟨#[226, 139, 132]⟩, .int .i64 0, .slice none 0 0, .slice none 0 0]] : List (List Value)).flatten.toArray 41)
      exact toks_lit _ [⟨3, [226, 139, 132], noArr⟩] (heap_alloc_new _ _) rfl (by decide) ⟨tokOwn_plain _ _ _, trivial⟩) (by decide +kernel)
  go_wp2_with fail
  refine (hr _ rfl).mono ?_
  rintro e w22 ⟨rfl, hb⟩
  have D := ((Below.refl _ w21).alloc (Nat.le_refl _) (.cells ([[.int .i64 3, .string ⟨#[226, 139, 132]⟩, .int .i64 0, .slice none 0 0, .slice none 0 0]] : List (List Value)).flatten.toArray 41)).trans (hb.mono (by simp))
  replace B := B.trans (D.mono B.size)
  clear hr
  clear hb D
  go_wp2_with fail
  refine (lwvalue_any _ _ _ _ _ _ _ _).mono ?_
  rintro e w23 ⟨rfl, hb⟩
  have D := ((Below.refl _ w22).alloc (Nat.le_refl _) (.cells #[.int .i64 10] 2)).trans (hb.mono (by simp))
  replace B := B.trans (D.mono B.size)
  have o23 := (arr_lit (k := 2) [10] (heap_alloc_new w22 _) rfl (rng_of (by decide)) (by decide)).below hb
  clear hb D
  have hr := fun (O : Obj) (hO : O = .cells ([[.int .i64 1, .string ⟨#[]⟩, .int .i64 2, .slice none 0 0, .slice (some ⟨w22.heap.size, 0, none⟩) 1 1]] : List (List Value)).flatten.toArray 41) => lreads_b [39, 10, 39] ⟨#[39, 10, 39]⟩ (.slice (some ⟨w23.heap.size, 0, none⟩) 1 1) [⟨1, [], ⟨2, [], [10]⟩⟩] (w23.alloc O) ((hG.below B).alloc O) rfl (by decide) (by
      subst hO
      have hq := (Below.refl _ w23).alloc (Nat.le_refl _) (.cells ([[.int .i64 1, .string ⟨#[]⟩, .int .i64 2, .slice none 0 0, .slice (some ⟨w22.heap.size, 0, none⟩) 1 1]] : List (List Value)).flatten.toArray 41)
      exact toks_lit _ [⟨1, [], ⟨2, [], [10]⟩⟩] (heap_alloc_new _ _) rfl (by decide) ⟨tokOwn_arr (o23.below hq), trivial⟩) (by decide +kernel)
  go_wp2_with fail
  refine (hr _ rfl).mono ?_
  rintro e w24 ⟨rfl, hb⟩
  have D := ((Below.refl _ w23).alloc (Nat.le_refl _) (.cells ([[.int .i64 1, .string ⟨#[]⟩, .int .i64 2, .slice none 0 0, .slice (some ⟨w22.heap.size, 0, none⟩) 1 1]] : List (List Value)).flatten.toArray 41)).trans (hb.mono (by simp))
  replace B := B.trans (D.mono B.size)
  replace o23 := o23.below D
  clear hr
  clear o23
  clear hb D
  go_wp2_with fail
  refine (scalar_own (-9223372036854775808) _ (by decide) (by decide)).mono ?_
  rintro e w25 ⟨⟨v, rfl, o25⟩, hb⟩
  have D := hb
  replace B := B.trans (D.mono B.size)
  obtain ⟨vs, ve, rfl, os, oe, -⟩ := id o25
  obtain ⟨o25a, o25c, rfl⟩ := own_slice os
  obtain ⟨o25x, o25y, rfl⟩ := own_slice oe
  clear os oe
  simp only [List.length_cons, List.length_nil, Nat.zero_add, Nat.reduceAdd] at *
  clear hb D
  go_wp2_with fail
  refine (lwvalue_any _ _ _ _ _ _ _ _).mono ?_
  rintro e w26 ⟨rfl, hb⟩
  have D := hb
  replace B := B.trans (D.mono B.size)
  replace o25 := o25.below D
  clear hb D
  have hr := fun (O : Obj) (hO : O = .cells ([[.int .i64 1, .string ⟨#[]⟩, .int .i64 1, .slice o25a 0 o25c, .slice o25x 1 o25y]] : List (List Value)).flatten.toArray 41) => lreads_b [194, 175, 57, 50, 50, 51, 51, 55, 50, 48, 51, 54, 56, 53, 52, 55, 55, 53, 56, 48, 56] ⟨#[194, 175, 57, 50, 50, 51, 51, 55, 50, 48, 51, 54, 56, 53, 52, 55, 55, 53, 56, 48, 56]⟩ (.slice (some ⟨w26.heap.size, 0, none⟩) 1 1) [⟨1, [], ⟨1, [], [-9223372036854775808]⟩⟩] (w26.alloc O) ((hG.below B).alloc O) rfl (by decide) (by
      subst hO
      have hq := (Below.refl _ w26).alloc (Nat.le_refl _) (.cells ([[.int .i64 1, .string ⟨#[]⟩, .int .i64 1, .slice o25a 0 o25c, .slice o25x 1 o25y]] : List (List Value)).flatten.toArray 41)
      exact toks_lit _ [⟨1, [], ⟨1, [], [-9223372036854775808]⟩⟩] (heap_alloc_new _ _) rfl (by decide) ⟨tokOwn_arr (o25.below hq), trivial⟩) (by decide +kernel)
  go_wp2_with fail
  refine (hr _ rfl).mono ?_
  rintro e w27 ⟨rfl, hb⟩
  have D := ((Below.refl _ w26).alloc (Nat.le_refl _) (.cells ([[.int .i64 1, .string ⟨#[]⟩, .int .i64 1, .slice o25a 0 o25c, .slice o25x 1 o25y]] : List (List Value)).flatten.toArray 41)).trans (hb.mono (by simp))
  replace B := B.trans (D.mono B.size)
  replace o25 := o25.below D
  clear hr
  clear o25
  clear hb D
  go_wp2_with fail
  refine (scalar_own 1 _ (by decide) (by decide)).mono ?_
  rintro e w28 ⟨⟨v, rfl, o28⟩, hb⟩
  have D := hb
  replace B := B.trans (D.mono B.size)
  obtain ⟨vs, ve, rfl, os, oe, -⟩ := id o28
  obtain ⟨o28a, o28c, rfl⟩ := own_slice os
  obtain ⟨o28x, o28y, rfl⟩ := own_slice oe
  clear os oe
  simp only [List.length_cons, List.length_nil, Nat.zero_add, Nat.reduceAdd] at *
  clear hb D
  go_wp2_with fail
  refine (lwvalue_any _ _ _ _ _ _ _ _).mono ?_
  rintro e w29 ⟨rfl, hb⟩
  have D := hb
  replace B := B.trans (D.mono B.size)
  replace o28 := o28.below D
  clear hb D
  go_wp2_with fail
  refine (lwglyph_any _ _).mono ?_
  rintro e w30 ⟨rfl, hb⟩
  have D := hb
  replace B := B.trans (D.mono B.size)
  replace o28 := o28.below D
  clear hb D
  go_wp2_with fail
  refine (scalar_own 5 _ (by decide) (by decide)).mono ?_
  rintro e w31 ⟨⟨v, rfl, o31⟩, hb⟩
  have D := hb
  replace B := B.trans (D.mono B.size)
  replace o28 := o28.below D
  obtain ⟨vs, ve, rfl, os, oe, -⟩ := id o31
  obtain ⟨o31a, o31c, rfl⟩ := own_slice os
  obtain ⟨o31x, o31y, rfl⟩ := own_slice oe
  clear os oe
  simp only [List.length_cons, List.length_nil, Nat.zero_add, Nat.reduceAdd] at *
  clear hb D
  go_wp2_with fail
  refine (lwvalue_any _ _ _ _ _ _ _ _).mono ?_
  rintro e w32 ⟨rfl, hb⟩
  have D := hb
  replace B := B.trans (D.mono B.size)
  replace o28 := o28.below D
  replace o31 := o31.below D
  clear hb D
  have hr := fun (O : Obj) (hO : O = .cells ([[.int .i64 1, .string ⟨#[]⟩, .int .i64 1, .slice o28a 0 o28c, .slice o28x 1 o28y], [.int .i64 3, .string ⟨#[46]⟩, .int .i64 0, .slice none 0 0, .slice none 0 0], [.int .i64 1, .string ⟨#[]⟩, .int .i64 1, .slice o31a 0 o31c, .slice o31x 1 o31y]] : List (List Value)).flatten.toArray 41) => lreads_b [49, 46, 53] ⟨#[49, 46, 53]⟩ (.slice (some ⟨w32.heap.size, 0, none⟩) 3 3) [⟨1, [], ⟨1, [], [1]⟩⟩, ⟨3, [46], noArr⟩, ⟨1, [], ⟨1, [], [5]⟩⟩] (w32.alloc O) ((hG.below B).alloc O) rfl (by decide) (by
      subst hO
      have hq := (Below.refl _ w32).alloc (Nat.le_refl _) (.cells ([[.int .i64 1, .string ⟨#[]⟩, .int .i64 1, .slice o28a 0 o28c, .slice o28x 1 o28y], [.int .i64 3, .string ⟨#[46]⟩, .int .i64 0, .slice none 0 0, .slice none 0 0], [.int .i64 1, .string ⟨#[]⟩, .int .i64 1, .slice o31a 0 o31c, .slice o31x 1 o31y]] : List (List Value)).flatten.toArray 41)
      exact toks_lit _ [⟨1, [], ⟨1, [], [1]⟩⟩, ⟨3, [46], noArr⟩, ⟨1, [], ⟨1, [], [5]⟩⟩] (heap_alloc_new _ _) rfl (by decide) ⟨tokOwn_arr (o28.below hq), tokOwn_plain _ _ _, tokOwn_arr (o31.below hq), trivial⟩) (by decide +kernel)
  go_wp2_with fail
  refine (hr _ rfl).mono ?_
  rintro e w33 ⟨rfl, hb⟩
  have D := ((Below.refl _ w32).alloc (Nat.le_refl _) (.cells ([[.int .i64 1, .string ⟨#[]⟩, .int .i64 1, .slice o28a 0 o28c, .slice o28x 1 o28y], [.int .i64 3, .string ⟨#[46]⟩, .int .i64 0, .slice none 0 0, .slice none 0 0], [.int .i64 1, .string ⟨#[]⟩, .int .i64 1, .slice o31a 0 o31c, .slice o31x 1 o31y]] : List (List Value)).flatten.toArray 41)).trans (hb.mono (by simp))
  replace B := B.trans (D.mono B.size)
  replace o28 := o28.below D
  replace o31 := o31.below D
  clear hr
  clear o28 o31
  clear hb D
  go_wp2_with fail
  refine (scalar_own 2 _ (by decide) (by decide)).mono ?_
  rintro e w34 ⟨⟨v, rfl, o34⟩, hb⟩
  have D := hb
  replace B := B.trans (D.mono B.size)
  obtain ⟨vs, ve, rfl, os, oe, -⟩ := id o34
  obtain ⟨o34a, o34c, rfl⟩ := own_slice os
  obtain ⟨o34x, o34y, rfl⟩ := own_slice oe
  clear os oe
  simp only [List.length_cons, List.length_nil, Nat.zero_add, Nat.reduceAdd] at *
  clear hb D
  go_wp2_with fail
  refine (lwvalue_any _ _ _ _ _ _ _ _).mono ?_
  rintro e w35 ⟨rfl, hb⟩
  have D := hb
  replace B := B.trans (D.mono B.size)
  replace o34 := o34.below D
  clear hb D
  go_wp2_with fail
  refine (lwname_any _ _).mono ?_
  rintro e w36 ⟨rfl, hb⟩
  have D := hb
  replace B := B.trans (D.mono B.size)
  replace o34 := o34.below D
  clear hb D
  have hr := fun (O : Obj) (hO : O = .cells ([[.int .i64 1, .string ⟨#[]⟩, .int .i64 1, .slice o34a 0 o34c, .slice o34x 1 o34y], [.int .i64 2, .string ⟨#[120]⟩, .int .i64 0, .slice none 0 0, .slice none 0 0]] : List (List Value)).flatten.toArray 41) => lreads_b [50, 120] ⟨#[50, 120]⟩ (.slice (some ⟨w36.heap.size, 0, none⟩) 2 2) [⟨1, [], ⟨1, [], [2]⟩⟩, ⟨2, [120], noArr⟩] (w36.alloc O) ((hG.below B).alloc O) rfl (by decide) (by
      subst hO
      have hq := (Below.refl _ w36).alloc (Nat.le_refl _) (.cells ([[.int .i64 1, .string ⟨#[]⟩, .int .i64 1, .slice o34a 0 o34c, .slice o34x 1 o34y], [.int .i64 2, .string ⟨#[120]⟩, .int .i64 0, .slice none 0 0, .slice none 0 0]] : List (List Value)).flatten.toArray 41)
      exact toks_lit _ [⟨1, [], ⟨1, [], [2]⟩⟩, ⟨2, [120], noArr⟩] (heap_alloc_new _ _) rfl (by decide) ⟨tokOwn_arr (o34.below hq), tokOwn_plain _ _ _, trivial⟩) (by decide +kernel)
  go_wp2_with fail
  refine (hr _ rfl).mono ?_
  rintro e w37 ⟨rfl, hb⟩
  have D := ((Below.refl _ w36).alloc (Nat.le_refl _) (.cells ([[.int .i64 1, .string ⟨#[]⟩, .int .i64 1, .slice o34a 0 o34c, .slice o34x 1 o34y], [.int .i64 2, .string ⟨#[120]⟩, .int .i64 0, .slice none 0 0, .slice none 0 0]] : List (List Value)).flatten.toArray 41)).trans (hb.mono (by simp))
  replace B := B.trans (D.mono B.size)
  replace o34 := o34.below D
  clear hr
  clear o34
  clear hb D
  go_wp2_with fail
  refine (lwname_any _ _).mono ?_
  rintro e w38 ⟨rfl, hb⟩
  have D := hb
  replace B := B.trans (D.mono B.size)
  clear hb D
  have hr := fun (O : Obj) (hO : O = .cells ([[.int .i64 2, .string ⟨#[97, 98, 99, 100, 101, 102, 103, 104, 105, 106, 107, 108]⟩, .int .i64 0, .slice none 0 0, .slice none 0 0]] : List (List Value)).flatten.toArray 41) => lreads_b [97, 98, 99, 100, 101, 102, 103, 104, 105, 106, 107, 108] ⟨#[97, 98, 99, 100, 101, 102, 103, 104, 105, 106, 107, 108]⟩ (.slice (some ⟨w38.heap.size, 0, none⟩) 1 1) [⟨2, [97, 98, 99, 100, 101, 102, 103, 104, 105, 106, 107, 108], noArr⟩] (w38.alloc O) ((hG.below B).alloc O) rfl (by decide) (by
      subst hO
      have hq := (Below.refl _ w38).alloc (Nat.le_refl _) (.cells ([[.int .i64 2, .string ⟨#[97, 98, 99, 100, 101, 102, 103, 104, 105, 106, 107, 108]⟩, .int .i64 0, .slice none 0 0, .slice none 0 0]] : List (List Value)).flatten.toArray 41)
      exact toks_lit _ [⟨2, [97, 98, 99, 100, 101, 102, 103, 104, 105, 106, 107, 108], noArr⟩] (heap_alloc_new _ _) rfl (by decide) ⟨tokOwn_plain _ _ _, trivial⟩) (by decide +kernel)
  go_wp2_with fail
  refine (hr _ rfl).mono ?_
  rintro e w39 ⟨rfl, hb⟩
  have D := ((Below.refl _ w38).alloc (Nat.le_refl _) (.cells ([[.int .i64 2, .string ⟨#[97, 98, 99, 100, 101, 102, 103, 104, 105, 106, 107, 108]⟩, .int .i64 0, .slice none 0 0, .slice none 0 0]] : List (List Value)).flatten.toArray 41)).trans (hb.mono (by simp))
  replace B := B.trans (D.mono B.size)
  clear hr
  clear hb D
  go_wp2_with fail
  refine (lwrong_b [39, 97] _ _ (hG.below B) rfl (by decide) (by decide +kernel)).mono ?_
  rintro e w40 ⟨rfl, hb⟩
  have D := hb
  replace B := B.trans (D.mono B.size)
  clear hb D
  go_wp2_with fail
  refine (lwrong_b [194, 175] _ _ (hG.below B) rfl (by decide) (by decide +kernel)).mono ?_
  rintro e w41 ⟨rfl, hb⟩
  have D := hb
  replace B := B.trans (D.mono B.size)
  clear hb D
  go_wp2_with fail
  refine (lwrong_b [64] _ _ (hG.below B) rfl (by decide) (by decide +kernel)).mono ?_
  rintro e w42 ⟨rfl, hb⟩
  have D := hb
  replace B := B.trans (D.mono B.size)
  clear hb D
  go_wp2_with fail
  refine (lwrong_b [57, 50, 50, 51, 51, 55, 50, 48, 51, 54, 56, 53, 52, 55, 55, 53, 56, 48, 56] _ _ (hG.below B) rfl (by decide) (by decide +kernel)).mono ?_
  rintro e w43 ⟨rfl, hb⟩
  have D := hb
  replace B := B.trans (D.mono B.size)
  clear hb D
  go_wp2_with fail
  refine (lwrong_b [194, 175, 57, 50, 50, 51, 51, 55, 50, 48, 51, 54, 56, 53, 52, 55, 55, 53, 56, 48, 57] _ _ (hG.below B) rfl (by decide) (by decide +kernel)).mono ?_
  rintro e w44 ⟨rfl, hb⟩
  have D := hb
  replace B := B.trans (D.mono B.size)
  clear hb D
  go_wp2_with fail
  refine (lwrong_b [57, 57, 57, 57, 57, 57, 57, 57, 57, 57, 57, 57, 57, 57, 57, 57, 57, 57, 57, 57] _ _ (hG.below B) rfl (by decide) (by decide +kernel)).mono ?_
  rintro e w45 ⟨rfl, hb⟩
  have D := hb
  replace B := B.trans (D.mono B.size)
  clear hb D
  go_wp2_with fail
  refine (lwrong_b [255] _ _ (hG.below B) rfl (by decide) (by decide +kernel)).mono ?_
  rintro e w46 ⟨rfl, hb⟩
  have D := hb
  replace B := B.trans (D.mono B.size)
  clear hb D
  go_wp2_with fail
  refine (lwrong_b [97, 9] _ _ (hG.below B) rfl (by decide) (by decide +kernel)).mono ?_
  rintro e w47 ⟨rfl, hb⟩
  have D := hb
  replace B := B.trans (D.mono B.size)
  clear hb D
  go_wp2_with fail
  refine (lwrong_b [97, 98, 99, 100, 101, 102, 103, 104, 105, 106, 107, 108, 109] _ _ (hG.below B) rfl (by decide) (by decide +kernel)).mono ?_
  rintro e w48 ⟨rfl, hb⟩
  have D := hb
  replace B := B.trans (D.mono B.size)
  clear hb D
  go_wp2_with fail
  refine (lwrong_b [95, 97] _ _ (hG.below B) rfl (by decide) (by decide +kernel)).mono ?_
  rintro e w49 ⟨rfl, hb⟩
  have D := hb
  replace B := B.trans (D.mono B.size)
  clear hb D
  go_wp2_with fail
  refine (lwrong_b [49, 32, 194, 175] _ _ (hG.below B) rfl (by decide) (by decide +kernel)).mono ?_
  rintro e w50 ⟨rfl, hb⟩
  have D := hb
  replace B := B.trans (D.mono B.size)
  clear hb D
  go_wp2_with fail
  refine (lwrong_b [39, 255, 39] _ _ (hG.below B) rfl (by decide) (by decide +kernel)).mono ?_
  rintro e w51 ⟨rfl, hb⟩
  have D := hb
  replace B := B.trans (D.mono B.size)
  clear hb D
  go_wp2_with fail
  refine (repeat_b [43] _ 4001 _ _ rfl rfl (by decide) (by decide)).mono ?_
  rintro e w52 ⟨⟨S1, rfl, hS1, zS1⟩, hb⟩
  have D := hb
  replace B := B.trans (D.mono B.size)
  have zS1' : (S1.size : Int) ≤ 20000 := by omega
  clear hb D
  go_wp2_with fail
  refine (tokens_b (Lib.repeatL [43] 4001) _ [] 0 9 _ (hG.below B) hS1.out (by rw [repeatL_len]; decide) ((told_plus 4001).trans (if_pos (by decide))) rfl).mono ?_
  rintro e w53 ⟨⟨aS1, cS1, rfl⟩, hb⟩
  have D := hb
  replace B := B.trans (D.mono B.size)
  clear hS1 zS1 zS1'
  clear hb D
  go_wp2_with fail
  refine (repeat_b [43] _ 4000 _ _ rfl rfl (by decide) (by decide)).mono ?_
  rintro e w54 ⟨⟨S2, rfl, hS2, zS2⟩, hb⟩
  have D := hb
  replace B := B.trans (D.mono B.size)
  have zS2' : (S2.size : Int) ≤ 20000 := by omega
  clear hb D
  go_wp2_with fail
  refine (tokens_b (Lib.repeatL [43] 4000) _ (List.replicate 4000 plusT) 4000 0 _ (hG.below B) hS2.out (by rw [repeatL_len]; decide) ((told_plus 4000).trans (if_neg (by decide))) List.length_replicate).mono ?_
  rintro e w55 ⟨⟨aS2, cS2, rfl⟩, hb⟩
  have D := hb
  replace B := B.trans (D.mono B.size)
  clear hS2 zS2 zS2'
  clear hb D
  go_wp2_with fail
  refine (repeat_b [49, 32] _ 4097 _ _ rfl rfl (by decide) (by decide)).mono ?_
  rintro e w56 ⟨⟨S3, rfl, hS3, zS3⟩, hb⟩
  have D := hb
  replace B := B.trans (D.mono B.size)
  have zS3' : (S3.size : Int) ≤ 20000 := by omega
  clear hb D
  go_wp2_with fail
  refine (tokens_b (Lib.repeatL [49, 32] 4097) _ [] 0 9 _ (hG.below B) hS3.out (by rw [repeatL_len]; decide) told_ones rfl).mono ?_
  rintro e w57 ⟨⟨aS3, cS3, rfl⟩, hb⟩
  have D := hb
  replace B := B.trans (D.mono B.size)
  clear hS3 zS3 zS3'
  clear hb D
  go_wp2_with fail
  refine (repeat_b [49, 32] _ 4097 _ _ rfl rfl (by decide) (by decide)).mono ?_
  rintro e w58 ⟨⟨S4, rfl, hS4, zS4⟩, hb⟩
  have D := hb
  replace B := B.trans (D.mono B.size)
  have zS4' : (S4.size : Int) ≤ 20000 := by omega
  clear hb D
  go_wp2_with fail
  refine (tokens_b (Lib.repeatL [49, 32] 4097 ++ [64]) _ [] 0 170 _ (hG.below B) (by rw [hS4.out, ← bs_append]; rfl) (by rw [List.length_append, repeatL_len]; decide) told_ones_at rfl).mono ?_
  rintro e w59 ⟨⟨aS4, cS4, rfl⟩, hb⟩
  have D := hb
  replace B := B.trans (D.mono B.size)
  clear hS4 zS4 zS4'
  clear hb D
  go_wp2_with fail
  refine (repeat_b [97] _ 4097 _ _ rfl rfl (by decide) (by decide)).mono ?_
  rintro e w60 ⟨⟨S5, rfl, hS5, zS5⟩, hb⟩
  have D := hb
  replace B := B.trans (D.mono B.size)
  have zS5' : (S5.size : Int) ≤ 20000 := by omega
  clear hb D
  go_wp2_with fail
  refine (tokens_b (39 :: (Lib.repeatL [97] 4097 ++ [39])) _ [] 0 9 _ (hG.below B) (by rw [hS5.out, show (39 :: (Lib.repeatL [97] 4097 ++ [39]) : List UInt8) = [39] ++ Lib.repeatL [97] 4097 ++ [39] by simp, ← bs_append, ← bs_append]; rfl) (by rw [List.length_cons, List.length_append, repeatL_len]; decide) told_as rfl).mono ?_
  rintro e w61 ⟨⟨aS5, cS5, rfl⟩, hb⟩
  have D := hb
  replace B := B.trans (D.mono B.size)
  clear hS5 zS5 zS5'
  clear hb D
  go_wp2_with fail
  refine (split_b [97, 125, 10, 98, 123, 10, 125, 226, 139, 132, 39, 99] _ [[97, 125], [98, 123, 10, 125], [39, 99]] 3 _ rfl (by decide) (by decide +kernel) rfl).mono ?_
  rintro e w62 ⟨⟨ap, cp, rfl, hp⟩, hb⟩
  have D := hb
  replace B := B.trans (D.mono B.size)
  clear hb D
  have hr := fun (O : Obj) (hO : O = .cells #[.string ⟨#[97, 125]⟩, .string ⟨#[98, 123, 10, 125]⟩, .string ⟨#[39, 99]⟩] 9) => rtexts_any _ (.slice (some ⟨w62.heap.size, 0, none⟩) 3 3) _ (([[97, 125], [98, 123, 10, 125], [39, 99]] : List (List UInt8)).map bs) (w62.alloc O) (hp.below ((Below.refl _ w62).alloc (Nat.le_refl _) O)) (by subst hO; exact strs_lit (([[97, 125], [98, 123, 10, 125], [39, 99]] : List (List UInt8)).map bs) (heap_alloc_new _ _) rfl (by simp [maxLen]))
  go_wp2_with fail
  refine (hr _ rfl).mono ?_
  rintro e w63 ⟨rfl, nq, hq⟩
  rw [show decide True = true from rfl]
  replace B : Below w.heap.size w w63 := by rw [hq]; exact below_drewN (B.alloc B.size _) nq
  clear hr hp hq
  go_wp2_with fail
  refine (split_b [] _ [] 0 _ rfl (by decide) (by decide +kernel) rfl).mono ?_
  rintro e w64 ⟨⟨as0, cs0, rfl, hp⟩, hb⟩
  have D := hb
  replace B := B.trans (D.mono B.size)
  clear hp
  clear hb D
  go_wp2_with fail
  refine (names_b _ true _ (by decide) (by decide +kernel)).mono ?_
  rintro e w65 ⟨rfl, hb⟩
  have D := hb
  replace B := B.trans (D.mono B.size)
  clear hb D
  go_wp2_with fail
  refine (names_b _ false _ (by decide) (by decide +kernel)).mono ?_
  rintro e w66 ⟨rfl, hb⟩
  have D := hb
  replace B := B.trans (D.mono B.size)
  clear hb D
  go_wp2_with fail
  refine (names_b _ false _ (by decide) (by decide +kernel)).mono ?_
  rintro e w67 ⟨rfl, hb⟩
  have D := hb
  replace B := B.trans (D.mono B.size)
  clear hb D
  go_wp2_with fail
  refine (names_b _ false _ (by decide) (by decide +kernel)).mono ?_
  rintro e w68 ⟨rfl, hb⟩
  have D := hb
  replace B := B.trans (D.mono B.size)
  clear hb D
  go_wp2_with fail
  refine (lwname_any _ _).mono ?_
  rintro e w69 ⟨rfl, hb⟩
  have D := hb
  replace B := B.trans (D.mono B.size)
  clear hb D
  go_wp2_with fail
  refine (lwglyph_any _ _).mono ?_
  rintro e w70 ⟨rfl, hb⟩
  have D := hb
  replace B := B.trans (D.mono B.size)
  clear hb D
  have hv := fun (O : Obj) (hO : O = .cells #[.int .i64 1, .int .i64 (-2)] 2) => vector_own (.slice (some ⟨w70.heap.size, 0, none⟩) 2 2) [1, (-2)] (w70.alloc O) (by
      subst hO
      exact Ints.of_owns (e := 2) (base := 0) (show World.ownsRow _ _ _ _ (.slice (some ⟨w70.heap.size, 0, none⟩) ([1, (-2)] : List Int).length 2) ([1, (-2)] : List Int).length (([1, (-2)] : List Int).map (.int .i64)) from owns_lit (cs := ([1, (-2)] : List Int).map (.int .i64)) (heap_alloc_new _ _) (Nat.zero_le _) (by simp [maxLen])))
    (rng_of (by decide)) (by decide)
  go_wp2_with fail
  refine (hv _ rfl).mono ?_
  rintro e w71 ⟨⟨v, rfl, o71⟩, hb⟩
  have D := ((Below.refl _ w70).alloc (Nat.le_refl _) (.cells #[.int .i64 1, .int .i64 (-2)] 2)).trans (hb.mono (by simp))
  replace B := B.trans (D.mono B.size)
  clear hv
  obtain ⟨vs, ve, rfl, os, oe, -⟩ := id o71
  obtain ⟨o71a, o71c, rfl⟩ := own_slice os
  obtain ⟨o71x, o71y, rfl⟩ := own_slice oe
  clear os oe
  simp only [List.length_cons, List.length_nil, Nat.zero_add, Nat.reduceAdd] at *
  clear hb D
  go_wp2_with fail
  refine (lwvalue_any _ _ _ _ _ _ _ _).mono ?_
  rintro e w72 ⟨rfl, hb⟩
  have D := hb
  replace B := B.trans (D.mono B.size)
  replace o71 := o71.below D
  clear hb D
  have hv := chars_own ⟨#[97]⟩ w72 (by decide)
  rw [show runesOf ⟨#[97]⟩ = [97] by decide +kernel] at hv
  go_wp2_with fail
  refine (hv).mono ?_
  rintro e w73 ⟨⟨v, rfl, o73⟩, hb⟩
  have D := hb
  replace B := B.trans (D.mono B.size)
  replace o71 := o71.below D
  clear hv
  obtain ⟨vs, ve, rfl, os, oe, -⟩ := id o73
  obtain ⟨o73a, o73c, rfl⟩ := own_slice os
  obtain ⟨o73x, o73y, rfl⟩ := own_slice oe
  clear os oe
  simp only [List.length_cons, List.length_nil, Nat.zero_add, Nat.reduceAdd] at *
  clear hb D
  go_wp2_with fail
  refine (lwvalue_any _ _ _ _ _ _ _ _).mono ?_
  rintro e w74 ⟨rfl, hb⟩
  have D := hb
  replace B := B.trans (D.mono B.size)
  replace o71 := o71.below D
  replace o73 := o73.below D
  clear hb D
  go_wp2_with fail
  refine (lwglyph_any _ _).mono ?_
  rintro e w75 ⟨rfl, hb⟩
  have D := hb
  replace B := B.trans (D.mono B.size)
  replace o71 := o71.below D
  replace o73 := o73.below D
  clear hb D
  go_wp2_with fail
  refine (lwname_any _ _).mono ?_
  rintro e w76 ⟨rfl, hb⟩
  have D := hb
  replace B := B.trans (D.mono B.size)
  replace o71 := o71.below D
  replace o73 := o73.below D
  clear hb D
  have hr := fun (O : Obj) (hO : O = .cells ([[.int .i64 2, .string ⟨#[120]⟩, .int .i64 0, .slice none 0 0, .slice none 0 0], [.int .i64 3, .string ⟨#[226, 134, 144]⟩, .int .i64 0, .slice none 0 0, .slice none 0 0], [.int .i64 1, .string ⟨#[]⟩, .int .i64 1, .slice o71a 1 o71c, .slice o71x 2 o71y], [.int .i64 1, .string ⟨#[]⟩, .int .i64 2, .slice o73a 1 o73c, .slice o73x 1 o73y], [.int .i64 3, .string ⟨#[43, 43]⟩, .int .i64 0, .slice none 0 0, .slice none 0 0], [.int .i64 2, .string ⟨#[49]⟩, .int .i64 0, .slice none 0 0, .slice none 0 0], [.int .i64 0, .string ⟨#[]⟩, .int .i64 0, .slice none 0 0, .slice none 0 0]] : List (List Value)).flatten.toArray 41) => show_b (.slice (some ⟨w76.heap.size, 0, none⟩) 7 7) [⟨2, [120], noArr⟩, ⟨3, [226, 134, 144], noArr⟩, ⟨1, [], ⟨1, [2], [1, (-2)]⟩⟩, ⟨1, [], ⟨2, [1], [97]⟩⟩, ⟨3, [43, 43], noArr⟩, ⟨2, [49], noArr⟩, ⟨0, [], noArr⟩] ⟨#[120, 32, 226, 134, 144, 32, 49, 32, 194, 175, 50, 32, 63, 32, 63, 32, 63, 32, 63]⟩ (w76.alloc O) ((hG.below B).alloc O) ((hT.below B).below ((Below.refl _ w76).alloc (Nat.le_refl _) O)) (by
      subst hO
      have hq := (Below.refl _ w76).alloc (Nat.le_refl _) (.cells ([[.int .i64 2, .string ⟨#[120]⟩, .int .i64 0, .slice none 0 0, .slice none 0 0], [.int .i64 3, .string ⟨#[226, 134, 144]⟩, .int .i64 0, .slice none 0 0, .slice none 0 0], [.int .i64 1, .string ⟨#[]⟩, .int .i64 1, .slice o71a 1 o71c, .slice o71x 2 o71y], [.int .i64 1, .string ⟨#[]⟩, .int .i64 2, .slice o73a 1 o73c, .slice o73x 1 o73y], [.int .i64 3, .string ⟨#[43, 43]⟩, .int .i64 0, .slice none 0 0, .slice none 0 0], [.int .i64 2, .string ⟨#[49]⟩, .int .i64 0, .slice none 0 0, .slice none 0 0], [.int .i64 0, .string ⟨#[]⟩, .int .i64 0, .slice none 0 0, .slice none 0 0]] : List (List Value)).flatten.toArray 41)
      exact toks_lit _ [⟨2, [120], noArr⟩, ⟨3, [226, 134, 144], noArr⟩, ⟨1, [], ⟨1, [2], [1, (-2)]⟩⟩, ⟨1, [], ⟨2, [1], [97]⟩⟩, ⟨3, [43, 43], noArr⟩, ⟨2, [49], noArr⟩, ⟨0, [], noArr⟩] (heap_alloc_new _ _) rfl (by decide) ⟨tokOwn_plain _ _ _, tokOwn_plain _ _ _, tokOwn_arr (o71.below hq), tokOwn_arr (o73.below hq), tokOwn_plain _ _ _, tokOwn_plain _ _ _, tokOwn_plain _ _ _, trivial⟩) (by decide) (by decide) (by decide +kernel)
  go_wp2_with fail
  refine (hr _ rfl).mono ?_
  rintro e w77 ⟨rfl, hb⟩
  have D := ((Below.refl _ w76).alloc (Nat.le_refl _) (.cells ([[.int .i64 2, .string ⟨#[120]⟩, .int .i64 0, .slice none 0 0, .slice none 0 0], [.int .i64 3, .string ⟨#[226, 134, 144]⟩, .int .i64 0, .slice none 0 0, .slice none 0 0], [.int .i64 1, .string ⟨#[]⟩, .int .i64 1, .slice o71a 1 o71c, .slice o71x 2 o71y], [.int .i64 1, .string ⟨#[]⟩, .int .i64 2, .slice o73a 1 o73c, .slice o73x 1 o73y], [.int .i64 3, .string ⟨#[43, 43]⟩, .int .i64 0, .slice none 0 0, .slice none 0 0], [.int .i64 2, .string ⟨#[49]⟩, .int .i64 0, .slice none 0 0, .slice none 0 0], [.int .i64 0, .string ⟨#[]⟩, .int .i64 0, .slice none 0 0, .slice none 0 0]] : List (List Value)).flatten.toArray 41)).trans (hb.mono (by simp))
  replace B := B.trans (D.mono B.size)
  replace o71 := o71.below D
  replace o73 := o73.below D
  clear hr
  clear o71 o73
  clear hb D
  go_wp2_with fail
  refine (lalive_any _ (hG.below B)).mono ?_
  rintro e w78 ⟨rfl, hb⟩
  have D := hb
  replace B := B.trans (D.mono B.size)
  clear hb D
  go_wp2_with fail
  go_ret
  exact ⟨rfl, B⟩
end Go.Proofs.YtgjaajgdiggbeaaGreatDoor
