/- alive: the chapter's first examples; text, Scalar, Vector. -/
import Derived.Test.YtjapijkgjgfcnaaDoorTextAll
import Derived.Test.YtjapijkgjgfcnaaDoorAt
namespace Go.Proofs.YtjapijkgjgfcnaaDoor
open Go.RowKit Go.Shelf
set_option linter.unusedVariables false

theorem str_eq (a b : ByteArray) : (a.toList == b.toList) = decide (a = b) := by
  by_cases h : a = b
  · subst h; simp
  · rw [str_ne h, decide_eq_false h]

def textB (x : Arr) (want : ByteArray) : Bool := okArr x && decide (bs (textOf x) = want)

set_option maxRecDepth 100000 in
theorem text_fn (v : Value) (x : Arr) (want : ByteArray) (w : World) (hT : Tabs w) (hx : IsArr w v x) :
    Calls Tryd.prog 22 #[v, .string want] w fun e w' => e = .returned (.bool (textB x want)) ∧ Below w.heap.size w w' := by
  have hxb := fun o => hx.below ((Below.refl _ w).alloc (Nat.le_refl _) o)
  have hB1 := fun o => (Below.refl _ w).alloc (Nat.le_refl _) o
  have hTb := fun o => hT.below (hB1 o)
  obtain ⟨vs, ve, rfl, hs, he, -⟩ := hx
  cases ho : okArr x with
  | false =>
    have H1 : Hid (textB x want = false) := hid (by unfold textB; rw [ho]; rfl)
    have H2 : Hid (chk x = 110) := hid (by unfold chk; rw [ho]; rfl)
    clear ho
    go_enter Tryd.func22, Tryd.ntmps22
    go_wp2_with fail
    refine (text_any _ x _ (hTb _) (hxb _)).mono ?_
    rintro e w' ⟨rfl, hb⟩
    rw [H2.out]
    have hB := (hB1 _).trans (hb.mono (hB1 _).size)
    go_wp2_with fail
    go_ret
    exact ⟨by rw [H1.out]; rfl, hB⟩
  | true =>
    have H1 : Hid (((bs (textOf x)).toList == want.toList) = textB x want) := hid (by unfold textB; rw [ho, str_eq]; rfl)
    have H2 : Hid (chk x = 0) := hid (by unfold chk; rw [ho]; rfl)
    have H3 : Hid (textRes x = textOf x) := hid (by unfold textRes; rw [ho]; rfl)
    clear ho
    go_enter Tryd.func22, Tryd.ntmps22
    go_wp2_with fail
    refine (text_any _ x _ (hTb _) (hxb _)).mono ?_
    rintro e w' ⟨rfl, hb⟩
    rw [H2.out, H3.out]
    have hB := (hB1 _).trans (hb.mono (hB1 _).size)
    generalize bs (textOf x) = t at *
    go_wp2_with fail
    go_ret
    exact ⟨by rw [H1.out]; rfl, hB⟩

theorem ints_one {w : World} {b : Nat} {n : Int} (h : w.cell? ⟨b, 0, none⟩ = some (.int .i64 n)) : Ints w (.slice (some ⟨b, 0, none⟩) 1 1) [n] := by
  refine ⟨some ⟨b, 0, none⟩, 1, rfl, by simp, by omega, by simp, fun i hi => ⟨b, 0, rfl, ?_⟩⟩
  obtain rfl : i = 0 := by simpa using hi
  simpa using h
theorem ints_two {w : World} {b : Nat} {m n : Int} (h0 : w.cell? ⟨b, 0, none⟩ = some (.int .i64 m)) (h1 : w.cell? ⟨b, 1, none⟩ = some (.int .i64 n)) : Ints w (.slice (some ⟨b, 0, none⟩) 2 2) [m, n] := by
  refine ⟨some ⟨b, 0, none⟩, 2, rfl, by simp, by omega, by simp, fun i hi => ⟨b, 0, rfl, ?_⟩⟩
  have hi' : i < 2 := by simpa using hi
  match i, hi' with
  | 0, _ => simpa using h0
  | 1, _ => simpa using h1

set_option maxRecDepth 100000 in
/-- slices.Clone of int64s. -/
theorem clone64_any (v : Value) (xs : List Int) (w : World) (hx : Ints w v xs) (hl : xs.length ≤ 1000000) :
    Calls Tryd.prog 48 #[v] w fun e w' => ∃ v', e = .returned v' ∧ w'.ownsRow w.heap.size 2 1 v' xs.length (xs.map (.int .i64)) ∧ Below w.heap.size w w' := by
  obtain ⟨a, cap, rfl, h1, h2, h3, hc⟩ := hx.parts
  cases a with
  | none =>
    have : xs = [] := List.eq_nil_of_length_eq_zero (by have := h3 rfl; omega)
    subst this
    refine (Tryd.slices_Clone_nil_f48 0 cap w).mono ?_
    rintro e w' ⟨rfl, rfl⟩
    exact ⟨_, rfl, World.ownsRow_nil _ _ _ _, Below.refl _ _⟩
  | some ad =>
    have hinfo : (Tryd.prog.info? 2).map (fun i => (i.zero, i.size, i.bytes)) = some (some (.int .i64 0), 1, 8) := by kernel_rfl
    obtain ⟨i0, hi, hz0, hz1, hz2⟩ := info_parts hinfo
    rcases hc with h0 | ⟨b, o, e, hc⟩
    · subst h0
      have q22 : ∀ (w : World) (a : Option Addr) (n c n' c' : Nat), (binOp .eql 33 (.slice a n c) (.slice none n' c')).run Tryd.prog w = .ok (.bool a.isNone) w := fun w a n c n' c' => Lib.run_eql_slice_nil w _ _ a n c n' c' Tryd.underlying33
      go_enter Tryd.func48, Tryd.ntmps48
      go_wp2_with (at_builtin; refine wpList_append_own _ rfl _ _ 33 rfl w.heap.size 2 i0 (.int .i64 0) 1 8 Tryd.underlying33 hi hz0 hz1 hz2 rfl (by decide) _ _ _ rfl (World.ownsRow_made w #[] 0 (Nat.le_refl _) (Nat.zero_le _) rfl) ad 0 cap [] rfl rfl (by intro j u hj; simp at hj) (by intro u hu; cases hu) (by unfold maxLen; omega) (by omega) (by simp) ?_)
      intro v' w1 hown hgrow hnil
      go_wp2
      go_ret
      exact ⟨v', rfl, by simpa using hown, ((Below.refl _ w).alloc (Nat.le_refl _) _).grown hgrow (by simp) (by intro k hk; simp [Value.ownBlock] at hk; omega)⟩
    obtain rfl : ad = ⟨b, o, none⟩ := by simpa using e
    refine (Tryd.slices_Clone_f48 i0 (.int .i64 0) 1 8 hi hz0 hz1 hz2 rfl (by decide) Tryd.sizeOf2 b o xs.length cap (xs.map (.int .i64)) w (by simp) (by simp [maxLen]; omega) (by omega) (fun j u hj => by
      obtain ⟨hj', rfl⟩ := List.getElem?_eq_some_iff.1 hj
      have hj2 : j < xs.length := by simpa using hj'
      have := hc j hj2
      rw [List.getElem?_eq_getElem hj2, Option.getD_some] at this
      rw [List.getElem_map]; exact this) (by
      intro u hu; obtain ⟨n, _, rfl⟩ := List.mem_map.1 hu; rfl)).mono ?_
    rintro e w' ⟨v', rfl, h, -, hb⟩
    exact ⟨v', rfl, h, hb⟩

theorem heap_set1 {w : World} {b i : Nat} {cs : Array Value} {T : TypeId} {fr : Nat × Nat} (hb : w.heap[b]? = some (.cells cs T fr)) (v : Value) :
    (w.setCell ⟨b, i, none⟩ v).heap[b]? = some (.cells (cs.setIfInBounds i v) T fr) := by
  simp [World.setCell, Array.getElem?_modify, hb]
theorem cell_far (w : World) (p a : Addr) (v : Value) (h : a.block ≠ p.block) : (w.setCell p v).cell? a = w.cell? a :=
  World.cell?_of_block (Below.heap_setCell w p v a.block h)

theorem heap_set3 {w : World} {b : Nat} {t : TypeId} {u0 u1 u2 : Value} (h : w.heap[b]? = some (.cells #[u0, u1, u2] t)) (a0 a1 a2 : Value) :
    (((w.setCell ⟨b, 0, none⟩ a0).setCell ⟨b, 1, none⟩ a1).setCell ⟨b, 2, none⟩ a2).heap[b]? = some (.cells #[a0, a1, a2] t) :=
  heap_set1 (i := 2) (heap_set1 (i := 1) (heap_set1 (i := 0) h a0) a1) a2

set_option maxRecDepth 100000 in
theorem scalar_any (n : Int) (w : World) (h0 : -9223372036854775808 ≤ n) (h1 : n ≤ 9223372036854775807) :
    Calls Tryd.prog 25 #[.int .i64 n] w fun e w' => (∃ v, e = .returned v ∧ IsArr w' v ⟨1, [], [n]⟩) ∧ Below w.heap.size w w' := by
  go_enter Tryd.func25, Tryd.ntmps25
  go_wp2
  refine bodyPost_ret (results_cell_row rfl _ _ w.heap.size _ _ _ _ rfl ((heap_alloc_old _ _ (by simp)).trans (heap_alloc_new _ _)) Tryd.underlying35 rfl (by kernel_rfl)) rfl ?_
  refine ⟨⟨_, rfl, _, _, rfl, Ints.nil _, ints_one (by simp), ?_⟩, ((Below.refl _ w).alloc (Nat.le_refl _) _).alloc (by simp) _⟩
  intro i hi
  obtain rfl : i = 0 := by simpa using hi
  exact ⟨h0, h1⟩

set_option maxRecDepth 100000 in
theorem vector_any (v : Value) (xs : List Int) (w : World) (hx : Ints w v xs) (hr : Rng xs) (hl : xs.length ≤ 1000000) :
    Calls Tryd.prog 23 #[v] w fun e w' => (∃ v, e = .returned v ∧ IsArr w' v ⟨1, [(xs.length : Int)], xs⟩) ∧ Below w.heap.size w w' := by
  obtain ⟨a, cap, rfl, h1, h2, h3, -⟩ := hx.parts
  have hB1 : ∀ o, Below w.heap.size w (w.alloc o) := fun o => (Below.refl _ w).alloc (Nat.le_refl _) o
  have hB2 : ∀ o o', Below w.heap.size w ((w.alloc o).alloc o') := fun o o' => (hB1 o).alloc (by simp) o'
  have hx2 := fun o o' => hx.below (hB2 o o')
  go_enter Tryd.func23, Tryd.ntmps23
  go_wp2_with fail
  refine (clone64_any _ xs _ (hx2 _ _) hl).mono ?_
  rintro e w1 ⟨v', rfl, hown, hb⟩
  have hio := Ints.of_owns hown
  have hBw := (hB2 _ _).trans (hb.mono (hB2 _ _).size)
  have hcell : w1.cell? ⟨w.heap.size + 1, 0, none⟩ = some (.int .i64 xs.length) := (hb.cell (by simp)).trans (by simp)
  have hold : w1.heap[w.heap.size]? = _ := (hb.block _ (by simp; omega)).trans ((heap_alloc_old _ _ (by simp)).trans (heap_alloc_new _ _))
  obtain ⟨ao, co, rfl⟩ : ∃ ao co, v' = .slice ao xs.length co := by
    rcases hown.2 with ⟨hv, h0⟩ | ⟨g, cap, cur, hv, _⟩
    · exact ⟨none, 0, by rw [hv, h0]⟩
    · exact ⟨_, _, hv⟩
  have f0 : ∀ i, w1.frozen? ⟨w.heap.size, i, none⟩ = false := Lib.frozen_of_heap hold
  have d0 := f0 0
  have d1 := f0 1
  have d2 := f0 2
  have c0 : w1.cell? ⟨w.heap.size, 0, none⟩ = some (.int .i64 0) := by rw [Lib.cell_of_heap hold]; rfl
  have c1 : w1.cell? ⟨w.heap.size, 1, none⟩ = some (.slice none 0 0) := by rw [Lib.cell_of_heap hold]; rfl
  have c2 : w1.cell? ⟨w.heap.size, 2, none⟩ = some (.slice none 0 0) := by rw [Lib.cell_of_heap hold]; rfl
  go_wp2_with fail
  have hW := heap_set3 hold (.int .i64 1) (.slice (some ⟨w.heap.size + 1, 0, none⟩) 1 1) (.slice ao xs.length co)
  have hbase : w.heap.size < ((w.alloc (.cells #[.int .i64 0, .slice none 0 0, .slice none 0 0] 35)).alloc (.cells #[.int .i64 xs.length] 3)).heap.size := by simp; omega
  have hown2 := ownsRow_setCell_below (ownsRow_setCell_below (ownsRow_setCell_below hown (a := ⟨w.heap.size, 0, none⟩) hbase (.int .i64 1)) (a := ⟨w.heap.size, 1, none⟩) hbase (.slice (some ⟨w.heap.size + 1, 0, none⟩) 1 1)) (a := ⟨w.heap.size, 2, none⟩) hbase (.slice ao xs.length co)
  have hBW := ((hBw.setCell (p := ⟨w.heap.size, 0, none⟩) (Nat.le_refl _) (.int .i64 1)).setCell (p := ⟨w.heap.size, 1, none⟩) (Nat.le_refl _) (.slice (some ⟨w.heap.size + 1, 0, none⟩) 1 1)).setCell (p := ⟨w.heap.size, 2, none⟩) (Nat.le_refl _) (.slice ao xs.length co)
  have hcW : (((w1.setCell ⟨w.heap.size, 0, none⟩ (.int .i64 1)).setCell ⟨w.heap.size, 1, none⟩ (.slice (some ⟨w.heap.size + 1, 0, none⟩) 1 1)).setCell ⟨w.heap.size, 2, none⟩ (.slice ao xs.length co)).cell? ⟨w.heap.size + 1, 0, none⟩ = some (.int .i64 xs.length) := by
    rw [cell_far _ _ _ _ (by simp), cell_far _ _ _ _ (by simp), cell_far _ _ _ _ (by simp)]; exact hcell
  clear hown hold hcell hio hb hBw
  generalize ((w1.setCell ⟨w.heap.size, 0, none⟩ (.int .i64 1)).setCell ⟨w.heap.size, 1, none⟩ (.slice (some ⟨w.heap.size + 1, 0, none⟩) 1 1)).setCell ⟨w.heap.size, 2, none⟩ (.slice ao xs.length co) = W at *
  refine bodyPost_ret (results_cell_row rfl _ _ w.heap.size _ _ _ _ rfl hW Tryd.underlying35 rfl (by kernel_rfl)) rfl ?_
  exact ⟨⟨_, rfl, _, _, rfl, ints_one hcW, Ints.of_owns hown2, hr⟩, hBW⟩

/-- Two ints laid in a new block. -/
theorem ints_lit2 (w : World) (m n : Int) (t : TypeId) : Ints (w.alloc (.cells #[.int .i64 m, .int .i64 n] t)) (.slice (some ⟨w.heap.size, 0, none⟩) 2 2) [m, n] := ints_two (by simp) (by simp)

theorem dd5 : Lib.decDigits 5 = [53] := by rw [Lib.decDigits]; rfl
theorem dd1 : Lib.decDigits 1 = [49] := by rw [Lib.decDigits]; rfl
theorem dd2 : Lib.decDigits 2 = [50] := by rw [Lib.decDigits]; rfl

theorem alive1 : textB ⟨1, [], [-5]⟩ ⟨#[194, 175, 53]⟩ = true := by
  unfold textB
  rw [show okArr ⟨1, [], [-5]⟩ = true by decide]
  simp [textOf, bare, elemText, dig, dd5, Lib.join, bs, List.intercalate]
theorem alive2 : textB ⟨1, [2], [1, -2]⟩ ⟨#[49, 32, 194, 175, 50]⟩ = true := by
  unfold textB
  rw [show okArr ⟨1, [2], [1, -2]⟩ = true by decide]
  simp [textOf, bare, elemText, dig, dd1, dd2, Lib.join, bs, List.intercalate]

set_option maxRecDepth 100000 in
set_option maxHeartbeats 1000000 in
theorem alive_any (w : World) (hT : Tabs w) : Calls Tryd.prog 9 #[] w fun e w' => e = .returned (.bool true) ∧ Below w.heap.size w w' := by
  have hB1 := fun o => (Below.refl _ w).alloc (Nat.le_refl _) o
  go_enter Tryd.func9, Tryd.ntmps9
  go_wp2_with fail
  refine (count_any _ [2, 3] _ (ints_lit2 _ _ _ _)).mono ?_
  rintro e w1 ⟨rfl, rfl⟩
  rw [show cRes (count [2, 3]) = .tuple #[.int .i64 6, .int .i64 0] from rfl]
  go_wp2_with fail
  have i1 : Ints (((w.alloc (.cells #[.int .i64 2, .int .i64 3] 3)).alloc (.cells #[.int .i64 2, .int .i64 3] 3)).alloc (.cells #[.int .i64 1, .int .i64 2] 3)) (.slice (some ⟨w.heap.size + 1, 0, none⟩) 2 2) [2, 3] := ints_two (by go_simp) (by go_simp)
  have i2 : Ints (((w.alloc (.cells #[.int .i64 2, .int .i64 3] 3)).alloc (.cells #[.int .i64 2, .int .i64 3] 3)).alloc (.cells #[.int .i64 1, .int .i64 2] 3)) (.slice (some ⟨w.heap.size + 1 + 1, 0, none⟩) 2 2) [1, 2] := ints_two (by go_simp) (by go_simp)
  have hB3 := ((hB1 (.cells #[.int .i64 2, .int .i64 3] 3)).alloc (by simp) (.cells #[.int .i64 2, .int .i64 3] 3)).alloc (by simp; omega) (.cells #[.int .i64 1, .int .i64 2] 3)
  generalize (((w.alloc (.cells #[.int .i64 2, .int .i64 3] 3)).alloc (.cells #[.int .i64 2, .int .i64 3] 3)).alloc (.cells #[.int .i64 1, .int .i64 2] 3)) = w2 at *
  refine (place_any _ _ [2, 3] [1, 2] _ i1 i2).mono ?_
  rintro e w3 ⟨rfl, hb3⟩
  rw [show pRes (place [2, 3] [1, 2]) = .tuple #[.int .i64 5, .bool true] from rfl]
  have hBw3 := hB3.trans (hb3.mono hB3.size)
  clear i1 i2 hb3 hB3
  go_wp2_with fail
  refine (scalar_any (-5) _ (by omega) (by omega)).mono ?_
  rintro e w4 ⟨⟨v4, rfl, ha4⟩, hb4⟩
  have hBw4 := hBw3.trans (hb4.mono hBw3.size)
  clear hb4 hBw3
  go_wp2_with fail
  refine (text_fn v4 _ ⟨#[194, 175, 53]⟩ _ (hT.below hBw4) ha4).mono ?_
  rintro e w5 ⟨rfl, hb5⟩
  rw [alive1]
  have hBw5 := hBw4.trans (hb5.mono hBw4.size)
  clear hb5 hBw4 ha4
  go_wp2_with fail
  refine (vector_any _ [1, -2] _ (ints_lit2 _ _ _ _) (by intro i hi; have : i < 2 := by simpa using hi
                                                         match i, this with
                                                         | 0, _ => decide
                                                         | 1, _ => decide) (by decide)).mono ?_
  rintro e w6 ⟨⟨v6, rfl, ha6⟩, hb6⟩
  have hBw6 := (hBw5.alloc hBw5.size _).trans (hb6.mono (by have := hBw5.size; simp; omega))
  clear hb6 hBw5
  go_wp2_with fail
  refine (text_fn v6 _ ⟨#[49, 32, 194, 175, 50]⟩ _ (hT.below hBw6) ha6).mono ?_
  rintro e w7 ⟨rfl, hb7⟩
  have hBw7 := hBw6.trans (hb7.mono hBw6.size)
  rw [show textB ⟨1, [(([1, -2] : List Int).length : Int)], [1, -2]⟩ ⟨#[49, 32, 194, 175, 50]⟩ = true from alive2]
  clear hb7 hBw6 ha6
  go_wp2_with fail
  go_ret
  exact ⟨rfl, hBw7⟩

end Go.Proofs.YtjapijkgjgfcnaaDoor
