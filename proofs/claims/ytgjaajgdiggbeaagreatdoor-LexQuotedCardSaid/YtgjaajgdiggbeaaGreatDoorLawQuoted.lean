/- LexQuoted: the walk of the law. -/
import Derived.Test.YtgjaajgdiggbeaaGreatDoorLAlive
namespace Go.Proofs.YtgjaajgdiggbeaaGreatDoor
open Go.RowKit Go.Shelf
open Go.Lib (encodeRune)
set_option linter.unusedVariables false
set_option linter.unusedSimpArgs false

/-- Characters, each quote twice. -/
def qenc : List Int → List UInt8
  | [] => []
  | c :: r => (if c = 39 then [39, 39] else encodeRune c) ++ qenc r
theorem qenc_snoc (xs : List Int) (c : Int) : qenc (xs ++ [c]) = qenc xs ++ (if c = 39 then [39, 39] else encodeRune c) := by
  induction xs with
  | nil => simp [qenc]
  | cons x r ih => rw [List.cons_append, qenc, ih, qenc, List.append_assoc]
theorem qenc_subst {xs : List Int} (h : ∀ c ∈ xs, isChar c = true) : qenc xs = subst 39 [39, 39] (encs xs) := by
  induction xs with
  | nil => rfl
  | cons c r ih =>
    rw [qenc, encs_cons, subst_append, ih fun x hx => h x (by simp [hx])]
    congr 1
    by_cases hc : c = 39
    · rw [if_pos hc, hc]; decide
    · rw [if_neg hc, subst_id (enc_no39 (h c (by simp)) hc)]
theorem qenc_len (xs : List Int) : (qenc xs).length ≤ 4 * xs.length := by
  induction xs with
  | nil => simp [qenc]
  | cons c r ih =>
    rw [qenc, List.length_append, List.length_cons]
    have : (if c = 39 then [39, 39] else encodeRune c : List UInt8).length ≤ 4 := by
      split
      · simp
      · rw [← Lib.runeCells_length]; exact (Lib.runeCells_le c).2
    omega

theorem runs_quoted (t : List UInt8) : runs true 0 (subst 39 [39, 39] t ++ [39]) = some (false, 0) := by
  induction t with
  | nil => decide
  | cons c t ih =>
    by_cases hc : c = 39
    · subst hc
      have e : subst 39 [39, 39] (39 :: t) = 39 :: 39 :: subst 39 [39, 39] t := by simp [subst]
      rw [e, List.cons_append, List.cons_append, runs, if_pos (by unfold cutL; simp)]
      show runs false 0 (39 :: (subst 39 [39, 39] t ++ [39])) = _
      rw [runs, if_pos (by unfold cutL Lib.hasPrefix dia; simp [List.isPrefixOf])]
      exact ih
    · have e : subst 39 [39, 39] (c :: t) = c :: subst 39 [39, 39] t := by simp [subst, hc]
      rw [e, List.cons_append, runs, if_pos (by unfold cutL; simp)]
      have : stepSt c true 0 = (true, 0) := by unfold stepSt; rw [if_neg hc, if_pos rfl]
      rw [this]
      exact ih
theorem pieces_quoted (t : List UInt8) : piecesOf (39 :: (subst 39 [39, 39] t ++ [39])) = [39 :: (subst 39 [39, 39] t ++ [39])] := by
  have h : runs false 0 (39 :: (subst 39 [39, 39] t ++ [39])) = some (false, 0) := by
    rw [runs, if_pos (by unfold cutL Lib.hasPrefix dia; simp [List.isPrefixOf])]
    exact runs_quoted t
  unfold piecesOf
  rw [runs_one _ _ _ _ _ h, List.nil_append, List.filter_cons, if_pos (by unfold nbl; simp), List.filter_nil]
theorem tokens_quoted {xs : List Int} (hc : ∀ c ∈ xs, isChar c = true) (hl : xs.length ≤ 4096) : tokensOf (39 :: (subst 39 [39, 39] (encs xs) ++ [39])) = ([⟨1, [], chrsArr xs⟩], 0) := by
  have hr : Rng xs := rng_of fun x hx => isChar_rng (hc x hx)
  have h := tokens_shown (T := [⟨1, [], chrsArr xs⟩]) ⟨.inl ⟨rfl, rfl, chrs_canV hc hl, hr⟩, fun u s e => (by cases e), trivial⟩ (by simp)
  have e : shText [⟨1, [], chrsArr xs⟩] = 39 :: (subst 39 [39, 39] (encs xs) ++ [39]) := by
    show shw ⟨1, [], chrsArr xs⟩ ++ [] = _
    rw [List.append_nil]
    unfold shw elemText chrsArr
    simp
  rw [← e]; exact h

theorem builder_below {T e : TypeId} {B b : Nat} {bs : List Value} {w w' : World} (h : Lib.IsBuilderF T e B b bs w) (hb : Below w.heap.size w w') : Lib.IsBuilderF T e B b bs w' := by
  have key : ∀ p, Lib.BuilderAtF T e B b p bs w → Lib.BuilderAtF T e B b p bs w' := by
    rintro p ⟨h1, v, h2, ⟨h3, h4⟩, h5⟩
    refine ⟨h1, v, (hb.block b (Array.getElem?_eq_some_iff.1 h2).1).trans h2, ⟨h3, ?_⟩, h5⟩
    rcases h4 with h4 | ⟨g, cap, cur, fz, a, c, d, r⟩
    · exact .inl h4
    · exact .inr ⟨g, cap, cur, fz, a, c, (hb.block g (Array.getElem?_eq_some_iff.1 d).1).trans d, r⟩
  exact h.elim (fun x => .inl (key _ x)) (fun x => .inr (key _ x))

theorem below_setBoth {B : Nat} {a c : World} (h : Below B a c) (p : Addr) (v : Value) : Below B (a.setCell p v) (c.setCell p v) := by
  refine ⟨h.os, h.tape, h.output, by have := h.size; simpa [World.setCell] using this, fun k hk => ?_⟩
  have := h.block k hk
  simp [World.setCell, Array.getElem?_modify, this]
theorem own_others {w w' : World} {base k n : Nat} {e e' : TypeId} {b : Nat} {v : Value} {xs : List Value} (h : w.ownsRow base e k v n xs) (ho : Lib.OthersKept e' (some b) w w') (hne : e ≠ e') (hb : b < base) : w'.ownsRow base e k v n xs := by
  obtain ⟨h1, h2 | ⟨g, cap, cur, hv, h3, h4, h5⟩⟩ := h
  · exact ⟨h1, .inl h2⟩
  · exact ⟨h1, .inr ⟨g, cap, cur, hv, h3, ho g _ h4 (fun e => by cases e; omega) (fun c fz e => by cases e; exact hne rfl), h5⟩⟩
set_option maxRecDepth 100000 in
set_option maxHeartbeats 8000000 in
theorem quoted_walk (v : Value) (x : Arr) (w : World) (hG : Glob w) (hx : IsArr w v x) :
    Calls Tryz.prog 3 #[v] w fun e w' => e = .returned (.bool true) ∧ Below w.heap.size w w' := by
  obtain ⟨vs, ve, rfl, hs, he, hr⟩ := hx
  obtain ⟨as_, cs, rfl, s1, s2, s3, -⟩ := hs.parts
  obtain ⟨ae, ce, rfl, e1, e2, e3, -⟩ := he.parts
  have hA0 := heap_alloc_new w (.cells #[.int .i64 x.kind, .slice as_ x.shape.length cs, .slice ae x.elems.length ce] 25)
  have hB0 := (Below.refl _ w).alloc (Nat.le_refl _) (.cells #[.int .i64 x.kind, .slice as_ x.shape.length cs, .slice ae x.elems.length ce] 25)
  have hG0 := hG.alloc (.cells #[.int .i64 x.kind, .slice as_ x.shape.length cs, .slice ae x.elems.length ce] 25)
  go_enter Tryz.func3, Tryz.ntmps3
  go_wp2_with fail
  refine (lalive_any _ hG0).mono ?_
  rintro e w1 ⟨rfl, b1⟩
  have hA1 := (b1.block w.heap.size (by simp)).trans hA0
  have B1 := hB0.trans (b1.mono hB0.size)
  have hG1 := hG0.below b1
  have z1 : w.heap.size < w1.heap.size := (Array.getElem?_eq_some_iff.1 hA1).1
  obtain ⟨c0, c1, c2, f0, f1, f2⟩ := zero_facts hA1
  clear hA0 hB0 hG0 b1 hs
  by_cases hn : 1000 < x.elems.length
  · have d1 : decide (1000 < x.elems.length) = true := by simpa using hn
    have d2 : decide ((1000 : Int) < (x.elems.length : Int)) = true := by simp; omega
    clear hn
    go_wp2_with fail
    go_ret
    exact ⟨rfl, B1⟩
  have d1 : decide (1000 < x.elems.length) = false := by simpa using hn
  have d2 : decide ((1000 : Int) < (x.elems.length : Int)) = false := by simp; omega
  by_cases hk : ¬ x.kind = 2
  · have t1 : (x.kind != 2) = true := by simpa using hk
    clear hk hn
    go_wp2_with fail
    go_ret
    exact ⟨rfl, B1⟩
  have hk : x.kind = 2 := by omega
  have t1 : (x.kind != 2) = false := by simp [hk]
  obtain ⟨kind, shape, xs⟩ := x
  simp only at hk he hr hA1 c0 c1 c2 d1 d2 t1 e1 hn ⊢
  subst hk
  have Hn := hid (show xs.length ≤ 1000 by omega)
  clear hn
  go_wp2_with fail
  have hzs : (w1.setCell ⟨w.heap.size, 1, none⟩ (.slice (some ⟨w1.heap.size, 0, none⟩) 1 1)).heap.size = w1.heap.size := by simp [World.setCell]
  have hN1 := heap_alloc_new (w1.setCell ⟨w.heap.size, 1, none⟩ (.slice (some ⟨w1.heap.size, 0, none⟩) 1 1)) (.cells #[.int .i64 xs.length] 3)
  rw [hzs] at hN1
  have hA2 := (heap_alloc_old (w1.setCell ⟨w.heap.size, 1, none⟩ (.slice (some ⟨w1.heap.size, 0, none⟩) 1 1)) (.cells #[.int .i64 xs.length] 3) (by rw [hzs]; exact z1)).trans (heap_set1 (i := 1) hA1 (.slice (some ⟨w1.heap.size, 0, none⟩) 1 1))
  have B2 := (B1.setCell (p := ⟨w.heap.size, 1, none⟩) (Nat.le_refl _) (.slice (some ⟨w1.heap.size, 0, none⟩) 1 1)).alloc (by rw [hzs]; omega) (.cells #[.int .i64 xs.length] 3)
  have z2 : w1.heap.size < ((w1.setCell ⟨w.heap.size, 1, none⟩ (.slice (some ⟨w1.heap.size, 0, none⟩) 1 1)).alloc (.cells #[.int .i64 xs.length] 3)).heap.size := by simp [World.setCell]
  generalize ((w1.setCell ⟨w.heap.size, 1, none⟩ (.slice (some ⟨w1.heap.size, 0, none⟩) 1 1)).alloc (.cells #[.int .i64 xs.length] 3)) = w2 at *
  rw [show (#[.int .i64 2, .slice as_ shape.length cs, .slice ae xs.length ce] : Array Value).setIfInBounds 1 (.slice (some ⟨w1.heap.size, 0, none⟩) 1 1) = #[.int .i64 2, .slice (some ⟨w1.heap.size, 0, none⟩) 1 1, .slice ae xs.length ce] from rfl] at hA2
  have hI : IsArr w2 (.agg #[.int .i64 2, .slice (some ⟨w1.heap.size, 0, none⟩) 1 1, .slice ae xs.length ce]) ⟨2, [(xs.length : Int)], xs⟩ :=
    ⟨_, _, rfl, Ints.of_owns (e := 3) (base := 0) (xs := [(xs.length : Int)]) (owns_lit (cs := [.int .i64 xs.length]) hN1 (Nat.zero_le _) (by simp [maxLen])), he.below B2, hr⟩
  clear c0 c1 c2 f0 f1 f2 hN1 hA1 B1 hG1
  refine (check_any _ ⟨2, [(xs.length : Int)], xs⟩ _ hI).mono ?_
  rintro e w3 ⟨rfl, b3⟩
  have hA3 := (b3.block w.heap.size (by omega)).trans hA2
  have B3 := B2.trans (b3.mono B2.size)
  have z3 : w1.heap.size < w3.heap.size := Nat.lt_of_lt_of_le z2 b3.size
  have he3 := he.below B3
  have hI3 := hI.below b3
  have hG3 := hG.below B3
  obtain ⟨c0, c1, c2, f0, f1, f2⟩ := zero_facts hA3
  clear hA2 B2 b3 hI
  rcases chk_or ⟨2, [(xs.length : Int)], xs⟩ with hch | hch
  · rw [hch]
    go_wp2_with fail
    go_ret
    exact ⟨rfl, B3⟩
  have hodd : hasOdd xs = false := by
    unfold chk at hch
    split at hch
    · rename_i ho
      rcases (okArr_parts ho).2 with h | h
      · exact absurd (show (2 : Int) = 1 from h) (by decide)
      · exact h.2
    · cases hch
  rw [hch]
  clear hch
  go_wp2_with fail
  have hF := fresh_builder (B := w3.heap.size) (b := w3.heap.size) (w := w3) rfl (Nat.le_refl _)
  refine (writeString_k w3.heap.size w3.heap.size [] ⟨#[39]⟩ _ hF (by decide) (by simp)).mono ?_
  rintro e w4 ⟨rfl, hb4, bel4, -⟩
  have hF4 : Lib.IsBuilderF 32 5 w3.heap.size w3.heap.size (Lib.byteCells (39 :: qenc (xs.take 0))) w4 := .inr hb4
  have B4 := ((Below.refl _ w3).alloc (Nat.le_refl _) _).trans bel4
  have hzA : w.heap.size < w3.heap.size := by omega
  have hA4 := (B4.block w.heap.size hzA).trans hA3
  obtain ⟨c0, c1, c2, f0, f1, f2⟩ := zero_facts hA4
  clear hF hb4 bel4
  go_wp2_with fail
  have hcl := hasOdd_all hodd
  go_loopw [6, 35] (fun _ i wr => ∃ k : Nat, k ≤ xs.length ∧ i = .int .i64 k ∧ Lib.IsBuilderF 32 5 w3.heap.size w3.heap.size (Lib.byteCells (39 :: qenc (xs.take k))) wr ∧ Below w3.heap.size w3 wr) (fun _ i _ => xs.length - (intOf i).toNat)
  case atStart => exact ⟨0, by omega, rfl, hF4, B4⟩
  case round =>
    obtain ⟨k, hk, rfl, hbd, hB⟩ := hrel
    by_cases hlt : k < xs.length
    · have hd : decide (k < xs.length) = true := by simpa using hlt
      have hki : (k : Int) < (xs.length : Int) := by omega
      obtain ⟨_, _, ee, _, _, _, hcell⟩ := he3.parts
      simp only [Value.slice.injEq] at ee
      obtain ⟨rfl, -, rfl⟩ := ee
      rcases hcell with rfl | ⟨b, o, rfl, hcell⟩
      · simp at hlt
      have hce := (hB.cell (World.block_lt_of_cell? w3 _ (hcell k hlt))).trans (hcell k hlt)
      have t1' := take_succ_getD xs k hlt
      have hch : isChar (xs[k]?.getD 0) = true := by rw [List.getElem?_eq_getElem hlt]; exact hcl _ (List.getElem_mem hlt)
      have hrn := isChar_cases hch
      have hlen := qenc_len (xs.take k)
      have htl : (xs.take k).length ≤ k := by rw [List.length_take]; omega
      have hk1 : k ≤ 1000 := by have := Hn.out; omega
      have hsz := hB.size
      have hQ := hid (show qenc (xs.take (k + 1)) = qenc (xs.take k) ++ (if xs[k]?.getD 0 = 39 then [39, 39] else encodeRune (xs[k]?.getD 0)) by rw [t1', qenc_snoc])
      generalize xs[k]?.getD 0 = n at *
      generalize qenc (xs.take k) = Q at *
      have hw32 : wrap32 n = n := by unfold wrap32; omega
      have e1 := hid (show Lib.byteCells (39 :: Q) ++ Lib.runeCells n = Lib.byteCells (39 :: (Q ++ encodeRune n)) by rw [← Lib.byteCells_encodeRune, ← byteCells_snoc]; rfl)
      clear hcell t1' hch hA4 c0 c1 c2 f0 f1 f2 hF4
      by_cases h39 : n = 39
      · have t39 : (n == 39) = true := by simp [h39]
        have hQ2 := hid (show Lib.byteCells (39 :: qenc (xs.take (k + 1))) = Lib.byteCells (39 :: Q) ++ Lib.runeCells n ++ Lib.runeCells n by
          rw [hQ.out, if_pos h39, h39, ← Lib.byteCells_encodeRune, ← byteCells_snoc, ← byteCells_snoc, show encodeRune 39 = [39] from by decide, List.append_assoc]; rfl)
        have hr4 := Lib.runeCells_le n
        clear h39 hQ
        go_wp2_with fail
        refine (writeRune_k w3.heap.size w3.heap.size _ n (by omega) (by omega) wr hbd (by rw [Lib.byteCells_length]; simp; omega) (by omega)).mono ?_
        rintro e w' ⟨rfl, hbd', hbel', -⟩
        have hsz' := hbel'.size
        go_wp2_with fail
        refine (writeRune_k w3.heap.size w3.heap.size _ n (by omega) (by omega) w' (.inr hbd') (by rw [List.length_append, Lib.byteCells_length]; simp; omega) (by omega)).mono ?_
        rintro e w'' ⟨rfl, hbd2, hbel2, -⟩
        go_wp2_with fail
        go_roundw
        case rel => exact ⟨k + 1, by omega, by go_num, by rw [hQ2.out]; exact .inr hbd2, (hB.trans hbel').trans hbel2⟩
        case measure => simp [intOf]; omega
      · have t39 : (n == 39) = false := by simpa using h39
        have hQ2 := hid (show qenc (xs.take (k + 1)) = Q ++ encodeRune n by have := hQ.out; rw [if_neg h39] at this; exact this)
        clear h39 hQ
        go_wp2_with (go_at_call 15; go_must (refine (writeRune_k w3.heap.size w3.heap.size _ n (by omega) (by omega) wr hbd (by rw [Lib.byteCells_length]; simp; omega) (by omega)).mono ?_); rintro e w' ⟨rfl, hbd', hbel', -⟩)
        go_roundw
        case rel => exact ⟨k + 1, by omega, by go_num, by rw [hQ2.out, ← e1.out]; exact .inr hbd', hB.trans hbel'⟩
        case measure => simp [intOf]; omega
    · have hd : decide (k < xs.length) = false := by simpa using hlt
      rw [List.take_of_length_le (by omega)] at hbd
      have hA5 := (hB.block w.heap.size hzA).trans hA3
      clear hA4 c0 c1 c2 f0 f1 f2 hF4
      obtain ⟨c0, c1, c2, f0, f1, f2⟩ := zero_facts hA5
      go_wp2_with fail
      have hql := qenc_len xs
      have hnx := Hn.out
      refine (writeString_k w3.heap.size w3.heap.size _ ⟨#[39]⟩ wr hbd (by rw [Lib.byteCells_length]; show (39 :: qenc xs).length + 1 ≤ _; simp; omega) (by have := hB.size; omega)).mono ?_
      rintro e w6 ⟨rfl, hb6, bel6, -⟩
      have B6 := hB.trans bel6
      have hA6 := (B6.block w.heap.size hzA).trans hA3
      clear hA5 c0 c1 c2 f0 f1 f2 hB bel6 hbd
      obtain ⟨c0, c1, c2, f0, f1, f2⟩ := zero_facts hA6
      obtain ⟨L, hL⟩ : ∃ L, L = 39 :: (subst 39 [39, 39] (encs xs) ++ [39]) := ⟨_, rfl⟩
      have hF6 : Lib.IsBuilderF 32 5 w3.heap.size w3.heap.size (Lib.byteCells L) w6 := .inr (by
        have e : Lib.byteCells L = Lib.byteCells (39 :: qenc xs) ++ Lib.strCells ⟨#[39]⟩ := by
          rw [hL, ← qenc_subst hcl, show (39 :: (qenc xs ++ [39]) : List UInt8) = (39 :: qenc xs) ++ [39] from rfl, byteCells_snoc]; rfl
        rw [e]; exact hb6)
      have hLt : tokensOf L = ([⟨1, [], chrsArr xs⟩], 0) := by rw [hL]; exact tokens_quoted hcl (by omega)
      have hLp : piecesOf L = [L] := by rw [hL]; exact pieces_quoted _
      have hLl : L.length ≤ 300000 := by rw [hL, ← qenc_subst hcl]; simp; omega
      clear hL hb6 hcl hodd hql
      by_cases hn1 : xs.length = 1
      · have t5 : ((xs.length : Int) == 1) = true := by simp [hn1]
        have hsh1 : (chrsArr xs).shape = [] := by unfold chrsArr; simp only; rw [if_pos hn1]
        clear hn1
        have hzb : (w3.setCell ⟨w.heap.size, 1, none⟩ (.slice none 0 0)).heap.size = w3.heap.size := by simp [World.setCell]
        go_wp2_with fail
        obtain ⟨Wb, hWb⟩ : ∃ Wb, Wb = w3.setCell ⟨w.heap.size, 1, none⟩ (.slice none 0 0) := ⟨_, rfl⟩
        rw [← hWb] at hzb
        have hAb : Wb.heap[w.heap.size]? = some (.cells #[.int .i64 2, .slice none 0 0, .slice ae xs.length ce] 25) := by rw [hWb]; exact heap_set1 (i := 1) hA3 (.slice none 0 0)
        have hBb : Below w.heap.size w Wb := by rw [hWb]; exact B3.setCell (p := ⟨w.heap.size, 1, none⟩) (Nat.le_refl _) _
        have hIb : Ints Wb (.slice none 0 0) (chrsArr xs).shape ∧ Ints Wb (.slice ae xs.length ce) xs := ⟨by rw [hsh1]; exact Ints.nil _, he.below hBb⟩
        have hGb := hG.below hBb
        have g0 : Below Wb.heap.size Wb (w6.setCell ⟨w.heap.size, 1, none⟩ (.slice none 0 0)) := by rw [hzb, hWb]; exact below_setBoth B6 _ _
        have hF0 : Lib.IsBuilderF 32 5 Wb.heap.size Wb.heap.size (Lib.byteCells L) (w6.setCell ⟨w.heap.size, 1, none⟩ (.slice none 0 0)) := by rw [hzb]; exact hF6.set_other _ _ _ hzA
        rw [← hzb]
        have hzA' : w.heap.size < Wb.heap.size := by omega
        clear hzb
        generalize w6.setCell ⟨w.heap.size, 1, none⟩ (.slice none 0 0) = V0 at *
        clear c0 c1 c2 f0 f1 f2 hF6 hA6 B6 hA3 he3 hI3 hG3 hWb B3 B4
        have keep : ∀ V, Below Wb.heap.size Wb V → V.cell? ⟨w.heap.size, 0, none⟩ = some (.int .i64 2) ∧ V.cell? ⟨w.heap.size, 1, none⟩ = some (.slice none 0 0) ∧ V.cell? ⟨w.heap.size, 2, none⟩ = some (.slice ae xs.length ce) := fun V h => by
          obtain ⟨k0, k1, k2, -⟩ := zero_facts ((h.block w.heap.size (by omega)).trans hAb)
          exact ⟨k0, k1, k2⟩
        have keepA : ∀ V O, Below Wb.heap.size Wb V → (V.alloc O).cell? ⟨w.heap.size, 0, none⟩ = some (.int .i64 2) ∧ (V.alloc O).cell? ⟨w.heap.size, 1, none⟩ = some (.slice none 0 0) ∧ (V.alloc O).cell? ⟨w.heap.size, 2, none⟩ = some (.slice ae xs.length ce) := fun V O h => keep _ (h.alloc h.size O)
        have keepD : ∀ V n, Below Wb.heap.size Wb V → (V.drewN n).cell? ⟨w.heap.size, 0, none⟩ = some (.int .i64 2) ∧ (V.drewN n).cell? ⟨w.heap.size, 1, none⟩ = some (.slice none 0 0) ∧ (V.drewN n).cell? ⟨w.heap.size, 2, none⟩ = some (.slice ae xs.length ce) := fun V n h => keep _ (below_drewN h n)
        have keepAD : ∀ V O n, Below Wb.heap.size Wb V → ((V.alloc O).drewN n).cell? ⟨w.heap.size, 0, none⟩ = some (.int .i64 2) ∧ ((V.alloc O).drewN n).cell? ⟨w.heap.size, 1, none⟩ = some (.slice none 0 0) ∧ ((V.alloc O).drewN n).cell? ⟨w.heap.size, 2, none⟩ = some (.slice ae xs.length ce) := fun V O n h => keep _ (below_drewN (h.alloc h.size O) n)
        have K0 : V0.drew.cell? ⟨w.heap.size, 0, none⟩ = some (.int .i64 2) ∧ V0.drew.cell? ⟨w.heap.size, 1, none⟩ = some (.slice none 0 0) ∧ V0.drew.cell? ⟨w.heap.size, 2, none⟩ = some (.slice ae xs.length ce) := keep _ g0.drew
        have hin : ∀ V, Below Wb.heap.size Wb V → Ints V (.slice none 0 0) (chrsArr xs).shape ∧ Ints V (.slice ae xs.length ce) xs := fun V h => ⟨hIb.1.below h, hIb.2.below h⟩
        have rS1 : Calls Tryz.prog 17 #[.pointer (some ⟨Wb.heap.size, 0, none⟩)] V0.drew fun e w' => e = .returned (.string (bs L)) ∧ Lib.IsBuilderF 32 5 Wb.heap.size Wb.heap.size (Lib.byteCells L) w' ∧ Below Wb.heap.size Wb w' :=
          (Tryz.Builder_String_any_k Wb.heap.size Wb.heap.size L V0.drew hF0 g0.drew.size).mono fun e w' h => ⟨h.1, h.2.1, g0.drew.trans h.2.2.1⟩
        have rS2 : ∀ V, Lib.IsBuilderF 32 5 Wb.heap.size Wb.heap.size (Lib.byteCells L) V → Below Wb.heap.size Wb V → Calls Tryz.prog 17 #[.pointer (some ⟨Wb.heap.size, 0, none⟩)] V fun e w' => e = .returned (.string (bs L)) ∧ Lib.IsBuilderF 32 5 Wb.heap.size Wb.heap.size (Lib.byteCells L) w' ∧ Below Wb.heap.size Wb w' ∧ Lib.OthersKept 5 (some Wb.heap.size) V w' := fun V hf hg =>
          (Tryz.Builder_String_any_k Wb.heap.size Wb.heap.size L _ hf hg.size).mono fun e w' h => ⟨h.1, h.2.1, hg.trans h.2.2.1, h.2.2.2⟩
        have rV : ∀ V, Below Wb.heap.size Wb V → Lib.IsBuilderF 32 5 Wb.heap.size Wb.heap.size (Lib.byteCells L) V → Calls Tryz.prog 18 #[.agg #[.int .i64 2, .slice none 0 0, .slice ae xs.length ce]] V fun e w' => e = .returned (.agg #[.int .i64 1, .string ⟨#[]⟩, .int .i64 2, .slice none 0 0, .slice ae xs.length ce]) ∧ Below Wb.heap.size Wb w' ∧ Lib.IsBuilderF 32 5 Wb.heap.size Wb.heap.size (Lib.byteCells L) w' := fun V hg hf =>
          (lwvalue_any _ _ _ _ _ _ _ V).mono fun e w' h => ⟨h.1, hg.trans (h.2.mono hg.size), builder_below hf h.2⟩
        have rR : ∀ V, Below Wb.heap.size Wb V → Lib.IsBuilderF 32 5 Wb.heap.size Wb.heap.size (Lib.byteCells L) V → Calls Tryz.prog 16 #[.string (bs L), .slice (some ⟨V.heap.size, 0, none⟩) 1 1] (V.alloc (.cells #[.int .i64 1, .string ⟨#[]⟩, .int .i64 2, .slice none 0 0, .slice ae xs.length ce] 41)) fun e w' => e = .returned (.bool true) ∧ Below Wb.heap.size Wb w' ∧ Lib.IsBuilderF 32 5 Wb.heap.size Wb.heap.size (Lib.byteCells L) w' := fun V hg hf => by
          have ha := (Below.refl _ V).alloc (Nat.le_refl _) (.cells #[.int .i64 1, .string ⟨#[]⟩, .int .i64 2, .slice none 0 0, .slice ae xs.length ce] 41)
          have hga := hg.alloc hg.size (.cells #[.int .i64 1, .string ⟨#[]⟩, .int .i64 2, .slice none 0 0, .slice ae xs.length ce] 41)
          refine (lreads_any L _ [⟨1, [], chrsArr xs⟩] _ (hGb.below hga) hLl (tok1_lit (t := ⟨1, [], chrsArr xs⟩) (heap_alloc_new V _) (hin _ hga).1 (hin _ hga).2 hr)).mono fun e w' h => ⟨?_, hga.trans (h.2.mono hga.size), builder_below (hf.alloc _) h.2⟩
          rw [h.1, hLt, decide_eq_true rfl]
        have rP : ∀ V, Below Wb.heap.size Wb V → Lib.IsBuilderF 32 5 Wb.heap.size Wb.heap.size (Lib.byteCells L) V → Wb.heap.size < V.heap.size → Calls Tryz.prog 20 #[.string (bs L)] V fun e w' => ∃ vv, e = .returned vv ∧ Below Wb.heap.size Wb w' ∧ Lib.IsBuilderF 32 5 Wb.heap.size Wb.heap.size (Lib.byteCells L) w' ∧ w'.ownsRow (Wb.heap.size + 1) 9 1 vv ([L].map bs).length (([L].map bs).map Value.string) := fun V hg hf hlt => by
          have := split_any (bs L) V (by rw [bs_size]; omega)
          rw [split_pieces, hLp] at this
          refine this.mono ?_
          rintro e w' ⟨vv, rfl, ho, hb⟩
          exact ⟨vv, rfl, hg.trans (hb.mono hg.size), builder_below hf hb, owns_mono ho (by omega)⟩
        have rT : ∀ V V' vv, V.ownsRow (Wb.heap.size + 1) 9 1 vv ([L].map bs).length (([L].map bs).map Value.string) → Below Wb.heap.size Wb V' → Lib.OthersKept 5 (some Wb.heap.size) V V' → Calls Tryz.prog 19 #[vv, .slice (some ⟨V'.heap.size, 0, none⟩) 1 1] (V'.alloc (.cells #[.string (bs L)] 9)) fun e w' => e = .returned (.bool true) ∧ Below Wb.heap.size Wb w' := fun V V' vv ho hg hk => by
          have hga := hg.alloc hg.size (.cells #[.string (bs L)] 9)
          refine (rtexts_any vv _ ([L].map bs) ([L].map bs) _ ((Strs.of_owns (own_others ho hk (by decide) (by omega))).below ((Below.refl _ _).alloc (Nat.le_refl _) _)) (strs_lit ([L].map bs) (heap_alloc_new _ _) rfl (by simp [maxLen]))).mono ?_
          rintro e w' ⟨rfl, nq, rfl⟩
          exact ⟨by rw [decide_eq_true rfl], below_drewN hga nq⟩
        have hltF : ∀ V, Lib.IsBuilderF 32 5 Wb.heap.size Wb.heap.size (Lib.byteCells L) V → Wb.heap.size < V.heap.size := fun V h => h.elim (fun x => x.lt) (fun x => x.lt)
        have hfin : ∀ V, Below Wb.heap.size Wb V → Below w.heap.size w V := fun V h => hBb.trans (h.mono hBb.size)
        clear hIb hGb
        go_region_held3 (fun w' => w'.cell? ⟨w.heap.size, 0, none⟩ = some (.int .i64 2) ∧ w'.cell? ⟨w.heap.size, 1, none⟩ = some (.slice none 0 0) ∧ w'.cell? ⟨w.heap.size, 2, none⟩ = some (.slice ae xs.length ce))
          (first
            | with_reducible exact K0
                  | with_reducible exact keep _ g1
                  | with_reducible exact keepA _ _ g1
                  | with_reducible exact keepD _ _ g1
                  | with_reducible exact keepAD _ _ _ g1
                  | with_reducible exact keep _ g2
                  | with_reducible exact keepA _ _ g2
                  | with_reducible exact keepD _ _ g2
                  | with_reducible exact keepAD _ _ _ g2
                  | with_reducible exact keep _ g3
                  | with_reducible exact keepA _ _ g3
                  | with_reducible exact keepD _ _ g3
                  | with_reducible exact keepAD _ _ _ g3
                  | with_reducible exact keep _ g4
                  | with_reducible exact keepA _ _ g4
                  | with_reducible exact keepD _ _ g4
                  | with_reducible exact keepAD _ _ _ g4
                  | with_reducible exact keep _ g5
                  | with_reducible exact keepA _ _ g5
                  | with_reducible exact keepD _ _ g5
                  | with_reducible exact keepAD _ _ _ g5
                  | with_reducible exact keep _ g6
                  | with_reducible exact keepA _ _ g6
                  | with_reducible exact keepD _ _ g6
                  | with_reducible exact keepAD _ _ _ g6
                  | with_reducible exact keep _ g7
                  | with_reducible exact keepA _ _ g7
                  | with_reducible exact keepD _ _ g7
                  | with_reducible exact keepAD _ _ _ g7 | fail)
          (first
            | (have hh := o6; go_at_call 19; refine (rT _ _ _ p5 g6 o6).mono ?_; rintro e v7 ⟨rfl, g7⟩)
            | (have hh := p5; go_at_call 17; refine (rS2 _ f5 g5).mono ?_; rintro e v6 ⟨rfl, f6, g6, o6⟩)
            | (have hh := f4; go_at_call 20; refine (rP _ g4 f4 (hltF _ f4)).mono ?_; rintro e v5 ⟨vv, rfl, g5, f5, p5⟩)
            | (have hh := f3; go_at_call 17; refine (rS2 _ f3 g3).mono ?_; rintro e v4 ⟨rfl, f4, g4, o4⟩)
            | (have hh := f2; go_at_call 16; refine (rR _ g2 f2).mono ?_; rintro e v3 ⟨rfl, g3, f3⟩)
            | (have hh := f1; go_at_call 18; refine (rV _ g1 f1).mono ?_; rintro e v2 ⟨rfl, g2, f2⟩)
            | (go_at_call 17; refine rS1.mono ?_; rintro e v1 ⟨rfl, f1, g1⟩)
            | fail)
        go_wp2
        go_ret
        exact ⟨rfl, hfin _ g7⟩
      · have t5 : ((xs.length : Int) == 1) = false := by rw [beq_eq_false_iff_ne]; omega
        have hsh1 : (chrsArr xs).shape = [(xs.length : Int)] := by unfold chrsArr; simp only; rw [if_neg hn1]
        clear hn1
        go_wp2_with fail
        have hIb : Ints w3 (.slice (some ⟨w1.heap.size, 0, none⟩) 1 1) (chrsArr xs).shape ∧ Ints w3 (.slice ae xs.length ce) xs := ⟨by
          obtain ⟨vs', ve', e', i1, i2, i3⟩ := hI3
          simp only [Value.agg.injEq, Array.mk.injEq, List.cons.injEq, and_true, true_and] at e'
          obtain ⟨rfl, rfl⟩ := e'
          rw [hsh1]; exact i1, he3⟩
        have g0 : Below w3.heap.size w3 w6 := B6
        have hF0 : Lib.IsBuilderF 32 5 w3.heap.size w3.heap.size (Lib.byteCells L) w6 := hF6
        generalize w6 = V0 at *
        clear c0 c1 c2 f0 f1 f2 hF6 hA6 B6 hI3 B4
        have keep : ∀ V, Below w3.heap.size w3 V → V.cell? ⟨w.heap.size, 0, none⟩ = some (.int .i64 2) ∧ V.cell? ⟨w.heap.size, 1, none⟩ = some (.slice (some ⟨w1.heap.size, 0, none⟩) 1 1) ∧ V.cell? ⟨w.heap.size, 2, none⟩ = some (.slice ae xs.length ce) := fun V h => by
          obtain ⟨k0, k1, k2, -⟩ := zero_facts ((h.block w.heap.size (by omega)).trans hA3)
          exact ⟨k0, k1, k2⟩
        have keepA : ∀ V O, Below w3.heap.size w3 V → (V.alloc O).cell? ⟨w.heap.size, 0, none⟩ = some (.int .i64 2) ∧ (V.alloc O).cell? ⟨w.heap.size, 1, none⟩ = some (.slice (some ⟨w1.heap.size, 0, none⟩) 1 1) ∧ (V.alloc O).cell? ⟨w.heap.size, 2, none⟩ = some (.slice ae xs.length ce) := fun V O h => keep _ (h.alloc h.size O)
        have keepD : ∀ V n, Below w3.heap.size w3 V → (V.drewN n).cell? ⟨w.heap.size, 0, none⟩ = some (.int .i64 2) ∧ (V.drewN n).cell? ⟨w.heap.size, 1, none⟩ = some (.slice (some ⟨w1.heap.size, 0, none⟩) 1 1) ∧ (V.drewN n).cell? ⟨w.heap.size, 2, none⟩ = some (.slice ae xs.length ce) := fun V n h => keep _ (below_drewN h n)
        have keepAD : ∀ V O n, Below w3.heap.size w3 V → ((V.alloc O).drewN n).cell? ⟨w.heap.size, 0, none⟩ = some (.int .i64 2) ∧ ((V.alloc O).drewN n).cell? ⟨w.heap.size, 1, none⟩ = some (.slice (some ⟨w1.heap.size, 0, none⟩) 1 1) ∧ ((V.alloc O).drewN n).cell? ⟨w.heap.size, 2, none⟩ = some (.slice ae xs.length ce) := fun V O n h => keep _ (below_drewN (h.alloc h.size O) n)
        have K0 : V0.drew.cell? ⟨w.heap.size, 0, none⟩ = some (.int .i64 2) ∧ V0.drew.cell? ⟨w.heap.size, 1, none⟩ = some (.slice (some ⟨w1.heap.size, 0, none⟩) 1 1) ∧ V0.drew.cell? ⟨w.heap.size, 2, none⟩ = some (.slice ae xs.length ce) := keep _ g0.drew
        have hin : ∀ V, Below w3.heap.size w3 V → Ints V (.slice (some ⟨w1.heap.size, 0, none⟩) 1 1) (chrsArr xs).shape ∧ Ints V (.slice ae xs.length ce) xs := fun V h => ⟨hIb.1.below h, hIb.2.below h⟩
        have rS1 : Calls Tryz.prog 17 #[.pointer (some ⟨w3.heap.size, 0, none⟩)] V0.drew fun e w' => e = .returned (.string (bs L)) ∧ Lib.IsBuilderF 32 5 w3.heap.size w3.heap.size (Lib.byteCells L) w' ∧ Below w3.heap.size w3 w' :=
          (Tryz.Builder_String_any_k w3.heap.size w3.heap.size L V0.drew hF0 g0.drew.size).mono fun e w' h => ⟨h.1, h.2.1, g0.drew.trans h.2.2.1⟩
        have rS2 : ∀ V, Lib.IsBuilderF 32 5 w3.heap.size w3.heap.size (Lib.byteCells L) V → Below w3.heap.size w3 V → Calls Tryz.prog 17 #[.pointer (some ⟨w3.heap.size, 0, none⟩)] V fun e w' => e = .returned (.string (bs L)) ∧ Lib.IsBuilderF 32 5 w3.heap.size w3.heap.size (Lib.byteCells L) w' ∧ Below w3.heap.size w3 w' ∧ Lib.OthersKept 5 (some w3.heap.size) V w' := fun V hf hg =>
          (Tryz.Builder_String_any_k w3.heap.size w3.heap.size L _ hf hg.size).mono fun e w' h => ⟨h.1, h.2.1, hg.trans h.2.2.1, h.2.2.2⟩
        have rV : ∀ V, Below w3.heap.size w3 V → Lib.IsBuilderF 32 5 w3.heap.size w3.heap.size (Lib.byteCells L) V → Calls Tryz.prog 18 #[.agg #[.int .i64 2, .slice (some ⟨w1.heap.size, 0, none⟩) 1 1, .slice ae xs.length ce]] V fun e w' => e = .returned (.agg #[.int .i64 1, .string ⟨#[]⟩, .int .i64 2, .slice (some ⟨w1.heap.size, 0, none⟩) 1 1, .slice ae xs.length ce]) ∧ Below w3.heap.size w3 w' ∧ Lib.IsBuilderF 32 5 w3.heap.size w3.heap.size (Lib.byteCells L) w' := fun V hg hf =>
          (lwvalue_any _ _ _ _ _ _ _ V).mono fun e w' h => ⟨h.1, hg.trans (h.2.mono hg.size), builder_below hf h.2⟩
        have rR : ∀ V, Below w3.heap.size w3 V → Lib.IsBuilderF 32 5 w3.heap.size w3.heap.size (Lib.byteCells L) V → Calls Tryz.prog 16 #[.string (bs L), .slice (some ⟨V.heap.size, 0, none⟩) 1 1] (V.alloc (.cells #[.int .i64 1, .string ⟨#[]⟩, .int .i64 2, .slice (some ⟨w1.heap.size, 0, none⟩) 1 1, .slice ae xs.length ce] 41)) fun e w' => e = .returned (.bool true) ∧ Below w3.heap.size w3 w' ∧ Lib.IsBuilderF 32 5 w3.heap.size w3.heap.size (Lib.byteCells L) w' := fun V hg hf => by
          have ha := (Below.refl _ V).alloc (Nat.le_refl _) (.cells #[.int .i64 1, .string ⟨#[]⟩, .int .i64 2, .slice (some ⟨w1.heap.size, 0, none⟩) 1 1, .slice ae xs.length ce] 41)
          have hga := hg.alloc hg.size (.cells #[.int .i64 1, .string ⟨#[]⟩, .int .i64 2, .slice (some ⟨w1.heap.size, 0, none⟩) 1 1, .slice ae xs.length ce] 41)
          refine (lreads_any L _ [⟨1, [], chrsArr xs⟩] _ (hG3.below hga) hLl (tok1_lit (t := ⟨1, [], chrsArr xs⟩) (heap_alloc_new V _) (hin _ hga).1 (hin _ hga).2 hr)).mono fun e w' h => ⟨?_, hga.trans (h.2.mono hga.size), builder_below (hf.alloc _) h.2⟩
          rw [h.1, hLt, decide_eq_true rfl]
        have rP : ∀ V, Below w3.heap.size w3 V → Lib.IsBuilderF 32 5 w3.heap.size w3.heap.size (Lib.byteCells L) V → w3.heap.size < V.heap.size → Calls Tryz.prog 20 #[.string (bs L)] V fun e w' => ∃ vv, e = .returned vv ∧ Below w3.heap.size w3 w' ∧ Lib.IsBuilderF 32 5 w3.heap.size w3.heap.size (Lib.byteCells L) w' ∧ w'.ownsRow (w3.heap.size + 1) 9 1 vv ([L].map bs).length (([L].map bs).map Value.string) := fun V hg hf hlt => by
          have := split_any (bs L) V (by rw [bs_size]; omega)
          rw [split_pieces, hLp] at this
          refine this.mono ?_
          rintro e w' ⟨vv, rfl, ho, hb⟩
          exact ⟨vv, rfl, hg.trans (hb.mono hg.size), builder_below hf hb, owns_mono ho (by omega)⟩
        have rT : ∀ V V' vv, V.ownsRow (w3.heap.size + 1) 9 1 vv ([L].map bs).length (([L].map bs).map Value.string) → Below w3.heap.size w3 V' → Lib.OthersKept 5 (some w3.heap.size) V V' → Calls Tryz.prog 19 #[vv, .slice (some ⟨V'.heap.size, 0, none⟩) 1 1] (V'.alloc (.cells #[.string (bs L)] 9)) fun e w' => e = .returned (.bool true) ∧ Below w3.heap.size w3 w' := fun V V' vv ho hg hk => by
          have hga := hg.alloc hg.size (.cells #[.string (bs L)] 9)
          refine (rtexts_any vv _ ([L].map bs) ([L].map bs) _ ((Strs.of_owns (own_others ho hk (by decide) (by omega))).below ((Below.refl _ _).alloc (Nat.le_refl _) _)) (strs_lit ([L].map bs) (heap_alloc_new _ _) rfl (by simp [maxLen]))).mono ?_
          rintro e w' ⟨rfl, nq, rfl⟩
          exact ⟨by rw [decide_eq_true rfl], below_drewN hga nq⟩
        have hltF : ∀ V, Lib.IsBuilderF 32 5 w3.heap.size w3.heap.size (Lib.byteCells L) V → w3.heap.size < V.heap.size := fun V h => h.elim (fun x => x.lt) (fun x => x.lt)
        have hfin : ∀ V, Below w3.heap.size w3 V → Below w.heap.size w V := fun V h => B3.trans (h.mono B3.size)
        clear hIb
        go_region_held3 (fun w' => w'.cell? ⟨w.heap.size, 0, none⟩ = some (.int .i64 2) ∧ w'.cell? ⟨w.heap.size, 1, none⟩ = some (.slice (some ⟨w1.heap.size, 0, none⟩) 1 1) ∧ w'.cell? ⟨w.heap.size, 2, none⟩ = some (.slice ae xs.length ce))
          (first
            | with_reducible exact K0
                  | with_reducible exact keep _ g1
                  | with_reducible exact keepA _ _ g1
                  | with_reducible exact keepD _ _ g1
                  | with_reducible exact keepAD _ _ _ g1
                  | with_reducible exact keep _ g2
                  | with_reducible exact keepA _ _ g2
                  | with_reducible exact keepD _ _ g2
                  | with_reducible exact keepAD _ _ _ g2
                  | with_reducible exact keep _ g3
                  | with_reducible exact keepA _ _ g3
                  | with_reducible exact keepD _ _ g3
                  | with_reducible exact keepAD _ _ _ g3
                  | with_reducible exact keep _ g4
                  | with_reducible exact keepA _ _ g4
                  | with_reducible exact keepD _ _ g4
                  | with_reducible exact keepAD _ _ _ g4
                  | with_reducible exact keep _ g5
                  | with_reducible exact keepA _ _ g5
                  | with_reducible exact keepD _ _ g5
                  | with_reducible exact keepAD _ _ _ g5
                  | with_reducible exact keep _ g6
                  | with_reducible exact keepA _ _ g6
                  | with_reducible exact keepD _ _ g6
                  | with_reducible exact keepAD _ _ _ g6
                  | with_reducible exact keep _ g7
                  | with_reducible exact keepA _ _ g7
                  | with_reducible exact keepD _ _ g7
                  | with_reducible exact keepAD _ _ _ g7 | fail)
          (first
            | (have hh := o6; go_at_call 19; refine (rT _ _ _ p5 g6 o6).mono ?_; rintro e v7 ⟨rfl, g7⟩)
            | (have hh := p5; go_at_call 17; refine (rS2 _ f5 g5).mono ?_; rintro e v6 ⟨rfl, f6, g6, o6⟩)
            | (have hh := f4; go_at_call 20; refine (rP _ g4 f4 (hltF _ f4)).mono ?_; rintro e v5 ⟨vv, rfl, g5, f5, p5⟩)
            | (have hh := f3; go_at_call 17; refine (rS2 _ f3 g3).mono ?_; rintro e v4 ⟨rfl, f4, g4, o4⟩)
            | (have hh := f2; go_at_call 16; refine (rR _ g2 f2).mono ?_; rintro e v3 ⟨rfl, g3, f3⟩)
            | (have hh := f1; go_at_call 18; refine (rV _ g1 f1).mono ?_; rintro e v2 ⟨rfl, g2, f2⟩)
            | (go_at_call 17; refine rS1.mono ?_; rintro e v1 ⟨rfl, f1, g1⟩)
            | fail)
        go_wp2
        go_ret
        exact ⟨rfl, hfin _ g7⟩
end Go.Proofs.YtgjaajgdiggbeaaGreatDoor
