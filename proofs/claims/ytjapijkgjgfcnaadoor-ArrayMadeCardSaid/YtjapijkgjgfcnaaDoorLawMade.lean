/- ArrayMade: the walk of the law. -/
import Derived.Test.YtjapijkgjgfcnaaDoorMake
import Derived.Test.YtjapijkgjgfcnaaDoorSame
import Derived.Test.YtjapijkgjgfcnaaDoorPlaceLaw
namespace Go.Proofs.YtjapijkgjgfcnaaDoor
open Go.RowKit Go.Shelf
set_option linter.unusedVariables false

theorem chk_made {xs : List Int} {n : Nat} (el : Nat → Int) (h : count xs = some (n : Int)) : chk ⟨1, xs, els el n⟩ = 0 := by
  unfold chk
  rw [if_pos]
  unfold okArr
  simp [h, els_length]

/-- What stays known from call to call: the seed's cell, both arrays and the blocks in which they lie, what the copy owns. -/
def MadeSt (w w2 w' : World) (A C mm : Nat) (seed : Int) (va : Value) (xs : List Int) (x : Arr) (vs ve us ue : Value) : Prop :=
  Below w.heap.size w w' ∧ w'.cell? ⟨w.heap.size, 0, none⟩ = some (.int .i64 seed) ∧ Box3 w' A (.int .i64 1) vs ve ∧ Box3 w' C (.int .i64 1) us ue ∧ IsArr w' (.agg #[.int .i64 1, vs, ve]) x ∧ Ints w' va xs ∧
    w'.ownsRow w.heap.size 3 1 us x.shape.length (x.shape.map (.int .i64)) ∧ w'.ownsRow mm 2 1 ue x.elems.length (x.elems.map (.int .i64)) ∧ C < w'.heap.size ∧ Below w2.heap.size w2 w'

theorem MadeSt.next {w w2 w' w'' : World} {A C mm : Nat} {seed : Int} {va : Value} {xs : List Int} {x : Arr} {vs ve us ue : Value} (h : MadeSt w w2 w' A C mm seed va xs x vs ve us ue) (hb : Below w'.heap.size w' w'') :
    MadeSt w w2 w'' A C mm seed va xs x vs ve us ue := by
  obtain ⟨h1, h2, h3, h4, h5, h6, h7, h8, h9, h10⟩ := h
  have := hb.size
  exact ⟨h1.trans (hb.mono h1.size), (hb.cell (World.block_lt_of_cell? w' _ h2)).trans h2, box_keep h3 hb, box_keep h4 hb, h5.below hb, h6.below hb, own_below h7 hb, own_below h8 hb, by omega, h10.trans (hb.mono h10.size)⟩

theorem MadeSt.copy {w w2 w' : World} {A C mm : Nat} {seed : Int} {va : Value} {xs : List Int} {x : Arr} {vs ve us ue : Value} (h : MadeSt w w2 w' A C mm seed va xs x vs ve us ue) (hk : x.kind = 1) : IsArr w' (.agg #[.int .i64 1, us, ue]) x := by
  obtain ⟨_, _, _, _, ⟨_, _, _, _, _, hr⟩, _, h7, h8, _⟩ := h
  exact ⟨us, ue, by rw [hk], Ints.of_owns h7, Ints.of_owns h8, hr⟩

/-- Behind the store into the copy. -/
theorem MadeSt.bump {w w2 w' : World} {A C mm g k cap : Nat} {seed : Int} {va : Value} {xs L : List Int} {vs ve us : Value} (h : MadeSt w w2 w' A C mm seed va xs ⟨1, xs, L⟩ vs ve us (.slice (some ⟨g, 0, none⟩) L.length cap))
    (ia : IsArr w2 (.agg #[.int .i64 1, vs, ve]) ⟨1, xs, L⟩) (h1 : w2.heap.size ≤ mm) (h2 : mm ≤ g) (h3 : g < C) (h4 : A < mm) (h5 : w.heap.size < w2.heap.size) (hU : ∀ k, us.ownBlock = some k → k < mm) (q : Nat) (u : Int)
    (hu : -9223372036854775808 ≤ u ∧ u ≤ 9223372036854775807) :
    Below w.heap.size w ((w'.drewN q).setCell ⟨g, k, none⟩ (.int .i64 u)) ∧ Below w2.heap.size w2 ((w'.drewN q).setCell ⟨g, k, none⟩ (.int .i64 u)) ∧ ((w'.drewN q).setCell ⟨g, k, none⟩ (.int .i64 u)).cell? ⟨w.heap.size, 0, none⟩ = some (.int .i64 seed) ∧
      Box3 ((w'.drewN q).setCell ⟨g, k, none⟩ (.int .i64 u)) A (.int .i64 1) vs ve ∧ Box3 ((w'.drewN q).setCell ⟨g, k, none⟩ (.int .i64 u)) C (.int .i64 1) us (.slice (some ⟨g, 0, none⟩) L.length cap) ∧
      IsArr ((w'.drewN q).setCell ⟨g, k, none⟩ (.int .i64 u)) (.agg #[.int .i64 1, vs, ve]) ⟨1, xs, L⟩ ∧ IsArr ((w'.drewN q).setCell ⟨g, k, none⟩ (.int .i64 u)) (.agg #[.int .i64 1, us, .slice (some ⟨g, 0, none⟩) L.length cap]) ⟨1, xs, L.set k u⟩ := by
  obtain ⟨g1, g2, g3, g4, g5, g6, g7, g8, g9, g10⟩ := h
  have bw := (below_drewN g1 q).setCell (p := ⟨g, k, none⟩) (by show w.heap.size ≤ g; omega) (.int .i64 u)
  have bw2 := (below_drewN g10 q).setCell (p := ⟨g, k, none⟩) (by show w2.heap.size ≤ g; omega) (.int .i64 u)
  have far : ∀ (b i : Nat), b ≠ g → ((w'.drewN q).setCell ⟨g, k, none⟩ (.int .i64 u)).cell? ⟨b, i, none⟩ = w'.cell? ⟨b, i, none⟩ := fun b i hne => (cell_far _ _ _ _ hne).trans rfl
  refine ⟨bw, bw2, by rw [far _ _ (by omega)]; exact g2, ⟨by rw [far _ _ (by omega)]; exact g3.1, by rw [far _ _ (by omega)]; exact g3.2.1, by rw [far _ _ (by omega)]; exact g3.2.2⟩,
    ⟨by rw [far _ _ (by omega)]; exact g4.1, by rw [far _ _ (by omega)]; exact g4.2.1, by rw [far _ _ (by omega)]; exact g4.2.2⟩, ia.below bw2, us, _, rfl, Ints.of_owns (ownsRow_setCell_other (w := w'.drewN q) g7 (fun e => by have := hU _ e; simp at this; omega) _), ?_, ?_⟩
  · have g8' : (w'.drewN q).ownsRow mm 2 1 (.slice (some ⟨g, 0, none⟩) L.length cap) L.length (L.map (.int .i64)) := g8
    have := (g8'.stored k (.int .i64 u)).1
    rw [← List.map_set] at this
    have e2 : (L.set k u).length = L.length := by simp
    rw [← e2] at this
    have h := Ints.of_owns this
    rw [e2] at h
    exact h
  · intro i hi
    simp only [List.length_set] at hi
    obtain ⟨_, _, _, _, _, hr⟩ := ia
    have := hr i hi
    by_cases e : k = i
    · subst e
      rw [List.getElem?_set_self hi]; exact hu
    · rw [List.getElem?_set_ne e]; exact this

theorem own_form {w : World} {base size n c : Nat} {a : Option Addr} {e : TypeId} {xs : List Value} (h : w.ownsRow base e size (.slice a n c) n xs) (hn : 0 < n) : ∃ g cap, Value.slice a n c = .slice (some ⟨g, 0, none⟩) n cap := by
  rcases h.2 with ⟨hv, h0⟩ | ⟨g, cap, cur, hv, _⟩
  · omega
  · exact ⟨g, cap, hv⟩

set_option maxRecDepth 100000 in
set_option maxHeartbeats 4000000 in
theorem made_walk (va : Value) (xs : List Int) (seed n : Int) (w : World) (hT : Tabs w) (hx : Ints w va xs) (hn0 : -9223372036854775808 ≤ n) (hn1 : n ≤ 9223372036854775807) :
    Calls Tryd.prog 6 #[va, .int .i64 seed, .int .i64 n] w fun e w' => e = .returned (.bool true) ∧ Below w.heap.size w w' := by
  have hB1 : ∀ o, Below w.heap.size w (w.alloc o) := fun o => (Below.refl _ w).alloc (Nat.le_refl _) o
  have gT := fun o => hT.below (hB1 o)
  have cs : ∀ t, (w.alloc (.cells #[.int .i64 seed] t)).cell? ⟨w.heap.size, 0, none⟩ = some (.int .i64 seed) := fun t => by simp
  obtain ⟨a', cap', rfl, h1', h2', h3', -⟩ := hx.parts
  go_enter Tryd.func6, Tryd.ntmps6
  go_wp2_with fail
  refine (alive_any _ (gT _)).mono ?_
  rintro e w1 ⟨rfl, hb⟩
  have B1 := (hB1 _).trans (hb.mono (hB1 _).size)
  have c1 := (hb.cell (p := ⟨w.heap.size, 0, none⟩) (by simp)).trans (cs _)
  have x1 := hx.below B1
  have z1 : w.heap.size + 1 ≤ w1.heap.size := by have := hb.size; simpa using this
  clear hb hB1 gT cs hT hx
  go_wp2_with fail
  refine (count_any _ xs _ x1).mono ?_
  rintro e w1 ⟨rfl, rfl⟩
  by_cases hlen : 10 < xs.length
  · have hd : decide ((10 : Int) < (xs.length : Int)) = true := by simp; omega
    cases hc : count xs with
    | none => simp only [cRes]; go_wp2_with fail; go_ret; exact ⟨rfl, B1⟩
    | some c => simp only [cRes]; go_wp2_with fail; go_ret; exact ⟨rfl, B1⟩
  have hd : decide ((10 : Int) < (xs.length : Int)) = false := by simp; omega
  cases hc : count xs with
  | none =>
    simp only [cRes]
    go_wp2_with fail
    refine (made1_make 1 _ xs seed w.heap.size _ x1 c1 (by omega)).mono ?_
    rintro e w2 ⟨hm, b2⟩
    obtain ⟨-, rfl⟩ | ⟨m, hm, -⟩ := hm
    · have B2 := B1.trans (b2.mono B1.size)
      go_wp2_with fail
      go_ret
      exact ⟨rfl, B2.alloc B2.size _⟩
    · rw [hc] at hm; cases hm
  | some c =>
    have Hc := hid hc
    simp only [cRes]
    go_wp2_with fail
    refine (made1_make 1 _ xs seed w.heap.size _ x1 c1 (by omega)).mono ?_
    rintro e w2 ⟨hm, b2⟩
    obtain ⟨hm, -⟩ | ⟨m, hm, hch | ⟨hch, v, rfl, ia⟩⟩ := hm
    · rw [hc] at hm; cases hm
    · rw [chk_made _ hm] at hch; exact absurd hch.1 (by decide)
    obtain rfl : c = (m : Int) := by rw [hc] at hm; exact Option.some.inj hm
    have hm4 := count_le _ _ hc
    have B2 := B1.trans (b2.mono B1.size)
    have x2 := x1.below b2
    have c2 := (b2.cell (p := ⟨w.heap.size, 0, none⟩) (by show w.heap.size < _; omega)).trans c1
    have z2 := b2.size
    clear hc hm x1 c1 b2 B1
    obtain ⟨vs, ve, rfl, is, ie, ir⟩ := id ia
    obtain ⟨as_, ds, rfl, s1, s2, s3, -⟩ := is.parts
    obtain ⟨ae, de, rfl, e1, e2, e3, -⟩ := ie.parts
    have HL := hid (els_length (fun k => wrap64 (seed + (k : Int))) m)
    have HG := hid (fun i => els_get (fun k => wrap64 (seed + (k : Int))) m i)
    generalize els (fun k => wrap64 (seed + (k : Int))) m = L at *
    go_wp2_with fail
    have hB3 := (Below.refl _ w2).alloc (Nat.le_refl _) (.cells #[.int .i64 1, .slice as_ xs.length ds, .slice ae L.length de] 35)
    have ba3 : Box3 (w2.alloc (.cells #[.int .i64 1, .slice as_ xs.length ds, .slice ae L.length de] 35)) w2.heap.size (.int .i64 1) (.slice as_ xs.length ds) (.slice ae L.length de) := ⟨by go_simp, by go_simp, by go_simp⟩
    refine (copy_any _ ⟨1, xs, L⟩ _ (ia.below hB3) (by show xs.length ≤ _; omega) (by show L.length ≤ _; rw [HL.out]; omega)).mono ?_
    rintro e w4 ⟨v', rfl, ⟨us, ue, mm, rfl, hmm, ou, hub, oe⟩, b4⟩
    simp only at ou oe hub
    obtain ⟨au, du, rfl⟩ := own_slice ou
    obtain ⟨ac, dc, rfl⟩ := own_slice oe
    have z4 := b4.size
    simp at z4 hmm
    have S5 : ∀ o, o = .cells #[.int .i64 1, .slice au xs.length du, .slice ac L.length dc] 35 → MadeSt w w2 (w4.alloc o) w2.heap.size w4.heap.size mm seed (.slice a' xs.length cap') xs ⟨1, xs, L⟩ (.slice as_ xs.length ds) (.slice ae L.length de) (.slice au xs.length du) (.slice ac L.length dc) := by
      rintro o rfl
      have b5 := (Below.refl _ w4).alloc (Nat.le_refl _) (.cells #[.int .i64 1, .slice au xs.length du, .slice ac L.length dc] 35)
      have b24 := hB3.trans (b4.mono hB3.size)
      have b25 := b24.trans (b5.mono b24.size)
      refine ⟨B2.trans (b25.mono B2.size), (b25.cell (World.block_lt_of_cell? w2 _ c2)).trans c2, box_keep (box_keep ba3 b4) b5, ⟨by go_simp, by go_simp, by go_simp⟩, ia.below b25, x2.below b25, (own_below ou b5).mono (by simp; omega), own_below oe b5, by simp, b25⟩
    have oA : w2.heap.size < mm := by omega
    have oC : ∀ k, (Value.slice ac L.length dc).ownBlock = some k → mm ≤ k ∧ k < w4.heap.size := oe.lt
    have oU : ∀ k, (Value.slice au xs.length du).ownBlock = some k → k < mm := hub
    have oS : w.heap.size < mm := by omega
    have z2s : w.heap.size < w2.heap.size := by omega
    have ia2 := ia
    have z2m : w2.heap.size ≤ mm := by omega
    clear hB3 ba3 ou oe b4 ia x2 c2 is ie ir z4 hmm hub
    have S := S5 _ rfl
    clear S5
    obtain ⟨-, k0, ⟨a0, a1, a2⟩, ⟨b0, b1, b2⟩, -⟩ := id S
    go_wp2_with fail
    refine (check_any _ ⟨1, xs, L⟩ _ S.2.2.2.2.1).mono ?_
    rintro e w6 ⟨rfl, hb⟩
    rw [hch]
    replace S := S.next hb
    clear hb hch k0 a0 a1 a2 b0 b1 b2
    have t1 : ((L.length : Int) != (m : Int)) = false := by rw [HL.out]; simp
    obtain ⟨-, k0, ⟨a0, a1, a2⟩, ⟨b0, b1, b2⟩, -⟩ := id S
    go_wp2_with fail
    refine (same_any _ _ ⟨1, xs, L⟩ ⟨1, xs, L⟩ _ S.2.2.2.2.1 (S.copy rfl)).mono ?_
    rintro e w7 ⟨rfl, hb⟩
    rw [(sameB_eq ⟨1, xs, L⟩ ⟨1, xs, L⟩).2 rfl]
    replace S := S.next hb
    clear hb k0 a0 a1 a2 b0 b1 b2
    obtain ⟨-, k0, ⟨a0, a1, a2⟩, ⟨b0, b1, b2⟩, -⟩ := id S
    go_wp2_with fail
    refine (at_any _ xs n _ S.2.2.2.2.2.1 hn0 hn1).mono ?_
    rintro e w8 ⟨v8, rfl, ho, hb⟩
    replace S := S.next hb
    have j := Ints.of_owns ho
    clear hb k0 a0 a1 a2 b0 b1 b2 ho t1
    obtain ⟨al, cl, rfl, l1, l2, l3, -⟩ := j.parts
    cases hl : atRes xs n with
    | none =>
      simp only [hl, Option.isSome_none, Option.getD_none] at j l1 ⊢
      go_wp2_with fail
      go_ret
      exact ⟨rfl, S.1⟩
    | some l =>
      simp only [hl, Option.getD_some, Option.isSome_some] at j l1 ⊢
      have hpl := at_place Hc.out hl
      have hkm : 0 ≤ n ∧ n < (m : Int) := by
        have := at_isSome Hc.out n
        rw [hl] at this
        simpa using this.symm
      obtain ⟨k, rfl⟩ : ∃ k : Nat, n = k := ⟨n.toNat, by omega⟩
      have hk : k < m := by omega
      clear hl
      go_wp2_with fail
      refine (place_any _ _ xs l _ S.2.2.2.2.2.1 j).mono ?_
      rintro e w9 ⟨rfl, hb⟩
      rw [hpl]
      simp only [pRes]
      replace S := S.next hb
      clear hb hpl j
      obtain ⟨SB, k0, ⟨a0, a1, a2⟩, ⟨b0, b1, b2⟩, -, -, qu, qe, hC, hW2⟩ := id S
      obtain ⟨_, _, hva, -, pe, -⟩ := id ia2
      obtain ⟨-, rfl, rfl⟩ : True ∧ _ ∧ _ := by simp only [Value.agg.injEq, Array.mk.injEq, List.cons.injEq] at hva; exact ⟨trivial, hva.2.1.symm, hva.2.2.1.symm⟩
      simp only at pe qu qe
      have hg := HG.out k hk
      obtain ⟨_, _, ee, _, _, _, hce⟩ := pe.parts
      simp only [Value.slice.injEq] at ee
      obtain ⟨rfl, -, rfl⟩ := ee
      rcases hce with rfl | ⟨b, o, rfl, hce⟩
      · have := HL.out; simp at this; omega
      have hkL : k < L.length := by rw [HL.out]; exact hk
      obtain ⟨g, cap, hue⟩ := own_form qe (by omega)
      simp only [Value.slice.injEq] at hue
      obtain ⟨rfl, -, rfl⟩ := hue
      have gcell := (qe.cellAt k (by omega)).trans (by rw [List.getElem?_map, List.getElem?_eq_getElem hkL])
      have gfr := qe.frozenAt k
      have acell2 := hce k hkL
      rw [hg] at acell2
      have acell := (hW2.cell (World.block_lt_of_cell? w2 _ acell2)).trans acell2
      have hgk : L[k] = wrap64 (seed + (k : Int)) := by rw [← hg, List.getElem?_eq_getElem hkL]; rfl
      rw [hgk] at gcell
      have i1 : (k : Int) < (L.length : Int) := by omega
      have T := S.bump (k := k) ia2 z2m (oC g rfl).1 (oC g rfl).2 oA z2s oU
      have Hn : Hid (∀ u, u = wrap64 (wrap64 (seed + (k : Int)) + 1) → sameB ⟨1, xs, L⟩ ⟨1, xs, L.set k u⟩ = false) := hid (by
        rintro u rfl
        cases hs : sameB ⟨1, xs, L⟩ ⟨1, xs, L.set k (wrap64 (wrap64 (seed + (k : Int)) + 1))⟩ with
        | false => rfl
        | true =>
          exfalso
          have h1 := (sameB_eq _ _).1 hs
          simp only [Arr.mk.injEq, true_and] at h1
          have h2 := congrArg (fun l => l[k]?.getD 0) h1
          simp only [List.getElem?_set_self hkL, Option.getD_some, hg] at h2
          unfold wrap64 at h2
          omega)
      clear hce
      go_wp2
      go_quiet (fail)
      go_wp2
      have T2 := T nq (wrap64 (wrap64 (seed + (k : Int)) + 1)) (by unfold wrap64; omega)
      have H2 := Hn.out _ rfl
      generalize (w9.drewN nq).setCell ⟨g, k, none⟩ (.int .i64 (wrap64 (wrap64 (seed + (k : Int)) + 1))) = W at *
      generalize L.set k (wrap64 (wrap64 (seed + (k : Int)) + 1)) = L2 at *
      clear T Hn gcell gfr qu qe k0 a0 a1 a2 b0 b1 b2 acell
      obtain ⟨y1, y2, y3, ⟨a0, a1, a2⟩, ⟨b0, b1, b2⟩, y6, y7⟩ := T2
      have y8 := (y2.cell (World.block_lt_of_cell? w2 _ acell2)).trans acell2
      clear acell2 S hW2
      go_region_held3 (fun w' => w'.cell? ⟨w2.heap.size, 0, none⟩ = some (.int .i64 1) ∧ w'.cell? ⟨w2.heap.size, 1, none⟩ = some (.slice as_ xs.length ds) ∧ w'.cell? ⟨w2.heap.size, 2, none⟩ = some (.slice (some ⟨b, o, none⟩) L.length de) ∧
          w'.cell? ⟨w4.heap.size, 0, none⟩ = some (.int .i64 1) ∧ w'.cell? ⟨w4.heap.size, 1, none⟩ = some (.slice au xs.length du) ∧ w'.cell? ⟨w4.heap.size, 2, none⟩ = some (.slice (some ⟨g, 0, none⟩) L.length dc) ∧
          w'.cell? ⟨b, o + k, none⟩ = some (.int .i64 (wrap64 (seed + (k : Int)))) ∧ w'.cell? ⟨w.heap.size, 0, none⟩ = some (.int .i64 seed))
        (first
          | exact ⟨(hb.cell (World.block_lt_of_cell? W _ a0)).trans a0, (hb.cell (World.block_lt_of_cell? W _ a1)).trans a1, (hb.cell (World.block_lt_of_cell? W _ a2)).trans a2, (hb.cell (World.block_lt_of_cell? W _ b0)).trans b0, (hb.cell (World.block_lt_of_cell? W _ b1)).trans b1, (hb.cell (World.block_lt_of_cell? W _ b2)).trans b2, (hb.cell (World.block_lt_of_cell? W _ y8)).trans y8, (hb.cell (World.block_lt_of_cell? W _ y3)).trans y3⟩
          | exact ⟨a0, a1, a2, b0, b1, b2, y8, y3⟩ | fail)
        ((go_at_call 17; refine (same_any _ _ ⟨1, xs, L⟩ ⟨1, xs, L2⟩ _ (y6.below (below_drewN (Below.refl _ _) _)) (y7.below (below_drewN (Below.refl _ _) _))).mono ?_; rintro e w'' ⟨rfl, hb⟩; rw [H2]))
      go_wp2
      go_ret
      exact ⟨by
        show Ending.returned (Value.bool (wrap64 (seed + (k : Int)) == IntKind.i64.wrap (seed + (k : Int)))) = _
        rw [IntWalk.i64_left]; simp, (below_drewN y1 1).trans (hb.mono y1.size)⟩
end Go.Proofs.YtjapijkgjgfcnaaDoor
