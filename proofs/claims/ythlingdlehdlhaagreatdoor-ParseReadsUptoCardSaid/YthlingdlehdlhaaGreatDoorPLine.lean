/- parse: a function's lines: one line, walked. -/
import Derived.Test.YthlingdlehdlhaaGreatDoorPC
import Derived.Test.YthlingdlehdlhaaGreatDoorPD
import Derived.Deep.Cut
namespace Go.Proofs.YthlingdlehdlhaaGreatDoor.Par
open Go.RowKit Go.Shelf
set_option linter.unusedVariables false
set_option linter.unusedSimpArgs false

theorem noLn_fresh (base : Nat → Prop) (w : World) : Fresh base w (IsLn · (.agg #[.int .i64 0, .string ⟨#[]⟩, .slice none 0 0]) ⟨0, [], .nil⟩) := Fresh.mkLn (y := ⟨0, [], .nil⟩) (Fresh.nil _ _)
/-- Expressions that lie in a row of the call's own. -/
theorem kids1 {Sb : Nat → Prop} {w : World} {x : Ex} {vs ve vb vc : Value} (i1 : Fresh Sb w (Ints · vs x.val.shape)) (i2 : Fresh Sb w (Ints · ve x.val.elems)) (i3 : Rng x.val.elems) (j1 : Fresh Sb w (IsTs · vb x.fn.body)) (j2 : Fresh Sb w (IsTs · vc x.kids))
    {g : Nat} {cur : Array Value} (hg : Sb g) (hrow : w.heap[g]? = some (.cells cur 36)) (hc : cur = (exL x vs ve vb vc).toArray) : Fresh Sb w (IsTs · (.slice (some ⟨g, 0, none⟩) 1 1) (x.cons .nil)) :=
  (Cells.ex x vs ve vb vc .nil [] i1 i2 i3 j1 j2 .nil).row hg hrow rfl (Nat.le_refl _) (by omega) (by intro i u hu; subst hc; simpa using hu)
theorem kids2 {Sb : Nat → Prop} {w : World} {x y : Ex} {vs ve vb vc vs' ve' vb' vc' : Value} (i1 : Fresh Sb w (Ints · vs x.val.shape)) (i2 : Fresh Sb w (Ints · ve x.val.elems)) (i3 : Rng x.val.elems) (j1 : Fresh Sb w (IsTs · vb x.fn.body)) (j2 : Fresh Sb w (IsTs · vc x.kids))
    (k1 : Fresh Sb w (Ints · vs' y.val.shape)) (k2 : Fresh Sb w (Ints · ve' y.val.elems)) (k3 : Rng y.val.elems) (l1 : Fresh Sb w (IsTs · vb' y.fn.body)) (l2 : Fresh Sb w (IsTs · vc' y.kids))
    {g : Nat} {cur : Array Value} (hg : Sb g) (hrow : w.heap[g]? = some (.cells cur 36)) (hc : cur = (exL x vs ve vb vc ++ exL y vs' ve' vb' vc').toArray) : Fresh Sb w (IsTs · (.slice (some ⟨g, 0, none⟩) 2 2) (x.cons (y.cons .nil))) :=
  (Cells.ex x vs ve vb vc _ _ i1 i2 i3 j1 j2 (Cells.ex y vs' ve' vb' vc' .nil [] k1 k2 k3 l1 l2 .nil)).row hg hrow rfl (Nat.le_refl _) (by omega) (by intro i u hu; subst hc; simpa using hu)
theorem rows_at {w : World} {v : Value} {ls : List (List Tok)} (h : IsRows w v ls) : ∃ a c, v = .slice a ls.length c ∧ ∀ k l, ls[k]? = some l → ∃ b o x, a = some ⟨b, o, none⟩ ∧ w.cell? ⟨b, o + k, none⟩ = some x ∧ IsToks w x l := by
  obtain ⟨a, c, e, -, -, h⟩ := h; exact ⟨a, c, e, h⟩
theorem line_none {w wf : World} {rb : Nat} {fv : Value} {bad : Bool} {law : Option Ln} (hl : law = none) (hp : PR wf rb fv true true) (hf : Fr rb w wf) : LineA w wf rb fv true bad law (.returned (.agg #[.int .i64 0, .string ⟨#[]⟩, .slice none 0 0])) :=
  ⟨true, _, ⟨0, [], .nil⟩, rfl, ⟨hp, hf⟩, noLn_fresh _ _, Res.none hl bad _⟩
set_option maxRecDepth 100000 in
set_option maxHeartbeats 8000000 in
theorem line_step (F : List (List UInt8)) (n : Nat) (hE : ∀ m, m ≤ n → ExprC F m) : LineC F (n + 1) := by
  intro w rb fv bad v l hg hfu
  have hlt := hg.pr.lt
  obtain ⟨a, c, rfl⟩ := toks_parts hg.tk
  obtain ⟨fa, fn, fc, rfl⟩ : ∃ a n c, fv = .slice a n c := by obtain ⟨a, c, e, -⟩ := hg.fs.parts; exact ⟨a, _, c, e⟩
  obtain ⟨law, hlaw⟩ : ∃ law, lineF F (n + 1) l = law := ⟨_, rfl⟩
  have hlawE : law = lineF F (n + 1) l := hlaw.symm
  rw [hlaw]
  rw [lineF] at hlawE
  have HlawE := hid hlawE
  clear hlaw hlawE
  have hA := fun o => (Below.refl _ w).alloc (Nat.le_refl _) o
  have hN0 := fun o => heap_alloc_new w o
  have hparts := fun V (hb : Below w.heap.size w V) => parts_rows2 _ l gColon _ rfl V (hg.tk.below hb) hg.le
  have hset := fun V (hb : Below w.heap.size w V) => set_any _ l V (hg.tk.below hb)
  go_enter Tryz.func132, Tryz.ntmps132
  go_wp2_with fail
  refine (hparts _ (hA _)).mono ?_
  rintro e w1 ⟨⟨pv, rfl, hrows, hage⟩, b1⟩
  have hB1 := (hA _).trans (b1.mono (hA _).size)
  have hR1 := (b1.block w.heap.size (by simp)).trans (hN0 _)
  have hsz1 : w.heap.size < w1.heap.size := (Array.getElem?_eq_some_iff.1 hR1).1
  obtain ⟨pa, pc, rfl, hrow⟩ := rows_at hrows
  have hmem : ∀ p ∈ partsF l gColon, Dyck p ∧ p ⊆ l ∧ p.length ≤ l.length := fun p hp => ⟨parts_dyck wt_colon hg.dy p hp, part_sub hp, part_le hp⟩
  clear hparts hA hN0
  go_wp2_with fail
  refine (hset _ hB1).mono ?_
  rintro e w2 ⟨⟨su, rfl, hsu⟩, b2⟩
  have hB2 := hB1.trans (b2.mono hB1.size)
  have hR2 := (b2.block _ hsz1).trans hR1
  have hsz2 : w.heap.size < w2.heap.size := (Array.getElem?_eq_some_iff.1 hR2).1
  have hrow2 : ∀ k l', (partsF l gColon)[k]? = some l' → ∃ b o x, pa = some ⟨b, o, none⟩ ∧ w2.cell? ⟨b, o + k, none⟩ = some x ∧ IsToks w2 x l' := fun k l' hk => by
    obtain ⟨b, o, x, e1, e2, e3⟩ := hrow k l' hk
    exact ⟨b, o, x, e1, (b2.cell (World.block_lt_of_cell? w1 _ e2)).trans e2, e3.below b2⟩
  have hp2 := hg.pr.below hB2
  clear hset hrow hrows hR1
  have hne := partsR_ne gColon l.reverse [] [] 0
  change partsF l gColon ≠ [] at hne
  generalize hP : partsF l gColon = P at *
  clear hP
  have hG : ∀ V bd x, Below w2.heap.size w2 V → ∀ p ∈ P, IsToks w2 x p → PR V rb (.slice fa fn fc) true bd → Giv F V rb (.slice fa fn fc) true bd x p := fun V bd x hV p hp hx hpV =>
    ⟨hpV, Strs.soft hg.fs (Soft.of_below (hB2.trans (hV.mono hB2.size))), hx.below hV, (hmem p hp).1, hg.sm.sub (hmem p hp).2.1, by have := (hmem p hp).2.2; have := hg.le; omega, hg.gy.below (hB2.trans (hV.mono hB2.size))⟩
  rcases P with _ | ⟨p0, _ | ⟨p1, _ | ⟨p2, P⟩⟩⟩
  · exact absurd rfl hne
  · have hlaw1 := HlawE.out
    simp only at hlaw1
    rcases hsu with ⟨ss, sr, srv, hss, rfl, hsr⟩ | ⟨hss, sa, sn, scc, rfl⟩
    · -- a name is set
      rw [hss] at hlaw1
      simp only at hlaw1
      obtain ⟨st, -, -, -, hsne⟩ := set_head hss
      obtain ⟨sd1, sd2', sd3'⟩ := set_dyck hg.dy hss
      have sd2 : sr.length + 2 ≤ l.length := by omega
      have sd3 := hid sd3'
      clear sd2' sd3'
      obtain ⟨sa, sc, rfl⟩ := toks_parts hsr
      have hb0 : bs ss ≠ ⟨#[]⟩ := fun e => hsne (bs_inj (a := ss) (b := []) e)
      have hb1 := str_ne hb0
      have hb4 : (⟨#[]⟩ : ByteArray).toList = [] := by simp
      rw [hb4] at hb1
      have hb2 : ¬ (bs ss).toList = [] := by simpa using hb1
      clear hb4
      have hcont := fun V (hb : Below w2.heap.size w2 V) => contains_any (.slice fa fn fc) F ss _ rfl V (Strs.soft hg.fs (Soft.of_below (hB2.trans (hb.mono hB2.size))))
      obtain ⟨q0, q1, q2, u0, u1, u2⟩ := hp2.cells
      obtain ⟨C, hC⟩ : ∃ b, decide (ss ∈ F) = b := ⟨_, rfl⟩
      rw [hC] at hcont
      have HC := hid hC
      have Hlaw1 := hid hlaw1
      clear hC hlaw1
      go_upto_region 5 with fail
      go_wp2_with fail
      refine (hcont _ (Below.refl _ _)).mono ?_
      rintro e w3 ⟨rfl, hq3⟩
      have b3 := hq3.below w2.heap.size
      have hB3 := hB2.trans (b3.mono hB2.size)
      have hR3 := (b3.block _ hsz2).trans hR2
      have hsz3 : w.heap.size < w3.heap.size := (Array.getElem?_eq_some_iff.1 hR3).1
      clear hcont
      cases C with
      | true =>
        have hln := hid (Hlaw1.out.trans (if_pos (of_decide_eq_true HC.out)))
        go_upto_region 6 with fail
        go_wp2_with fail
        refine (fail_any w3 rb (.slice fa fn fc) true bad (hg.pr.below hB3)).mono ?_
        rintro e w4 ⟨rfl, hp4, hf4⟩
        have hR4 := (hf4.block w.heap.size hsz3 (by omega)).trans hR3
        have hF4 := (Fr.of_below hB3).trans hf4
        go_wp2_with (refine wpList_store_row rfl 93 _ _ rfl w.heap.size _ rfl rfl 93 _ hR4 (by kernel_rfl) (by kernel_rfl) (by kernel_rfl) ?_; go_simp)
        refine bodyPost_ret (results_cell_row rfl _ _ w.heap.size _ _ _ _ rfl (setRow_heap w4 w.heap.size _ #[.int .i64 0, .string ⟨#[]⟩, .slice none 0 0] _ _ hR4) Tryz.underlying93 rfl (by kernel_rfl)) rfl ?_
        exact line_none hln.out (((Oth.refl _ _).row _).pr hp4 (by omega)) (((Oth.refl _ _).row _).fr hF4 (Nat.le_refl _))
      | false =>
        have hln := hid (Hlaw1.out.trans (if_neg (of_decide_eq_false HC.out)))
        go_upto_region 9 with fail
        have hcall := hE n (Nat.le_refl _) w3 rb (.slice fa fn fc) true bad _ _ (⟨hg.pr.below hB3, Strs.soft hg.fs (Soft.of_below hB3), (hsr.below b2).below b3, sd1, hg.sm.sub (by rw [sd3.out]; exact (List.drop_sublist _ _).subset), by have := hg.le; omega, hg.gy.below hB3⟩) (by omega)
        go_wp2_with fail
        refine hcall.mono ?_
        rintro e w4 ⟨bd1, xv, x, rfl, an, fx, rs⟩
        obtain ⟨xvs, xve, xvb, xvc, rfl, x1, x2, x3, x4, x5⟩ := fx.ex; have xform := And.intro x1.self.parts (And.intro x2.self.parts (And.intro x4.self.parts x5.self.parts)); obtain ⟨⟨xa, xc, rfl, -⟩, ⟨xe, xec, rfl, -⟩, ⟨xb, xbc, rfl, -⟩, ⟨xk, xkc, rfl, -⟩⟩ := xform
        have hR4 := (an.fr.block w.heap.size hsz3 (by omega)).trans hR3
        have hR5 := fun o => (heap_alloc_old w4 o (Array.getElem?_eq_some_iff.1 hR4).1).trans hR4
        have hN5 := fun o => heap_alloc_new w4 o
        have hs5 := fun o => Soft.alloc w4 o
        have hf4 := (Fr.of_below hB3).trans an.fr
        have hz4 := an.fr.size
        have hzR := hsz3
        clear hcall
        go_wp2_with (refine wpList_store_row rfl 93 _ _ rfl w.heap.size _ rfl rfl 93 _ (hR5 _) (by kernel_rfl) (by kernel_rfl) (by kernel_rfl) ?_; go_simp)
        refine bodyPost_ret (results_cell_row rfl _ _ w.heap.size _ _ _ _ rfl (setRow_heap _ w.heap.size _ #[.int .i64 2, .string (bs ss), .slice (some ⟨w4.heap.size, 0, none⟩) 1 1] _ _ (hR5 _)) Tryz.underlying93 rfl (by kernel_rfl)) rfl ?_
        have fin : ∀ wf, Oth w.heap.size (w4.alloc (.cells #[.int .i64 x.kind, .string (bs x.name), .int .i64 x.val.kind, .slice xa x.val.shape.length xc, .slice xe x.val.elems.length xec, .int .i64 x.fn.kind, .int .i64 x.fn.f, .int .i64 x.fn.g, .string (bs x.fn.name), .slice xb x.fn.body.len xbc, .slice xk x.kids.len xkc] 36)) wf → LineA w wf rb (.slice fa fn fc) true bad law (.returned (.agg #[.int .i64 2, .string (bs ss), .slice (some ⟨w4.heap.size, 0, none⟩) 1 1])) := fun wf ho => by
          have hw : ∀ k, Up w3.heap.size k → w.heap.size < k := fun k hk => by unfold Up at hk; omega
          have hk := kids1 ((x1.weak hw).soft (hs5 _)) ((x2.weak hw).soft (hs5 _)) x3 ((x4.weak hw).soft (hs5 _)) ((x5.weak hw).soft (hs5 _)) (show w.heap.size < w4.heap.size by omega) (hN5 (.cells #[.int .i64 x.kind, .string (bs x.name), .int .i64 x.val.kind, .slice xa x.val.shape.length xc, .slice xe x.val.elems.length xec, .int .i64 x.fn.kind, .int .i64 x.fn.f, .int .i64 x.fn.g, .string (bs x.fn.name), .slice xb x.fn.body.len xbc, .slice xk x.kids.len xkc] 36)) rfl
          exact ⟨bd1, _, ⟨2, ss, x.cons .nil⟩, rfl, ⟨ho.pr (an.pr.below ((Below.refl _ _).alloc (Nat.le_refl _) _)) (by omega), ho.fr (hf4.trans (Fr.of_below ((Below.refl _ _).alloc (Nat.le_refl _) _))) (Nat.le_refl _)⟩, (Fresh.mkLn (y := ⟨2, ss, x.cons .nil⟩) (hk.softF (ho.soft (fun h => Nat.lt_irrefl _ h)))).weak (fun k hk => Nat.le_of_lt hk), rs.map (f := fun x => ⟨2, ss, x.cons .nil⟩) (hln.out.trans (by cases exprF F n true sr <;> rfl))⟩
        exact fin _ ((Oth.refl _ _).row _)
    · -- a value
      rw [hss] at hlaw1
      simp only at hlaw1
      have hln := hid hlaw1
      clear hlaw1
      rw [show bs [] = ⟨#[]⟩ from rfl]
      go_upto_region 10 with fail
      have hcall := hE n (Nat.le_refl _) w2 rb (.slice fa fn fc) true bad _ _ (⟨hp2, Strs.soft hg.fs (Soft.of_below hB2), hg.tk.below hB2, hg.dy, hg.sm, hg.le, hg.gy.below hB2⟩) (by omega)
      go_wp2_with fail
      refine hcall.mono ?_
      rintro e w4 ⟨bd1, xv, x, rfl, an, fx, rs⟩
      obtain ⟨xvs, xve, xvb, xvc, rfl, x1, x2, x3, x4, x5⟩ := fx.ex; have xform := And.intro x1.self.parts (And.intro x2.self.parts (And.intro x4.self.parts x5.self.parts)); obtain ⟨⟨xa, xc, rfl, -⟩, ⟨xe, xec, rfl, -⟩, ⟨xb, xbc, rfl, -⟩, ⟨xk, xkc, rfl, -⟩⟩ := xform
      have hR4 := (an.fr.block w.heap.size hsz2 (by omega)).trans hR2
      have hR5 := fun o => (heap_alloc_old w4 o (Array.getElem?_eq_some_iff.1 hR4).1).trans hR4
      have hN5 := fun o => heap_alloc_new w4 o
      have hs5 := fun o => Soft.alloc w4 o
      have hf4 := (Fr.of_below hB2).trans an.fr
      have hz4 := an.fr.size
      have hzR := hsz2
      clear hcall
      go_wp2_with (refine wpList_store_row rfl 93 _ _ rfl w.heap.size _ rfl rfl 93 _ (hR5 _) (by kernel_rfl) (by kernel_rfl) (by kernel_rfl) ?_; go_simp)
      refine bodyPost_ret (results_cell_row rfl _ _ w.heap.size _ _ _ _ rfl (setRow_heap _ w.heap.size _ #[.int .i64 1, .string ⟨#[]⟩, .slice (some ⟨w4.heap.size, 0, none⟩) 1 1] _ _ (hR5 _)) Tryz.underlying93 rfl (by kernel_rfl)) rfl ?_
      have fin : ∀ wf, Oth w.heap.size (w4.alloc (.cells #[.int .i64 x.kind, .string (bs x.name), .int .i64 x.val.kind, .slice xa x.val.shape.length xc, .slice xe x.val.elems.length xec, .int .i64 x.fn.kind, .int .i64 x.fn.f, .int .i64 x.fn.g, .string (bs x.fn.name), .slice xb x.fn.body.len xbc, .slice xk x.kids.len xkc] 36)) wf → LineA w wf rb (.slice fa fn fc) true bad law (.returned (.agg #[.int .i64 1, .string ⟨#[]⟩, .slice (some ⟨w4.heap.size, 0, none⟩) 1 1])) := fun wf ho => by
        have hw : ∀ k, Up w2.heap.size k → w.heap.size < k := fun k hk => by unfold Up at hk; omega
        have hk := kids1 ((x1.weak hw).soft (hs5 _)) ((x2.weak hw).soft (hs5 _)) x3 ((x4.weak hw).soft (hs5 _)) ((x5.weak hw).soft (hs5 _)) (show w.heap.size < w4.heap.size by omega) (hN5 (.cells #[.int .i64 x.kind, .string (bs x.name), .int .i64 x.val.kind, .slice xa x.val.shape.length xc, .slice xe x.val.elems.length xec, .int .i64 x.fn.kind, .int .i64 x.fn.f, .int .i64 x.fn.g, .string (bs x.fn.name), .slice xb x.fn.body.len xbc, .slice xk x.kids.len xkc] 36)) rfl
        exact ⟨bd1, _, ⟨1, [], x.cons .nil⟩, rfl, ⟨ho.pr (an.pr.below ((Below.refl _ _).alloc (Nat.le_refl _) _)) (by omega), ho.fr (hf4.trans (Fr.of_below ((Below.refl _ _).alloc (Nat.le_refl _) _))) (Nat.le_refl _)⟩, (Fresh.mkLn (y := ⟨1, [], x.cons .nil⟩) (hk.softF (ho.soft (fun h => Nat.lt_irrefl _ h)))).weak (fun k hk => Nat.le_of_lt hk), rs.map (f := fun x => ⟨1, [], x.cons .nil⟩) (hln.out.trans (by cases exprF F n true l <;> rfl))⟩
      exact fin _ ((Oth.refl _ _).row _)
  · -- a guard
    obtain ⟨gb, go, x0, rfl, gc0, gt0⟩ := hrow2 0 p0 rfl
    obtain ⟨gb', go', x1, e', gc1, gt1⟩ := hrow2 1 p1 rfl
    simp only [Option.some.injEq, Addr.mk.injEq, and_true] at e'
    obtain ⟨rfl, rfl⟩ := e'
    rw [Nat.add_zero] at gc0
    obtain ⟨a0, c0, rfl⟩ := toks_parts gt0
    obtain ⟨a1, c1, rfl⟩ := toks_parts gt1
    have hlaw1 := HlawE.out
    simp only at hlaw1
    have hln := hid hlaw1
    have m0 : p0 ∈ [p0, p1] := by simp
    have m1 : p1 ∈ [p0, p1] := by simp
    have hfu0 : 8 * p0.length + 3 ≤ n := by have := (hmem p0 m0).2.2; omega
    have hfu1 : 8 * p1.length + 3 ≤ n := by have := (hmem p1 m1).2.2; omega
    have g0 := Below.refl w2.heap.size w2
    have K0 : w2.drew.cell? ⟨gb, go, none⟩ = some (.slice a0 p0.length c0) ∧ w2.drew.cell? ⟨gb, go + 1, none⟩ = some (.slice a1 p1.length c1) := ⟨gc0, gc1⟩
    have rC0 : ∀ V, Below w2.heap.size w2 V → Calls Tryz.prog 82 #[.pointer (some ⟨rb, 0, none⟩), .slice a0 p0.length c0] V fun e w' => ExprA V w' rb (.slice fa fn fc) true bad (exprF F n true p0) e := fun V hV =>
      hE n (Nat.le_refl _) V rb _ true bad _ p0 (hG V bad _ hV p0 m0 gt0 (hp2.below hV)) hfu0
    have rC1 : ∀ V b1, PR V rb (.slice fa fn fc) true b1 → Fr rb w2 V → Calls Tryz.prog 82 #[.pointer (some ⟨rb, 0, none⟩), .slice a1 p1.length c1] V fun e w' => ExprA V w' rb (.slice fa fn fc) true b1 (exprF F n true p1) e := fun V b1 hV hF => by
      have hs := soft_of hp2 hV hF
      have hs0 := (Soft.of_below hB2).trans hs
      exact hE n (Nat.le_refl _) V rb _ true b1 _ p1 ⟨hV, Strs.soft hg.fs hs0, toks_soft gt1 hs, (hmem p1 m1).1, hg.sm.sub (hmem p1 m1).2.1, by have := (hmem p1 m1).2.2; have := hg.le; omega, hg.gy.soft hs0⟩ hfu1
    have hgb : gb ≠ w.heap.size := by have := hage gb rfl; simp at this; omega
    have keepS : ∀ V W, Soft w2 V → Oth w.heap.size V W → W.cell? ⟨gb, go, none⟩ = some (.slice a0 p0.length c0) ∧ W.cell? ⟨gb, go + 1, none⟩ = some (.slice a1 p1.length c1) := fun V W hV ho => by
      have q0 := hV _ _ gc0 (by intro b e; cases e)
      have q1 := hV _ _ gc1 (by intro b e; cases e)
      exact ⟨(World.cell?_of_block (w := V) (ho.block gb hgb)).trans q0, (World.cell?_of_block (w := V) (ho.block gb hgb)).trans q1⟩
    clear hlaw1 hrow2 hG
    rcases hsu with ⟨ss, sr, srv, -, rfl, hsr⟩ | ⟨-, sa, sn, scc, rfl⟩
    · obtain ⟨sa, sc, rfl⟩ := toks_parts hsr
      clear hsr
      go_upto_region 4 with fail
      go_region_held3 (fun w' => w'.cell? ⟨gb, go, none⟩ = some (.slice a0 p0.length c0) ∧ w'.cell? ⟨gb, go + 1, none⟩ = some (.slice a1 p1.length c1))
        (first | with_reducible exact K0 | with_reducible exact K2 | with_reducible exact K1 | with_reducible exact K3 _ | (apply K4; (repeat (with_reducible refine Oth.put ?_ _ _)); with_reducible exact Oth.refl _ _) | fail)
        (first
          | (go_at_call 82; refine (rC1 v1 bd1 an1.pr hf1).mono ?_; rintro e v2 ⟨bd2, yv, y, rfl, an2, fy, rs2⟩; obtain ⟨yvs, yve, yvb, yvc, rfl, y1, y2, y3, y4, y5⟩ := fy.ex; have yform := And.intro y1.self.parts (And.intro y2.self.parts (And.intro y4.self.parts y5.self.parts)); obtain ⟨⟨ya, yc, rfl, -⟩, ⟨ye, yec, rfl, -⟩, ⟨yb, ybc, rfl, -⟩, ⟨yk, ykc, rfl, -⟩⟩ := yform; have hf2 := hf1.trans an2.fr; have hsv2 := soft_of hp2 an2.pr hf2; have K2 := keepS v2 v2 hsv2 (Oth.refl _ _); have K3 := fun o => keepS (v2.alloc o) (v2.alloc o) (hsv2.trans (Soft.alloc _ o)) (Oth.refl _ _); have K4 := fun (o : Obj) (W : World) (ho : Oth w.heap.size (v2.alloc o) W) => keepS (v2.alloc o) W (hsv2.trans (Soft.alloc _ o)) ho; have hR4 := (hf2.block w.heap.size hsz2 (by omega)).trans hR2; have hR5 := fun o => (heap_alloc_old v2 o (Array.getElem?_eq_some_iff.1 hR4).1).trans hR4; have l0 := fun o => (ln_facts (hR5 o)).1.1; have l1 := fun o => (ln_facts (hR5 o)).1.2.1; have l2 := fun o => (ln_facts (hR5 o)).1.2.2; have l3 := fun o => (ln_facts (hR5 o)).2.1; have l4 := fun o => (ln_facts (hR5 o)).2.2.1; have l5 := fun o => (ln_facts (hR5 o)).2.2.2)
          | (go_at_call 82; refine (rC0 _ g0.drew).mono ?_; rintro e v1 ⟨bd1, xv, x, rfl, an1, fx, rs1⟩; obtain ⟨xvs, xve, xvb, xvc, rfl, x1, x2, x3, x4, x5⟩ := fx.ex; have xform := And.intro x1.self.parts (And.intro x2.self.parts (And.intro x4.self.parts x5.self.parts)); obtain ⟨⟨xa, xc, rfl, -⟩, ⟨xe, xec, rfl, -⟩, ⟨xb, xbc, rfl, -⟩, ⟨xk, xkc, rfl, -⟩⟩ := xform; have hf1 := (Fr.of_below (rb := rb) g0.drew).trans an1.fr; have hsv1 := soft_of hp2 an1.pr hf1; have K1 := keepS v1 v1 hsv1 (Oth.refl _ _))
          | fail)
      go_wp2_with fail
      refine bodyPost_ret (results_cell_row rfl _ _ w.heap.size _ _ _ _ rfl (ln_set (hR5 _) (.int .i64 3) (.string ⟨#[]⟩) (.slice (some ⟨v2.heap.size, 0, none⟩) 2 2)) Tryz.underlying93 rfl (by kernel_rfl)) rfl ?_
      have fin : ∀ wf, Oth w.heap.size (v2.alloc (.cells #[.int .i64 x.kind, .string (bs x.name), .int .i64 x.val.kind, .slice xa x.val.shape.length xc, .slice xe x.val.elems.length xec, .int .i64 x.fn.kind, .int .i64 x.fn.f, .int .i64 x.fn.g, .string (bs x.fn.name), .slice xb x.fn.body.len xbc, .slice xk x.kids.len xkc, .int .i64 y.kind, .string (bs y.name), .int .i64 y.val.kind, .slice ya y.val.shape.length yc, .slice ye y.val.elems.length yec, .int .i64 y.fn.kind, .int .i64 y.fn.f, .int .i64 y.fn.g, .string (bs y.fn.name), .slice yb y.fn.body.len ybc, .slice yk y.kids.len ykc] 36)) wf → LineA w wf rb (.slice fa fn fc) true bad law (.returned (.agg #[.int .i64 3, .string ⟨#[]⟩, .slice (some ⟨v2.heap.size, 0, none⟩) 2 2])) := fun wf ho => by
        have hs12 := soft_of an1.pr an2.pr an2.fr
        have hsA := Soft.alloc v2 (.cells #[.int .i64 x.kind, .string (bs x.name), .int .i64 x.val.kind, .slice xa x.val.shape.length xc, .slice xe x.val.elems.length xec, .int .i64 x.fn.kind, .int .i64 x.fn.f, .int .i64 x.fn.g, .string (bs x.fn.name), .slice xb x.fn.body.len xbc, .slice xk x.kids.len xkc, .int .i64 y.kind, .string (bs y.name), .int .i64 y.val.kind, .slice ya y.val.shape.length yc, .slice ye y.val.elems.length yec, .int .i64 y.fn.kind, .int .i64 y.fn.f, .int .i64 y.fn.g, .string (bs y.fn.name), .slice yb y.fn.body.len ybc, .slice yk y.kids.len ykc] 36)
        have hz1 := an1.fr.size
        have hz2 := an2.fr.size
        have hz0 : w2.drew.heap.size = w2.heap.size := rfl
        have hw1 : ∀ k, Up w2.drew.heap.size k → w.heap.size < k := fun k hk => by unfold Up at hk; omega
        have hw2 : ∀ k, Up v1.heap.size k → w.heap.size < k := fun k hk => by unfold Up at hk; omega
        have hk := kids2 (((x1.weak hw1).soft hs12).soft hsA) (((x2.weak hw1).soft hs12).soft hsA) x3 (((x4.weak hw1).soft hs12).soft hsA) (((x5.weak hw1).soft hs12).soft hsA)
          ((y1.weak hw2).soft hsA) ((y2.weak hw2).soft hsA) y3 ((y4.weak hw2).soft hsA) ((y5.weak hw2).soft hsA) (show w.heap.size < v2.heap.size by omega) (heap_alloc_new v2 (.cells #[.int .i64 x.kind, .string (bs x.name), .int .i64 x.val.kind, .slice xa x.val.shape.length xc, .slice xe x.val.elems.length xec, .int .i64 x.fn.kind, .int .i64 x.fn.f, .int .i64 x.fn.g, .string (bs x.fn.name), .slice xb x.fn.body.len xbc, .slice xk x.kids.len xkc, .int .i64 y.kind, .string (bs y.name), .int .i64 y.val.kind, .slice ya y.val.shape.length yc, .slice ye y.val.elems.length yec, .int .i64 y.fn.kind, .int .i64 y.fn.f, .int .i64 y.fn.g, .string (bs y.fn.name), .slice yb y.fn.body.len ybc, .slice yk y.kids.len ykc] 36)) rfl
        exact ⟨bd2, _, ⟨3, [], x.cons (y.cons .nil)⟩, rfl, ⟨ho.pr (an2.pr.below ((Below.refl _ _).alloc (Nat.le_refl _) _)) (by omega), ho.fr (((Fr.of_below hB2).trans hf2).trans (Fr.of_below ((Below.refl _ _).alloc (Nat.le_refl _) _))) (Nat.le_refl _)⟩, (Fresh.mkLn (y := ⟨3, [], x.cons (y.cons .nil)⟩) (hk.softF (ho.soft (fun h => Nat.lt_irrefl _ h)))).weak (fun k hk => Nat.le_of_lt hk), Res.two rs1 rs2 (fun x y => ⟨3, [], x.cons (y.cons .nil)⟩) (hln.out.trans (by cases exprF F n true p0 <;> cases exprF F n true p1 <;> rfl))⟩
      refine fin _ ?_
      repeat (with_reducible refine Oth.put ?_ _ _)
      exact Oth.refl _ _
    · skip
      go_upto_region 4 with fail
      go_region_held3 (fun w' => w'.cell? ⟨gb, go, none⟩ = some (.slice a0 p0.length c0) ∧ w'.cell? ⟨gb, go + 1, none⟩ = some (.slice a1 p1.length c1))
        (first | with_reducible exact K0 | with_reducible exact K2 | with_reducible exact K1 | with_reducible exact K3 _ | (apply K4; (repeat (with_reducible refine Oth.put ?_ _ _)); with_reducible exact Oth.refl _ _) | fail)
        (first
          | (go_at_call 82; refine (rC1 v1 bd1 an1.pr hf1).mono ?_; rintro e v2 ⟨bd2, yv, y, rfl, an2, fy, rs2⟩; obtain ⟨yvs, yve, yvb, yvc, rfl, y1, y2, y3, y4, y5⟩ := fy.ex; have yform := And.intro y1.self.parts (And.intro y2.self.parts (And.intro y4.self.parts y5.self.parts)); obtain ⟨⟨ya, yc, rfl, -⟩, ⟨ye, yec, rfl, -⟩, ⟨yb, ybc, rfl, -⟩, ⟨yk, ykc, rfl, -⟩⟩ := yform; have hf2 := hf1.trans an2.fr; have hsv2 := soft_of hp2 an2.pr hf2; have K2 := keepS v2 v2 hsv2 (Oth.refl _ _); have K3 := fun o => keepS (v2.alloc o) (v2.alloc o) (hsv2.trans (Soft.alloc _ o)) (Oth.refl _ _); have K4 := fun (o : Obj) (W : World) (ho : Oth w.heap.size (v2.alloc o) W) => keepS (v2.alloc o) W (hsv2.trans (Soft.alloc _ o)) ho; have hR4 := (hf2.block w.heap.size hsz2 (by omega)).trans hR2; have hR5 := fun o => (heap_alloc_old v2 o (Array.getElem?_eq_some_iff.1 hR4).1).trans hR4; have l0 := fun o => (ln_facts (hR5 o)).1.1; have l1 := fun o => (ln_facts (hR5 o)).1.2.1; have l2 := fun o => (ln_facts (hR5 o)).1.2.2; have l3 := fun o => (ln_facts (hR5 o)).2.1; have l4 := fun o => (ln_facts (hR5 o)).2.2.1; have l5 := fun o => (ln_facts (hR5 o)).2.2.2)
          | (go_at_call 82; refine (rC0 _ g0.drew).mono ?_; rintro e v1 ⟨bd1, xv, x, rfl, an1, fx, rs1⟩; obtain ⟨xvs, xve, xvb, xvc, rfl, x1, x2, x3, x4, x5⟩ := fx.ex; have xform := And.intro x1.self.parts (And.intro x2.self.parts (And.intro x4.self.parts x5.self.parts)); obtain ⟨⟨xa, xc, rfl, -⟩, ⟨xe, xec, rfl, -⟩, ⟨xb, xbc, rfl, -⟩, ⟨xk, xkc, rfl, -⟩⟩ := xform; have hf1 := (Fr.of_below (rb := rb) g0.drew).trans an1.fr; have hsv1 := soft_of hp2 an1.pr hf1; have K1 := keepS v1 v1 hsv1 (Oth.refl _ _))
          | fail)
      go_wp2_with fail
      refine bodyPost_ret (results_cell_row rfl _ _ w.heap.size _ _ _ _ rfl (ln_set (hR5 _) (.int .i64 3) (.string ⟨#[]⟩) (.slice (some ⟨v2.heap.size, 0, none⟩) 2 2)) Tryz.underlying93 rfl (by kernel_rfl)) rfl ?_
      have fin : ∀ wf, Oth w.heap.size (v2.alloc (.cells #[.int .i64 x.kind, .string (bs x.name), .int .i64 x.val.kind, .slice xa x.val.shape.length xc, .slice xe x.val.elems.length xec, .int .i64 x.fn.kind, .int .i64 x.fn.f, .int .i64 x.fn.g, .string (bs x.fn.name), .slice xb x.fn.body.len xbc, .slice xk x.kids.len xkc, .int .i64 y.kind, .string (bs y.name), .int .i64 y.val.kind, .slice ya y.val.shape.length yc, .slice ye y.val.elems.length yec, .int .i64 y.fn.kind, .int .i64 y.fn.f, .int .i64 y.fn.g, .string (bs y.fn.name), .slice yb y.fn.body.len ybc, .slice yk y.kids.len ykc] 36)) wf → LineA w wf rb (.slice fa fn fc) true bad law (.returned (.agg #[.int .i64 3, .string ⟨#[]⟩, .slice (some ⟨v2.heap.size, 0, none⟩) 2 2])) := fun wf ho => by
        have hs12 := soft_of an1.pr an2.pr an2.fr
        have hsA := Soft.alloc v2 (.cells #[.int .i64 x.kind, .string (bs x.name), .int .i64 x.val.kind, .slice xa x.val.shape.length xc, .slice xe x.val.elems.length xec, .int .i64 x.fn.kind, .int .i64 x.fn.f, .int .i64 x.fn.g, .string (bs x.fn.name), .slice xb x.fn.body.len xbc, .slice xk x.kids.len xkc, .int .i64 y.kind, .string (bs y.name), .int .i64 y.val.kind, .slice ya y.val.shape.length yc, .slice ye y.val.elems.length yec, .int .i64 y.fn.kind, .int .i64 y.fn.f, .int .i64 y.fn.g, .string (bs y.fn.name), .slice yb y.fn.body.len ybc, .slice yk y.kids.len ykc] 36)
        have hz1 := an1.fr.size
        have hz2 := an2.fr.size
        have hz0 : w2.drew.heap.size = w2.heap.size := rfl
        have hw1 : ∀ k, Up w2.drew.heap.size k → w.heap.size < k := fun k hk => by unfold Up at hk; omega
        have hw2 : ∀ k, Up v1.heap.size k → w.heap.size < k := fun k hk => by unfold Up at hk; omega
        have hk := kids2 (((x1.weak hw1).soft hs12).soft hsA) (((x2.weak hw1).soft hs12).soft hsA) x3 (((x4.weak hw1).soft hs12).soft hsA) (((x5.weak hw1).soft hs12).soft hsA)
          ((y1.weak hw2).soft hsA) ((y2.weak hw2).soft hsA) y3 ((y4.weak hw2).soft hsA) ((y5.weak hw2).soft hsA) (show w.heap.size < v2.heap.size by omega) (heap_alloc_new v2 (.cells #[.int .i64 x.kind, .string (bs x.name), .int .i64 x.val.kind, .slice xa x.val.shape.length xc, .slice xe x.val.elems.length xec, .int .i64 x.fn.kind, .int .i64 x.fn.f, .int .i64 x.fn.g, .string (bs x.fn.name), .slice xb x.fn.body.len xbc, .slice xk x.kids.len xkc, .int .i64 y.kind, .string (bs y.name), .int .i64 y.val.kind, .slice ya y.val.shape.length yc, .slice ye y.val.elems.length yec, .int .i64 y.fn.kind, .int .i64 y.fn.f, .int .i64 y.fn.g, .string (bs y.fn.name), .slice yb y.fn.body.len ybc, .slice yk y.kids.len ykc] 36)) rfl
        exact ⟨bd2, _, ⟨3, [], x.cons (y.cons .nil)⟩, rfl, ⟨ho.pr (an2.pr.below ((Below.refl _ _).alloc (Nat.le_refl _) _)) (by omega), ho.fr (((Fr.of_below hB2).trans hf2).trans (Fr.of_below ((Below.refl _ _).alloc (Nat.le_refl _) _))) (Nat.le_refl _)⟩, (Fresh.mkLn (y := ⟨3, [], x.cons (y.cons .nil)⟩) (hk.softF (ho.soft (fun h => Nat.lt_irrefl _ h)))).weak (fun k hk => Nat.le_of_lt hk), Res.two rs1 rs2 (fun x y => ⟨3, [], x.cons (y.cons .nil)⟩) (hln.out.trans (by cases exprF F n true p0 <;> cases exprF F n true p1 <;> rfl))⟩
      refine fin _ ?_
      repeat (with_reducible refine Oth.put ?_ _ _)
      exact Oth.refl _ _
  · have hlaw1 := HlawE.out
    simp only at hlaw1
    have hln := hid hlaw1
    have hl2 : decide ((2 : Int) < ((P.length + 1 + 1 + 1 : Nat) : Int)) = true := by simp; omega
    have hl3 : (((P.length + 1 + 1 + 1 : Nat) : Int) == 2) = false := by rw [beq_eq_false_iff_ne]; omega
    simp only [List.length_cons]
    clear hlaw1
    rcases hsu with ⟨ss, sr, srv, -, rfl, hsr⟩ | ⟨-, sa, sn, scc, rfl⟩
    · obtain ⟨sa, sc, rfl⟩ := toks_parts hsr
      go_upto_region 6 with fail
      go_wp2_with fail
      refine (fail_any w2 rb (.slice fa fn fc) true bad (hp2)).mono ?_
      rintro e w4 ⟨rfl, hp4, hf4⟩
      have hR4 := (hf4.block w.heap.size hsz2 (by omega)).trans hR2
      have hF4 := (Fr.of_below hB2).trans hf4
      go_wp2_with (refine wpList_store_row rfl 93 _ _ rfl w.heap.size _ rfl rfl 93 _ hR4 (by kernel_rfl) (by kernel_rfl) (by kernel_rfl) ?_; go_simp)
      refine bodyPost_ret (results_cell_row rfl _ _ w.heap.size _ _ _ _ rfl (setRow_heap w4 w.heap.size _ #[.int .i64 0, .string ⟨#[]⟩, .slice none 0 0] _ _ hR4) Tryz.underlying93 rfl (by kernel_rfl)) rfl ?_
      exact line_none hln.out (((Oth.refl _ _).row _).pr hp4 (by omega)) (((Oth.refl _ _).row _).fr hF4 (Nat.le_refl _))
    · skip
      go_upto_region 6 with fail
      go_wp2_with fail
      refine (fail_any w2 rb (.slice fa fn fc) true bad (hp2)).mono ?_
      rintro e w4 ⟨rfl, hp4, hf4⟩
      have hR4 := (hf4.block w.heap.size hsz2 (by omega)).trans hR2
      have hF4 := (Fr.of_below hB2).trans hf4
      go_wp2_with (refine wpList_store_row rfl 93 _ _ rfl w.heap.size _ rfl rfl 93 _ hR4 (by kernel_rfl) (by kernel_rfl) (by kernel_rfl) ?_; go_simp)
      refine bodyPost_ret (results_cell_row rfl _ _ w.heap.size _ _ _ _ rfl (setRow_heap w4 w.heap.size _ #[.int .i64 0, .string ⟨#[]⟩, .slice none 0 0] _ _ hR4) Tryz.underlying93 rfl (by kernel_rfl)) rfl ?_
      exact line_none hln.out (((Oth.refl _ _).row _).pr hp4 (by omega)) (((Oth.refl _ _).row _).fr hF4 (Nat.le_refl _))
end Go.Proofs.YthlingdlehdlhaaGreatDoor.Par
