/- ParseGlyphs: the walk of the law. -/
import Derived.Test.YthlingdlehdlhaaDoorRStm
import Derived.Test.YthlingdlehdlhaaDoorRSame
import Derived.Test.YthlingdlehdlhaaDoorRTokens
import Derived.Test.YthlingdlehdlhaaDoorRGl
import Derived.Test.YthlingdlehdlhaaDoorPShowW
import Derived.Deep.Cut
namespace Go.Proofs.YthlingdlehdlhaaDoor.Par
open Go.RowKit Go.Shelf
set_option linter.unusedVariables false
set_option linter.unusedSimpArgs false

theorem toks_good {l : List UInt8} {T : List Tok} {er : Int} (h : tokensOf l = (T, er)) : (∀ t ∈ T, Good t) ∧ Small T := by
  by_cases her : er = 0
  · subst her
    have := tokens_chain (l := l) (by rw [h])
    rw [h] at this
    exact ⟨chain_good T this.1, chain_small this.1⟩
  · have := tokens_err (l := l) (by rw [h]; exact her)
    rw [h] at this
    simp only at this
    subst this
    exact ⟨(fun t ht => by cases ht), (fun t ht => by cases ht)⟩
theorem toks_len {l : List UInt8} {T : List Tok} {er : Int} (h : tokensOf l = (T, er)) : T.length ≤ 4000 := by
  by_cases her : er = 0
  · subst her
    have := tokens_chain (l := l) (by rw [h])
    rw [h] at this
    exact this.2
  · have := tokens_err (l := l) (by rw [h]; exact her)
    rw [h] at this
    simp only at this
    subst this
    simp
set_option maxRecDepth 100000 in
set_option maxHeartbeats 8000000 in
theorem glyphs_walk (n : Int) (g l m : List UInt8) (w : World) (hgy : Gly w) (hsz : g.length ≤ 9223372036854775807) :
    Calls Tryd.prog 3 #[.int .i64 n, .string (bs g), .string (bs l), .string (bs m)] w fun e w' => e = .returned (.bool true) ∧ Below w.heap.size w w' := by
  have hgs : (bs g).size = g.length := bs_size g
  have hr1 := rgreat18_any (bs l) none 0 0 w
  have hr2 := fun W => rgreat18_any (bs m) none 0 0 W
  have h1 : l.length = (bs l).size := (bs_size l).symm
  have h2 : m.length = (bs m).size := (bs_size m).symm
  obtain ⟨D1, hD1⟩ : ∃ d, (decide (8000 < (bs l).size) || decide (50 < 0)) = d := ⟨_, rfl⟩
  obtain ⟨D2, hD2⟩ : ∃ d, (decide (8000 < (bs m).size) || decide (50 < 0)) = d := ⟨_, rfl⟩
  rw [hD1] at hr1
  rw [hD2] at hr2
  have L1 := hid (show D1 = false → l.length ≤ 8000 from fun e => by rw [e] at hD1; simp at hD1; omega)
  have L2 := hid (show D2 = false → m.length ≤ 8000 from fun e => by rw [e] at hD2; simp at hD2; omega)
  clear hD1 hD2 h1 h2
  have HX := hid hgs
  go_enter Tryd.func3, Tryd.ntmps3
  by_cases hg : 100 < (bs g).size
  · have hgi : (100 : Int) < ((bs g).size : Int) := by omega
    clear hgs
    go_wp2_with fail
    go_ret
    exact ⟨rfl, Below.refl _ _⟩
  · have hgi : ¬ (100 : Int) < ((bs g).size : Int) := by omega
    clear hgs
    go_wp2_with fail
    refine hr1.mono ?_
    rintro e w1 ⟨rfl, b1⟩
    cases D1 with
    | true =>
      go_wp2_with fail
      go_ret
      exact ⟨rfl, b1⟩
    | false =>
      go_wp2_with fail
      refine (hr2 _).mono ?_
      rintro e w2 ⟨rfl, b2⟩
      have hB2 := b1.trans (b2.mono b1.size)
      cases D2 with
      | true =>
        go_wp2_with fail
        go_ret
        exact ⟨rfl, hB2⟩
      | false =>
        have hl := L1.out (by trivial)
        have hm := L2.out (by trivial)
        have hv1 := fun W => val_any n W
        have hv2 := fun W => rval_any n W
        have hg1 := fun W (h : Below w.heap.size w W) => pglyph_any n W (hgy.below h)
        have hg2 := fun W => r8glyph_any n W
        have hf1 := fun W (h : Below w.heap.size w W) => (fn_any g (bs g) rfl W (hgy.below h)).mono fun e w' (k : _ ∧ _) => (⟨k.1, k.2.below W.heap.size⟩ : _ ∧ Below W.heap.size W w')
        have hf2 := fun W => rfn_any g W
        have ht1 := fun W => rtokens_any l W (by omega)
        have ht2 := fun W => rtokens_any m W (by omega)
        generalize (valF n).1 = VA at *
        generalize (valF n).2 = VB at *
        generalize bs (glyphF n) = GL at *
        generalize fnF g = FV at *
        clear hr1 hr2 hl hm
        go_wp2_with fail
        refine (hv1 _).mono ?_
        rintro e w3 ⟨rfl, b3⟩
        have hB3 := hB2.trans (b3.mono hB2.size)
        go_wp2_with fail
        refine (hv2 _).mono ?_
        rintro e w4 ⟨rfl, b4⟩
        have hB4 := hB3.trans (b4.mono hB3.size)
        go_wp2_with fail
        refine (hg1 _ hB4).mono ?_
        rintro e w5 ⟨rfl, b5⟩
        have hB5 := hB4.trans (b5.mono hB4.size)
        go_wp2_with fail
        refine (hg2 _).mono ?_
        rintro e w6 ⟨rfl, b6⟩
        have hB6 := hB5.trans (b6.mono hB5.size)
        have hgl2 : (GL.toList == GL.toList) = true := beq_self_eq_true _
        go_wp2_with fail
        refine (hf1 _ hB6).mono ?_
        rintro e w7 ⟨rfl, b7⟩
        have hB7 := hB6.trans (b7.mono hB6.size)
        go_wp2_with fail
        refine (hf2 _).mono ?_
        rintro e w8 ⟨rfl, b8⟩
        have hB8 := hB7.trans (b8.mono hB7.size)
        have hfv : (FV != FV) = false := by simp
        have hva : (VA != VA) = false := by simp
        have hvb : (VB != VB) = false := by simp
        clear hv1 hv2 hg1 hg2 hf1 hf2 b1 b2 b3 b4 b5 b6 b7 b8 hB2 hB3 hB4 hB5 hB6 hB7
        go_wp2_with fail
        refine (ht1 _).mono ?_
        rintro e w9 ⟨⟨v1, us1, rfl, hrow1, htoks1⟩, b9⟩
        obtain ⟨a1, c1, rfl⟩ := own_slice hrow1
        have hg1 := fun T er h => toks_good (l := l) (T := T) (er := er) h
        have hn1 := fun T er h => toks_len (l := l) (T := T) (er := er) h
        generalize tokensOf l = TT1 at *
        obtain ⟨T1, er1⟩ := TT1
        simp only at hrow1 htoks1
        have HG1 := hid (hg1 T1 er1 rfl)
        have HN1 := hid (hn1 T1 er1 rfl)
        have hB9 := hB8.trans (b9.mono hB8.size)
        clear ht1 hg1 hn1
        simp only
        go_wp2_with fail
        refine (ht2 _).mono ?_
        rintro e wa ⟨⟨v2, us2, rfl, hrow2, htoks2⟩, ba⟩
        obtain ⟨a2, c2, rfl⟩ := own_slice hrow2
        have hg2 := fun T er h => toks_good (l := m) (T := T) (er := er) h
        have hn2 := fun T er h => toks_len (l := m) (T := T) (er := er) h
        generalize tokensOf m = TT2 at *
        obtain ⟨T2, er2⟩ := TT2
        simp only at hrow2 htoks2
        have HG2 := hid (hg2 T2 er2 rfl)
        have HN2 := hid (hn2 T2 er2 rfl)
        have hBa := hB9.trans (ba.mono hB9.size)
        have htk1 := (IsToks.of_own hrow1 htoks1).below ba
        have htk2 := IsToks.of_own hrow2 htoks2
        have hnil : ∀ W : World, Strs W (.slice none 0 0) (([] : List (List UInt8)).map bs) := fun W => ⟨none, 0, rfl, Nat.le_refl _, by omega, fun _ => rfl, fun i hi => by simp at hi⟩
        have hS1 := rStatement_any [] (by simp) (.slice a1 T1.length c1) (.slice none 0 0) T1 wa htk1 (hnil _) HG1.out.1 HG1.out.2 (by have := HN1.out; omega)
        have hS2 := fun W (hW : Below wa.heap.size wa W) => rStatement_any [] (by simp) (.slice a2 T2.length c2) (.slice none 0 0) T2 W (htk2.below hW) (hnil _) HG2.out.1 HG2.out.2 (by have := HN2.out; omega)
        obtain ⟨ox1, ox2⟩ := stateOf_ok [] T1
        obtain ⟨oy1, oy2⟩ := stateOf_ok [] T2
        generalize stateOf [] T1 = P1 at *
        generalize stateOf [] T2 = P2 at *
        obtain ⟨x, en1⟩ := P1
        obtain ⟨y, en2⟩ := P2
        simp only at ox1 ox2 oy1 oy2
        clear ht2 hg2 hn2 hrow1 htoks1 hrow2 htoks2 hnil
        simp only
        go_wp2_with fail
        refine hS1.mono ?_
        rintro e wA ⟨⟨xv, rfl, fx⟩, bA⟩
        obtain ⟨xvs, xve, xvb, xvc, xvd, rfl, x1, x2, x3, x4, x5, x6⟩ := fx.stm
        have hformx := And.intro x1.self.parts (And.intro x2.self.parts (And.intro x4.self.parts (And.intro x5.self.parts x6.self.parts)))
        obtain ⟨⟨xa, xc, rfl, -⟩, ⟨xe, xec, rfl, -⟩, ⟨xb, xbc, rfl, -⟩, ⟨xk, xkc, rfl, -⟩, ⟨xd, xdc, rfl, -⟩⟩ := hformx
        have hA := heap_alloc_new wA (.cells #[.int .i64 x.kind, .string (bs x.name), .int .i64 x.expr.kind, .string (bs x.expr.name), .int .i64 x.expr.val.kind, .slice xa x.expr.val.shape.length xc, .slice xe x.expr.val.elems.length xec, .int .i64 x.expr.fn.kind, .int .i64 x.expr.fn.f, .int .i64 x.expr.fn.g, .string (bs x.expr.fn.name), .slice xb x.expr.fn.body.len xbc, .slice xk x.expr.kids.len xkc, .slice xd x.body.len xdc] 41)
        have bC := bA.alloc bA.size (.cells #[.int .i64 x.kind, .string (bs x.name), .int .i64 x.expr.kind, .string (bs x.expr.name), .int .i64 x.expr.val.kind, .slice xa x.expr.val.shape.length xc, .slice xe x.expr.val.elems.length xec, .int .i64 x.expr.fn.kind, .int .i64 x.expr.fn.f, .int .i64 x.expr.fn.g, .string (bs x.expr.fn.name), .slice xb x.expr.fn.body.len xbc, .slice xk x.expr.kids.len xkc, .slice xd x.body.len xdc] 41)
        have iX := fx.self.below ((Below.refl _ wA).alloc (Nat.le_refl _) (.cells #[.int .i64 x.kind, .string (bs x.name), .int .i64 x.expr.kind, .string (bs x.expr.name), .int .i64 x.expr.val.kind, .slice xa x.expr.val.shape.length xc, .slice xe x.expr.val.elems.length xec, .int .i64 x.expr.fn.kind, .int .i64 x.expr.fn.f, .int .i64 x.expr.fn.g, .string (bs x.expr.fn.name), .slice xb x.expr.fn.body.len xbc, .slice xk x.expr.kids.len xkc, .slice xd x.body.len xdc] 41))
        clear hS1 fx x1 x2 x4 x5 x6 htk1
        go_upto_region 10 with fail
        generalize wA.alloc (.cells #[.int .i64 x.kind, .string (bs x.name), .int .i64 x.expr.kind, .string (bs x.expr.name), .int .i64 x.expr.val.kind, .slice xa x.expr.val.shape.length xc, .slice xe x.expr.val.elems.length xec, .int .i64 x.expr.fn.kind, .int .i64 x.expr.fn.f, .int .i64 x.expr.fn.g, .string (bs x.expr.fn.name), .slice xb x.expr.fn.body.len xbc, .slice xk x.expr.kids.len xkc, .slice xd x.body.len xdc] 41) = wC at *
        have hAl : wA.heap.size < wC.heap.size := (Array.getElem?_eq_some_iff.1 hA).1
        go_wp2_with fail
        refine (hS2 _ bC).mono ?_
        rintro e wB ⟨⟨yv, rfl, fy⟩, bB⟩
        obtain ⟨yvs, yve, yvb, yvc, yvd, rfl, y1, y2, y3, y4, y5, y6⟩ := fy.stm
        have hformy := And.intro y1.self.parts (And.intro y2.self.parts (And.intro y4.self.parts (And.intro y5.self.parts y6.self.parts)))
        obtain ⟨⟨ya, yc, rfl, -⟩, ⟨ye, yec, rfl, -⟩, ⟨yb, ybc, rfl, -⟩, ⟨yk, ykc, rfl, -⟩, ⟨yd, ydc, rfl, -⟩⟩ := hformy
        have hB := heap_alloc_new wB (.cells #[.int .i64 y.kind, .string (bs y.name), .int .i64 y.expr.kind, .string (bs y.expr.name), .int .i64 y.expr.val.kind, .slice ya y.expr.val.shape.length yc, .slice ye y.expr.val.elems.length yec, .int .i64 y.expr.fn.kind, .int .i64 y.expr.fn.f, .int .i64 y.expr.fn.g, .string (bs y.expr.fn.name), .slice yb y.expr.fn.body.len ybc, .slice yk y.expr.kids.len ykc, .slice yd y.body.len ydc] 41)
        have bD := bB.alloc bB.size (.cells #[.int .i64 y.kind, .string (bs y.name), .int .i64 y.expr.kind, .string (bs y.expr.name), .int .i64 y.expr.val.kind, .slice ya y.expr.val.shape.length yc, .slice ye y.expr.val.elems.length yec, .int .i64 y.expr.fn.kind, .int .i64 y.expr.fn.f, .int .i64 y.expr.fn.g, .string (bs y.expr.fn.name), .slice yb y.expr.fn.body.len ybc, .slice yk y.expr.kids.len ykc, .slice yd y.body.len ydc] 41)
        have iY := fy.self.below ((Below.refl _ wB).alloc (Nat.le_refl _) (.cells #[.int .i64 y.kind, .string (bs y.name), .int .i64 y.expr.kind, .string (bs y.expr.name), .int .i64 y.expr.val.kind, .slice ya y.expr.val.shape.length yc, .slice ye y.expr.val.elems.length yec, .int .i64 y.expr.fn.kind, .int .i64 y.expr.fn.f, .int .i64 y.expr.fn.g, .string (bs y.expr.fn.name), .slice yb y.expr.fn.body.len ybc, .slice yk y.expr.kids.len ykc, .slice yd y.body.len ydc] 41))
        clear hS2 fy y1 y2 y4 y5 y6 htk2
        go_upto_region 11 with fail
        generalize wB.alloc (.cells #[.int .i64 y.kind, .string (bs y.name), .int .i64 y.expr.kind, .string (bs y.expr.name), .int .i64 y.expr.val.kind, .slice ya y.expr.val.shape.length yc, .slice ye y.expr.val.elems.length yec, .int .i64 y.expr.fn.kind, .int .i64 y.expr.fn.f, .int .i64 y.expr.fn.g, .string (bs y.expr.fn.name), .slice yb y.expr.fn.body.len ybc, .slice yk y.expr.kids.len ykc, .slice yd y.body.len ydc] 41) = wD at *
        have hBl : wB.heap.size < wD.heap.size := (Array.getElem?_eq_some_iff.1 hB).1
        have hA' := (bD.block _ hAl).trans hA
        have iX' := iX.below bD
        have hBD := hBa.trans ((bC.trans (bD.mono bC.size)).mono hBa.size)
        have keep : ∀ V, Below wD.heap.size wD V → (V.cell? ⟨wA.heap.size, 0, none⟩ = some (.int .i64 x.kind) ∧ V.cell? ⟨wA.heap.size, 1, none⟩ = some (.string (bs x.name)) ∧ V.cell? ⟨wA.heap.size, 2, none⟩ = some (.int .i64 x.expr.kind) ∧ V.cell? ⟨wA.heap.size, 3, none⟩ = some (.string (bs x.expr.name)) ∧ V.cell? ⟨wA.heap.size, 4, none⟩ = some (.int .i64 x.expr.val.kind) ∧ V.cell? ⟨wA.heap.size, 5, none⟩ = some (.slice xa x.expr.val.shape.length xc) ∧ V.cell? ⟨wA.heap.size, 6, none⟩ = some (.slice xe x.expr.val.elems.length xec) ∧ V.cell? ⟨wA.heap.size, 7, none⟩ = some (.int .i64 x.expr.fn.kind) ∧ V.cell? ⟨wA.heap.size, 8, none⟩ = some (.int .i64 x.expr.fn.f) ∧ V.cell? ⟨wA.heap.size, 9, none⟩ = some (.int .i64 x.expr.fn.g) ∧ V.cell? ⟨wA.heap.size, 10, none⟩ = some (.string (bs x.expr.fn.name)) ∧ V.cell? ⟨wA.heap.size, 11, none⟩ = some (.slice xb x.expr.fn.body.len xbc) ∧ V.cell? ⟨wA.heap.size, 12, none⟩ = some (.slice xk x.expr.kids.len xkc) ∧ V.cell? ⟨wA.heap.size, 13, none⟩ = some (.slice xd x.body.len xdc)) ∧ (V.cell? ⟨wB.heap.size, 0, none⟩ = some (.int .i64 y.kind) ∧ V.cell? ⟨wB.heap.size, 1, none⟩ = some (.string (bs y.name)) ∧ V.cell? ⟨wB.heap.size, 2, none⟩ = some (.int .i64 y.expr.kind) ∧ V.cell? ⟨wB.heap.size, 3, none⟩ = some (.string (bs y.expr.name)) ∧ V.cell? ⟨wB.heap.size, 4, none⟩ = some (.int .i64 y.expr.val.kind) ∧ V.cell? ⟨wB.heap.size, 5, none⟩ = some (.slice ya y.expr.val.shape.length yc) ∧ V.cell? ⟨wB.heap.size, 6, none⟩ = some (.slice ye y.expr.val.elems.length yec) ∧ V.cell? ⟨wB.heap.size, 7, none⟩ = some (.int .i64 y.expr.fn.kind) ∧ V.cell? ⟨wB.heap.size, 8, none⟩ = some (.int .i64 y.expr.fn.f) ∧ V.cell? ⟨wB.heap.size, 9, none⟩ = some (.int .i64 y.expr.fn.g) ∧ V.cell? ⟨wB.heap.size, 10, none⟩ = some (.string (bs y.expr.fn.name)) ∧ V.cell? ⟨wB.heap.size, 11, none⟩ = some (.slice yb y.expr.fn.body.len ybc) ∧ V.cell? ⟨wB.heap.size, 12, none⟩ = some (.slice yk y.expr.kids.len ykc) ∧ V.cell? ⟨wB.heap.size, 13, none⟩ = some (.slice yd y.body.len ydc)) := fun V hV => ⟨st_facts ((hV.block _ (by have := bD.size; omega)).trans hA'), st_facts ((hV.block _ hBl).trans hB)⟩
        have g0 := Below.refl wD.heap.size wD
        have rA : ∀ V, Below wD.heap.size wD V → Calls Tryd.prog 13 #[.agg #[.int .i64 x.kind, .string (bs x.name), .int .i64 x.expr.kind, .string (bs x.expr.name), .int .i64 x.expr.val.kind, .slice xa x.expr.val.shape.length xc, .slice xe x.expr.val.elems.length xec, .int .i64 x.expr.fn.kind, .int .i64 x.expr.fn.f, .int .i64 x.expr.fn.g, .string (bs x.expr.fn.name), .slice xb x.expr.fn.body.len xbc, .slice xk x.expr.kids.len xkc, .slice xd x.body.len xdc], .agg #[.int .i64 y.kind, .string (bs y.name), .int .i64 y.expr.kind, .string (bs y.expr.name), .int .i64 y.expr.val.kind, .slice ya y.expr.val.shape.length yc, .slice ye y.expr.val.elems.length yec, .int .i64 y.expr.fn.kind, .int .i64 y.expr.fn.f, .int .i64 y.expr.fn.g, .string (bs y.expr.fn.name), .slice yb y.expr.fn.body.len ybc, .slice yk y.expr.kids.len ykc, .slice yd y.body.len ydc]] V fun e w' => e = .returned (.bool (decide (x = y))) ∧ Below V.heap.size V w' := fun V hV => pSame_any x y _ _ V ox1 ox2 oy1 oy2 (iX'.below hV) (iY.below hV)
        have rB : ∀ V, Below wD.heap.size wD V → Calls Tryd.prog 14 #[.agg #[.int .i64 x.kind, .string (bs x.name), .int .i64 x.expr.kind, .string (bs x.expr.name), .int .i64 x.expr.val.kind, .slice xa x.expr.val.shape.length xc, .slice xe x.expr.val.elems.length xec, .int .i64 x.expr.fn.kind, .int .i64 x.expr.fn.f, .int .i64 x.expr.fn.g, .string (bs x.expr.fn.name), .slice xb x.expr.fn.body.len xbc, .slice xk x.expr.kids.len xkc, .slice xd x.body.len xdc], .agg #[.int .i64 y.kind, .string (bs y.name), .int .i64 y.expr.kind, .string (bs y.expr.name), .int .i64 y.expr.val.kind, .slice ya y.expr.val.shape.length yc, .slice ye y.expr.val.elems.length yec, .int .i64 y.expr.fn.kind, .int .i64 y.expr.fn.f, .int .i64 y.expr.fn.g, .string (bs y.expr.fn.name), .slice yb y.expr.fn.body.len ybc, .slice yk y.expr.kids.len ykc, .slice yd y.body.len ydc]] V fun e w' => e = .returned (.bool (decide (x = y))) ∧ Below V.heap.size V w' := fun V hV => r8same_any x y _ _ V ox1 ox2 oy1 oy2 (iX'.below hV) (iY.below hV)
        generalize decide (x = y) = DD at *
        clear hA hB hA' iX iX' iY bA bB
        go_region_held3 (fun V => (V.cell? ⟨wA.heap.size, 0, none⟩ = some (.int .i64 x.kind) ∧ V.cell? ⟨wA.heap.size, 1, none⟩ = some (.string (bs x.name)) ∧ V.cell? ⟨wA.heap.size, 2, none⟩ = some (.int .i64 x.expr.kind) ∧ V.cell? ⟨wA.heap.size, 3, none⟩ = some (.string (bs x.expr.name)) ∧ V.cell? ⟨wA.heap.size, 4, none⟩ = some (.int .i64 x.expr.val.kind) ∧ V.cell? ⟨wA.heap.size, 5, none⟩ = some (.slice xa x.expr.val.shape.length xc) ∧ V.cell? ⟨wA.heap.size, 6, none⟩ = some (.slice xe x.expr.val.elems.length xec) ∧ V.cell? ⟨wA.heap.size, 7, none⟩ = some (.int .i64 x.expr.fn.kind) ∧ V.cell? ⟨wA.heap.size, 8, none⟩ = some (.int .i64 x.expr.fn.f) ∧ V.cell? ⟨wA.heap.size, 9, none⟩ = some (.int .i64 x.expr.fn.g) ∧ V.cell? ⟨wA.heap.size, 10, none⟩ = some (.string (bs x.expr.fn.name)) ∧ V.cell? ⟨wA.heap.size, 11, none⟩ = some (.slice xb x.expr.fn.body.len xbc) ∧ V.cell? ⟨wA.heap.size, 12, none⟩ = some (.slice xk x.expr.kids.len xkc) ∧ V.cell? ⟨wA.heap.size, 13, none⟩ = some (.slice xd x.body.len xdc)) ∧ (V.cell? ⟨wB.heap.size, 0, none⟩ = some (.int .i64 y.kind) ∧ V.cell? ⟨wB.heap.size, 1, none⟩ = some (.string (bs y.name)) ∧ V.cell? ⟨wB.heap.size, 2, none⟩ = some (.int .i64 y.expr.kind) ∧ V.cell? ⟨wB.heap.size, 3, none⟩ = some (.string (bs y.expr.name)) ∧ V.cell? ⟨wB.heap.size, 4, none⟩ = some (.int .i64 y.expr.val.kind) ∧ V.cell? ⟨wB.heap.size, 5, none⟩ = some (.slice ya y.expr.val.shape.length yc) ∧ V.cell? ⟨wB.heap.size, 6, none⟩ = some (.slice ye y.expr.val.elems.length yec) ∧ V.cell? ⟨wB.heap.size, 7, none⟩ = some (.int .i64 y.expr.fn.kind) ∧ V.cell? ⟨wB.heap.size, 8, none⟩ = some (.int .i64 y.expr.fn.f) ∧ V.cell? ⟨wB.heap.size, 9, none⟩ = some (.int .i64 y.expr.fn.g) ∧ V.cell? ⟨wB.heap.size, 10, none⟩ = some (.string (bs y.expr.fn.name)) ∧ V.cell? ⟨wB.heap.size, 11, none⟩ = some (.slice yb y.expr.fn.body.len ybc) ∧ V.cell? ⟨wB.heap.size, 12, none⟩ = some (.slice yk y.expr.kids.len ykc) ∧ V.cell? ⟨wB.heap.size, 13, none⟩ = some (.slice yd y.body.len ydc)))
          (first | with_reducible exact keep _ g0.drew | with_reducible exact keep _ g1 | with_reducible exact keep _ g2 | fail)
          (first
            | (go_at_call 14; refine (rB _ g1).mono ?_; rintro e v2 ⟨rfl, b2⟩; have g2 := g1.trans (b2.mono g1.size))
            | (go_at_call 13; refine (rA _ g0.drew).mono ?_; rintro e v1 ⟨rfl, b1⟩; have g1 := g0.drew.trans (b1.mono (Nat.le_refl _)))
            | fail)
        go_wp2_with fail
        go_ret
        exact ⟨by simp, hBD.trans (g2.mono hBD.size)⟩
end Go.Proofs.YthlingdlehdlhaaDoor.Par
