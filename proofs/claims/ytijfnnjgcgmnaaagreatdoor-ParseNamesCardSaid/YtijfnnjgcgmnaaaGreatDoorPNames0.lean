/- The law ParseNames: its small functions, of new memory. -/
import Derived.Test.YtijfnnjgcgmnaaaGreatDoorPInv
namespace Go.Proofs.YtijfnnjgcgmnaaaGreatDoor.Par
open Go.RowKit Go.Shelf
set_option linter.unusedVariables false
set_option linter.unusedSimpArgs false

set_option maxRecDepth 100000 in
theorem value18_new (n : Int) (w : World) (h0 : -9223372036854775808 ≤ n) (h1 : n ≤ 9223372036854775807) :
    Calls Tryz.prog 14 #[.int .i64 n] w fun e w' => (∃ v, e = .returned v ∧ Fresh (Up w.heap.size) w' (IsE · v (valX n))) ∧ Below w.heap.size w w' := by
  have hR := heap_alloc_new w (.cells #[.int .i64 0, .string ⟨#[]⟩, .int .i64 0, .slice none 0 0, .slice none 0 0, .int .i64 0, .int .i64 0, .int .i64 0, .string ⟨#[]⟩, .slice none 0 0, .slice none 0 0] 34)
  have hB := (Below.refl _ w).alloc (Nat.le_refl _) (.cells #[.int .i64 0, .string ⟨#[]⟩, .int .i64 0, .slice none 0 0, .slice none 0 0, .int .i64 0, .int .i64 0, .int .i64 0, .string ⟨#[]⟩, .slice none 0 0, .slice none 0 0] 34)
  go_enter Tryz.func14, Tryz.ntmps14
  go_upto_region 1 with fail
  generalize w.alloc (.cells #[.int .i64 0, .string ⟨#[]⟩, .int .i64 0, .slice none 0 0, .slice none 0 0, .int .i64 0, .int .i64 0, .int .i64 0, .string ⟨#[]⟩, .slice none 0 0, .slice none 0 0] 34) = w1 at *
  go_wp2_with fail
  refine (scalar_own n w1 h0 h1).mono ?_
  rintro e w2 ⟨⟨v, rfl, ho⟩, b2⟩
  obtain ⟨vs, ve, rfl, i1, i2, i3⟩ := ho.isArr
  obtain ⟨sa, sc, rfl, -⟩ := i1.parts
  obtain ⟨ea, ec, rfl, -⟩ := i2.parts
  have hR2 := (b2.block _ (Array.getElem?_eq_some_iff.1 hR).1).trans hR
  have hB2 := hB.trans (b2.mono hB.size)
  go_wp2_with (refine wpList_store_row rfl 34 _ _ rfl w.heap.size _ rfl rfl 34 _ hR2 (by kernel_rfl) (by kernel_rfl) (by kernel_rfl) ?_; go_simp)
  refine bodyPost_ret (results_cell_row rfl _ _ w.heap.size _ _ _ _ rfl (setRow_heap w2 w.heap.size _ #[.int .i64 1, .string ⟨#[]⟩, .int .i64 1, .slice sa 0 sc, .slice ea 1 ec, .int .i64 0, .int .i64 0, .int .i64 0, .string ⟨#[]⟩, .slice none 0 0, .slice none 0 0] _ _ hR2) Tryz.underlying34 rfl (by kernel_rfl)) rfl ?_
  have fin : ∀ wf, Oth w.heap.size w2 wf → Fresh (Up w.heap.size) wf (IsE · (.agg #[.int .i64 1, .string ⟨#[]⟩, .int .i64 1, .slice sa 0 sc, .slice ea 1 ec, .int .i64 0, .int .i64 0, .int .i64 0, .string ⟨#[]⟩, .slice none 0 0, .slice none 0 0]) (valX n)) := fun wf hf => by
    have hlt : w.heap.size < w1.heap.size := (Array.getElem?_eq_some_iff.1 hR).1
    obtain ⟨vs', ve', e, o1, o2, o3⟩ := ho
    simp only [Value.agg.injEq, Array.mk.injEq, List.cons.injEq, true_and, and_true] at e
    obtain ⟨rfl, rfl⟩ := e
    refine ((Fresh.mkEx (base := fun k => w.heap.size < k) (x := valX n) (Fresh.ints o1 (fun k hk => by omega) (fun w' h' => Ints.of_owns h')) (Fresh.ints o2 (fun k hk => by omega) (fun w' h' => Ints.of_owns h')) o3 (Fresh.nil _ _) (Fresh.nil _ _)).softF (hf.soft (fun h => Nat.lt_irrefl _ h))).weak (fun k hk => Nat.le_of_lt hk)
  exact ⟨⟨_, rfl, fin _ ((Oth.refl _ _).row _)⟩, ((Oth.refl _ _).row _).below hB2 (Nat.le_refl _)⟩
set_option maxRecDepth 100000 in
set_option maxHeartbeats 4000000 in
theorem two18_new (Sb : Nat → Prop) (f : Fn) (x y : Ex) (vf vx vy : Value) (w : World) (hSb : ∀ k, w.heap.size ≤ k → Sb k) (iff_ : Fresh Sb w (IsF · vf f)) (ix : Fresh Sb w (IsE · vx x)) (iy : Fresh Sb w (IsE · vy y)) :
    Calls Tryz.prog 13 #[vf, vx, vy] w fun e w' => (∃ v, e = .returned v ∧ Fresh Sb w' (IsE · v (twoX f x y))) ∧ Below w.heap.size w w' := by
  obtain ⟨fv, rfl, f1⟩ := iff_.fn
  obtain ⟨fb, fbc, rfl, -⟩ := f1.self.parts
  obtain ⟨xvs, xve, xvb, xvc, rfl, x1, x2, x3, x4, x5⟩ := ix.ex
  obtain ⟨xa, xc, rfl, -⟩ := x1.self.parts
  obtain ⟨xe, xec, rfl, -⟩ := x2.self.parts
  obtain ⟨xb, xbc, rfl, -⟩ := x4.self.parts
  obtain ⟨xk, xkc, rfl, -⟩ := x5.self.parts
  obtain ⟨yvs, yve, yvb, yvc, rfl, y1, y2, y3, y4, y5⟩ := iy.ex
  obtain ⟨ya, yc, rfl, -⟩ := y1.self.parts
  obtain ⟨ye, yec, rfl, -⟩ := y2.self.parts
  obtain ⟨yb, ybc, rfl, -⟩ := y4.self.parts
  obtain ⟨yk, ykc, rfl, -⟩ := y5.self.parts
  go_enter Tryz.func13, Tryz.ntmps13
  go_upto_region 1 with fail
  obtain ⟨hF, hX, hY, hR, hB, hz⟩ := four_new w (.cells #[.int .i64 f.kind, .int .i64 f.f, .int .i64 f.g, .string (bs f.name), .slice fb f.body.len fbc] 31) (.cells #[.int .i64 x.kind, .string (bs x.name), .int .i64 x.val.kind, .slice xa x.val.shape.length xc, .slice xe x.val.elems.length xec, .int .i64 x.fn.kind, .int .i64 x.fn.f, .int .i64 x.fn.g, .string (bs x.fn.name), .slice xb x.fn.body.len xbc, .slice xk x.kids.len xkc] 34) (.cells #[.int .i64 y.kind, .string (bs y.name), .int .i64 y.val.kind, .slice ya y.val.shape.length yc, .slice ye y.val.elems.length yec, .int .i64 y.fn.kind, .int .i64 y.fn.f, .int .i64 y.fn.g, .string (bs y.fn.name), .slice yb y.fn.body.len ybc, .slice yk y.kids.len ykc] 34) (.cells #[.int .i64 0, .string ⟨#[]⟩, .int .i64 0, .slice none 0 0, .slice none 0 0, .int .i64 0, .int .i64 0, .int .i64 0, .string ⟨#[]⟩, .slice none 0 0, .slice none 0 0] 34)
  generalize (((w.alloc (.cells #[.int .i64 f.kind, .int .i64 f.f, .int .i64 f.g, .string (bs f.name), .slice fb f.body.len fbc] 31)).alloc (.cells #[.int .i64 x.kind, .string (bs x.name), .int .i64 x.val.kind, .slice xa x.val.shape.length xc, .slice xe x.val.elems.length xec, .int .i64 x.fn.kind, .int .i64 x.fn.f, .int .i64 x.fn.g, .string (bs x.fn.name), .slice xb x.fn.body.len xbc, .slice xk x.kids.len xkc] 34)).alloc (.cells #[.int .i64 y.kind, .string (bs y.name), .int .i64 y.val.kind, .slice ya y.val.shape.length yc, .slice ye y.val.elems.length yec, .int .i64 y.fn.kind, .int .i64 y.fn.f, .int .i64 y.fn.g, .string (bs y.fn.name), .slice yb y.fn.body.len ybc, .slice yk y.kids.len ykc] 34)).alloc (.cells #[.int .i64 0, .string ⟨#[]⟩, .int .i64 0, .slice none 0 0, .slice none 0 0, .int .i64 0, .int .i64 0, .int .i64 0, .string ⟨#[]⟩, .slice none 0 0, .slice none 0 0] 34) = w4 at *
  have hRO := fun O => (heap_alloc_old w4 O (by omega : w.heap.size + 3 < w4.heap.size)).trans hR
  have hN := fun O => heap_alloc_new w4 O
  have hBO := fun O => hB.alloc hB.size O
  have Hz := hid hz
  clear hR hz
  go_wp2_with (first
    | (refine wpList_load_rowE rfl 31 _ rfl w.heap.size rfl 31 _ _ _ hF Tryz.underlying31 rfl (by kernel_rfl) ?_; go_simp)
    | (refine wpList_load_rowE rfl 34 _ rfl (w.heap.size + 1) rfl 34 _ _ _ hX Tryz.underlying34 rfl (by kernel_rfl) ?_; go_simp)
    | (refine wpList_load_rowE rfl 34 _ rfl (w.heap.size + 2) rfl 34 _ _ _ hY Tryz.underlying34 rfl (by kernel_rfl) ?_; go_simp)
    | (refine wpList_store_row rfl 34 _ _ rfl (w.heap.size + 3) _ rfl rfl 34 _ (hRO _) (by kernel_rfl) (by kernel_rfl) (by kernel_rfl) ?_; go_simp))
  refine bodyPost_ret (results_cell_row rfl _ _ (w.heap.size + 3) _ _ _ _ rfl (setRow_heap _ (w.heap.size + 3) _ #[.int .i64 6, .string ⟨#[]⟩, .int .i64 0, .slice none 0 0, .slice none 0 0, .int .i64 f.kind, .int .i64 f.f, .int .i64 f.g, .string (bs f.name), .slice fb f.body.len fbc, .slice (some ⟨w4.heap.size, 0, none⟩) 2 2] _ _ (hRO _)) Tryz.underlying34 rfl (by kernel_rfl)) rfl ?_
  have fin : ∀ wf, Oth (w.heap.size + 3) (w4.alloc (.cells #[.int .i64 x.kind, .string (bs x.name), .int .i64 x.val.kind, .slice xa x.val.shape.length xc, .slice xe x.val.elems.length xec, .int .i64 x.fn.kind, .int .i64 x.fn.f, .int .i64 x.fn.g, .string (bs x.fn.name), .slice xb x.fn.body.len xbc, .slice xk x.kids.len xkc, .int .i64 y.kind, .string (bs y.name), .int .i64 y.val.kind, .slice ya y.val.shape.length yc, .slice ye y.val.elems.length yec, .int .i64 y.fn.kind, .int .i64 y.fn.f, .int .i64 y.fn.g, .string (bs y.fn.name), .slice yb y.fn.body.len ybc, .slice yk y.kids.len ykc] 34)) wf → Fresh Sb wf (IsE · (.agg #[.int .i64 6, .string ⟨#[]⟩, .int .i64 0, .slice none 0 0, .slice none 0 0, .int .i64 f.kind, .int .i64 f.f, .int .i64 f.g, .string (bs f.name), .slice fb f.body.len fbc, .slice (some ⟨w4.heap.size, 0, none⟩) 2 2]) (twoX f x y)) ∧ Below w.heap.size w wf := fun wf ho => by
    have hz := Hz.out
    have hbo := hBO (.cells #[.int .i64 x.kind, .string (bs x.name), .int .i64 x.val.kind, .slice xa x.val.shape.length xc, .slice xe x.val.elems.length xec, .int .i64 x.fn.kind, .int .i64 x.fn.f, .int .i64 x.fn.g, .string (bs x.fn.name), .slice xb x.fn.body.len xbc, .slice xk x.kids.len xkc, .int .i64 y.kind, .string (bs y.name), .int .i64 y.val.kind, .slice ya y.val.shape.length yc, .slice ye y.val.elems.length yec, .int .i64 y.fn.kind, .int .i64 y.fn.f, .int .i64 y.fn.g, .string (bs y.fn.name), .slice yb y.fn.body.len ybc, .slice yk y.kids.len ykc] 34)
    have hb := ho.below hbo (by omega)
    have hs := Soft.of_below hbo
    have hy : ∀ k, Sb k → k < w.heap.size → Sb k ∧ k ≠ w.heap.size + 3 := fun k h1 h2 => ⟨h1, by omega⟩
    have hk := kids2 (Sb := fun k => Sb k ∧ k ≠ w.heap.size + 3) (x1.young hs hy) (x2.young hs hy) x3 (x4.young hs hy) (x5.young hs hy) (y1.young hs hy) (y2.young hs hy) y3 (y4.young hs hy) (y5.young hs hy) (g := w4.heap.size) ⟨hSb _ (by omega), by omega⟩ (hN (.cells #[.int .i64 x.kind, .string (bs x.name), .int .i64 x.val.kind, .slice xa x.val.shape.length xc, .slice xe x.val.elems.length xec, .int .i64 x.fn.kind, .int .i64 x.fn.f, .int .i64 x.fn.g, .string (bs x.fn.name), .slice xb x.fn.body.len xbc, .slice xk x.kids.len xkc, .int .i64 y.kind, .string (bs y.name), .int .i64 y.val.kind, .slice ya y.val.shape.length yc, .slice ye y.val.elems.length yec, .int .i64 y.fn.kind, .int .i64 y.fn.f, .int .i64 y.fn.g, .string (bs y.fn.name), .slice yb y.fn.body.len ybc, .slice yk y.kids.len ykc] 34)) rfl
    exact ⟨((Fresh.mkEx (x := twoX f x y) (Fresh.ints0 _ _) (Fresh.ints0 _ _) (fun i hi => by simp [twoX, noArr] at hi) (f1.young hs hy) hk).softF (ho.soft (fun h => h.2 rfl))).weak (fun k hk => hk.1), hb⟩
  obtain ⟨q1, q2⟩ := fin _ ((Oth.refl _ _).row _)
  exact ⟨⟨_, rfl, q1⟩, q2⟩
set_option maxRecDepth 100000 in
set_option maxHeartbeats 4000000 in
theorem one18_new (Sb : Nat → Prop) (f : Fn) (x : Ex) (vf vx : Value) (w : World) (hSb : ∀ k, w.heap.size ≤ k → Sb k) (iff_ : Fresh Sb w (IsF · vf f)) (ix : Fresh Sb w (IsE · vx x)) :
    Calls Tryz.prog 15 #[vf, vx] w fun e w' => (∃ v, e = .returned v ∧ Fresh Sb w' (IsE · v (oneX f x))) ∧ Below w.heap.size w w' := by
  obtain ⟨fv, rfl, f1⟩ := iff_.fn
  obtain ⟨fb, fbc, rfl, -⟩ := f1.self.parts
  obtain ⟨xvs, xve, xvb, xvc, rfl, x1, x2, x3, x4, x5⟩ := ix.ex
  obtain ⟨xa, xc, rfl, -⟩ := x1.self.parts
  obtain ⟨xe, xec, rfl, -⟩ := x2.self.parts
  obtain ⟨xb, xbc, rfl, -⟩ := x4.self.parts
  obtain ⟨xk, xkc, rfl, -⟩ := x5.self.parts
  go_enter Tryz.func15, Tryz.ntmps15
  go_upto_region 1 with fail
  obtain ⟨hF, hX, hR, hB, hz⟩ := three_new w (.cells #[.int .i64 f.kind, .int .i64 f.f, .int .i64 f.g, .string (bs f.name), .slice fb f.body.len fbc] 31) (.cells #[.int .i64 x.kind, .string (bs x.name), .int .i64 x.val.kind, .slice xa x.val.shape.length xc, .slice xe x.val.elems.length xec, .int .i64 x.fn.kind, .int .i64 x.fn.f, .int .i64 x.fn.g, .string (bs x.fn.name), .slice xb x.fn.body.len xbc, .slice xk x.kids.len xkc] 34) (.cells #[.int .i64 0, .string ⟨#[]⟩, .int .i64 0, .slice none 0 0, .slice none 0 0, .int .i64 0, .int .i64 0, .int .i64 0, .string ⟨#[]⟩, .slice none 0 0, .slice none 0 0] 34)
  generalize ((w.alloc (.cells #[.int .i64 f.kind, .int .i64 f.f, .int .i64 f.g, .string (bs f.name), .slice fb f.body.len fbc] 31)).alloc (.cells #[.int .i64 x.kind, .string (bs x.name), .int .i64 x.val.kind, .slice xa x.val.shape.length xc, .slice xe x.val.elems.length xec, .int .i64 x.fn.kind, .int .i64 x.fn.f, .int .i64 x.fn.g, .string (bs x.fn.name), .slice xb x.fn.body.len xbc, .slice xk x.kids.len xkc] 34)).alloc (.cells #[.int .i64 0, .string ⟨#[]⟩, .int .i64 0, .slice none 0 0, .slice none 0 0, .int .i64 0, .int .i64 0, .int .i64 0, .string ⟨#[]⟩, .slice none 0 0, .slice none 0 0] 34) = w4 at *
  have hRO := fun O => (heap_alloc_old w4 O (by omega : w.heap.size + 2 < w4.heap.size)).trans hR
  have hN := fun O => heap_alloc_new w4 O
  have hBO := fun O => hB.alloc hB.size O
  have Hz := hid hz
  clear hR hz
  go_wp2_with (first
    | (refine wpList_load_rowE rfl 31 _ rfl w.heap.size rfl 31 _ _ _ hF Tryz.underlying31 rfl (by kernel_rfl) ?_; go_simp)
    | (refine wpList_load_rowE rfl 34 _ rfl (w.heap.size + 1) rfl 34 _ _ _ hX Tryz.underlying34 rfl (by kernel_rfl) ?_; go_simp)
    | (refine wpList_store_row rfl 34 _ _ rfl (w.heap.size + 2) _ rfl rfl 34 _ (hRO _) (by kernel_rfl) (by kernel_rfl) (by kernel_rfl) ?_; go_simp))
  refine bodyPost_ret (results_cell_row rfl _ _ (w.heap.size + 2) _ _ _ _ rfl (setRow_heap _ (w.heap.size + 2) _ #[.int .i64 5, .string ⟨#[]⟩, .int .i64 0, .slice none 0 0, .slice none 0 0, .int .i64 f.kind, .int .i64 f.f, .int .i64 f.g, .string (bs f.name), .slice fb f.body.len fbc, .slice (some ⟨w4.heap.size, 0, none⟩) 1 1] _ _ (hRO _)) Tryz.underlying34 rfl (by kernel_rfl)) rfl ?_
  have fin : ∀ wf, Oth (w.heap.size + 2) (w4.alloc (.cells #[.int .i64 x.kind, .string (bs x.name), .int .i64 x.val.kind, .slice xa x.val.shape.length xc, .slice xe x.val.elems.length xec, .int .i64 x.fn.kind, .int .i64 x.fn.f, .int .i64 x.fn.g, .string (bs x.fn.name), .slice xb x.fn.body.len xbc, .slice xk x.kids.len xkc] 34)) wf → Fresh Sb wf (IsE · (.agg #[.int .i64 5, .string ⟨#[]⟩, .int .i64 0, .slice none 0 0, .slice none 0 0, .int .i64 f.kind, .int .i64 f.f, .int .i64 f.g, .string (bs f.name), .slice fb f.body.len fbc, .slice (some ⟨w4.heap.size, 0, none⟩) 1 1]) (oneX f x)) ∧ Below w.heap.size w wf := fun wf ho => by
    have hz := Hz.out
    have hbo := hBO (.cells #[.int .i64 x.kind, .string (bs x.name), .int .i64 x.val.kind, .slice xa x.val.shape.length xc, .slice xe x.val.elems.length xec, .int .i64 x.fn.kind, .int .i64 x.fn.f, .int .i64 x.fn.g, .string (bs x.fn.name), .slice xb x.fn.body.len xbc, .slice xk x.kids.len xkc] 34)
    have hb := ho.below hbo (by omega)
    have hs := Soft.of_below hbo
    have hy : ∀ k, Sb k → k < w.heap.size → Sb k ∧ k ≠ w.heap.size + 2 := fun k h1 h2 => ⟨h1, by omega⟩
    have hk := kids1 (Sb := fun k => Sb k ∧ k ≠ w.heap.size + 2) (x1.young hs hy) (x2.young hs hy) x3 (x4.young hs hy) (x5.young hs hy) (g := w4.heap.size) ⟨hSb _ (by omega), by omega⟩ (hN (.cells #[.int .i64 x.kind, .string (bs x.name), .int .i64 x.val.kind, .slice xa x.val.shape.length xc, .slice xe x.val.elems.length xec, .int .i64 x.fn.kind, .int .i64 x.fn.f, .int .i64 x.fn.g, .string (bs x.fn.name), .slice xb x.fn.body.len xbc, .slice xk x.kids.len xkc] 34)) rfl
    exact ⟨((Fresh.mkEx (x := oneX f x) (Fresh.ints0 _ _) (Fresh.ints0 _ _) (fun i hi => by simp [oneX, noArr] at hi) (f1.young hs hy) hk).softF (ho.soft (fun h => h.2 rfl))).weak (fun k hk => hk.1), hb⟩
  obtain ⟨q1, q2⟩ := fin _ ((Oth.refl _ _).row _)
  exact ⟨⟨_, rfl, q1⟩, q2⟩
set_option maxRecDepth 100000 in
set_option maxHeartbeats 4000000 in
theorem wrong18_so (F : List (List UInt8)) (hF : F.length ≤ 1000) (s : List UInt8) (S : ByteArray) (hS : S = bs s) (fv : Value) (w : World) (hs : s.length ≤ 300000) (hfs : Strs w fv (F.map bs)) (hG : Glob w) (hgy : Gly w) (h : treeOf F s = (noStm, 170)) :
    Calls Tryz.prog 17 #[.string S, fv] w fun e w' => e = .returned (.bool true) ∧ Below w.heap.size w w' := by
  subst hS
  have htree := tree_any F hF s fv w hs hfs hG hgy
  have hok := treeOf_ok F s
  generalize treeOf F s = p at *
  have H := hid h
  clear h
  go_enter Tryz.func17, Tryz.ntmps17
  go_wp2_with fail
  refine htree.mono ?_
  intro e w2 hst
  obtain ⟨ta, tc, te, tec, tb, tbc, tk, tkc, td, tdc, rfl, iS, b2⟩ := hst.row
  have hT3 := heap_alloc_new w2 (.cells #[.int .i64 p.1.kind, .string (bs p.1.name), .int .i64 p.1.expr.kind, .string (bs p.1.expr.name), .int .i64 p.1.expr.val.kind, .slice ta p.1.expr.val.shape.length tc, .slice te p.1.expr.val.elems.length tec, .int .i64 p.1.expr.fn.kind, .int .i64 p.1.expr.fn.f, .int .i64 p.1.expr.fn.g, .string (bs p.1.expr.fn.name), .slice tb p.1.expr.fn.body.len tbc, .slice tk p.1.expr.kids.len tkc, .slice td p.1.body.len tdc] 36)
  have hb3 := (Below.refl _ w2).alloc (Nat.le_refl _) (.cells #[.int .i64 p.1.kind, .string (bs p.1.name), .int .i64 p.1.expr.kind, .string (bs p.1.expr.name), .int .i64 p.1.expr.val.kind, .slice ta p.1.expr.val.shape.length tc, .slice te p.1.expr.val.elems.length tec, .int .i64 p.1.expr.fn.kind, .int .i64 p.1.expr.fn.f, .int .i64 p.1.expr.fn.g, .string (bs p.1.expr.fn.name), .slice tb p.1.expr.fn.body.len tbc, .slice tk p.1.expr.kids.len tkc, .slice td p.1.body.len tdc] 36)
  clear htree hst
  go_upto_region 2 with fail
  generalize w2.alloc (.cells #[.int .i64 p.1.kind, .string (bs p.1.name), .int .i64 p.1.expr.kind, .string (bs p.1.expr.name), .int .i64 p.1.expr.val.kind, .slice ta p.1.expr.val.shape.length tc, .slice te p.1.expr.val.elems.length tec, .int .i64 p.1.expr.fn.kind, .int .i64 p.1.expr.fn.f, .int .i64 p.1.expr.fn.g, .string (bs p.1.expr.fn.name), .slice tb p.1.expr.fn.body.len tbc, .slice tk p.1.expr.kids.len tkc, .slice td p.1.body.len tdc] 36) = w3 at *
  have hB3 := b2.trans (hb3.mono b2.size)
  have hsame := pSame_any p.1 noStm (.agg #[.int .i64 p.1.kind, .string (bs p.1.name), .int .i64 p.1.expr.kind, .string (bs p.1.expr.name), .int .i64 p.1.expr.val.kind, .slice ta p.1.expr.val.shape.length tc, .slice te p.1.expr.val.elems.length tec, .int .i64 p.1.expr.fn.kind, .int .i64 p.1.expr.fn.f, .int .i64 p.1.expr.fn.g, .string (bs p.1.expr.fn.name), .slice tb p.1.expr.fn.body.len tbc, .slice tk p.1.expr.kids.len tkc, .slice td p.1.body.len tdc]) (.agg #[.int .i64 0, .string ⟨#[]⟩, .int .i64 0, .string ⟨#[]⟩, .int .i64 0, .slice none 0 0, .slice none 0 0, .int .i64 0, .int .i64 0, .int .i64 0, .string ⟨#[]⟩, .slice none 0 0, .slice none 0 0, .slice none 0 0]) w3 hok.1 hok.2 (by decide) (by decide) (iS.below hb3) (noStm_fresh (fun _ => True) w3).self
  have e0 : p.1 = noStm := by rw [H.out]
  have t0 : (p.2 == 170) = true := by rw [H.out]; rfl
  rw [decide_eq_true e0] at hsame
  clear e0
  obtain ⟨c0, c1, c2, c3, c4, c5, c6, c7, c8, c9, c10, c11, c12, c13⟩ := st_facts hT3
  go_wp2_with fail
  refine hsame.mono ?_
  rintro e w4 ⟨rfl, b4⟩
  go_wp2_with fail
  go_ret
  exact ⟨rfl, hB3.trans (b4.mono hB3.size)⟩
/-- One that is so, with names of functions. -/
theorem gives18_F (F : List (List UInt8)) (hF : F.length ≤ 1000) (s : List UInt8) (S : ByteArray) (hS : S = bs s) (x : Ex) (fv vx : Value) (w : World) (hs : s.length ≤ 300000) (hfs : Strs w fv (F.map bs)) (hG : Glob w) (hgy : Gly w) (hx : x.ok = true) (ix : IsE w vx x) (h : treeOf F s = (⟨1, [], x, .nil⟩, 0)) :
    Calls Tryz.prog 12 #[.string S, vx, fv] w fun e w' => e = .returned (.bool true) ∧ Below w.heap.size w w' := by
  have := gives18_any F hF s S hS x fv vx w hs hfs hG hgy hx ix
  rw [decide_eq_true h] at this
  exact this
theorem strs_one {w : World} {b : Nat} {T : TypeId} {s : List UInt8} {S : ByteArray} (hS : S = bs s) (h : w.heap[b]? = some (.cells #[.string S] T)) : Strs w (.slice (some ⟨b, 0, none⟩) 1 1) ([s].map bs) := by
  subst hS
  refine ⟨some ⟨b, 0, none⟩, 1, rfl, Nat.le_refl _, by omega, by simp, fun i hi => ⟨b, 0, rfl, ?_⟩⟩
  have : i = 0 := by simp at hi; omega
  subst this
  rw [Lib.cell_of_heap h]; rfl
end Go.Proofs.YtijfnnjgcgmnaaaGreatDoor.Par
