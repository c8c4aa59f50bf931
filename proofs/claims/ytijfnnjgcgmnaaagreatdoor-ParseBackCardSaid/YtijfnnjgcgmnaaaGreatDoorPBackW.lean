/- The law ParseBack: what is told of a statement, shown, is told again as it was; and so by way of a text. -/
import Derived.Test.YtijfnnjgcgmnaaaGreatDoorPShowS
import Derived.Test.YtijfnnjgcgmnaaaGreatDoorPVals
import Derived.Test.YtijfnnjgcgmnaaaGreatDoorPUns
import Derived.Deep.Cut
namespace Go.Proofs.YtijfnnjgcgmnaaaGreatDoor.Par
open Go.RowKit Go.Shelf
set_option linter.unusedVariables false
set_option linter.unusedSimpArgs false

theorem tree_err {F : List (List UInt8)} {s : List UInt8} (h : (treeOf F s).2 ≠ 0) : (treeOf F s).1 = noStm := by
  unfold treeOf at h ⊢
  by_cases h0 : (tokensOf s).2 = 0
  · rw [if_pos h0] at h ⊢
    unfold stateOf at h ⊢
    by_cases h1 : (matchedF (tokensOf s).1).2 = false
    · rw [if_pos h1]
    · by_cases h2 : 50 < (matchedF (tokensOf s).1).1
      · rw [if_neg h1, if_pos h2]
      · rw [if_neg h1, if_neg h2] at h ⊢
        cases hx : stmtF F (tokensOf s).1 with
        | none => rfl
        | some x => rw [hx] at h; exact absurd rfl h
  · rw [if_neg h0]
theorem tree_t (F : List (List UInt8)) (hF : F.length ≤ 1000) (s : List UInt8) (fv : Value) (w : World) (hs : s.length ≤ 300000) (hfs : Strs w fv (F.map bs)) (hG : Glob w) (hgy : Gly w) (S : ByteArray) (hS : S = bs s) (p : Stm × Int) (hp : treeOf F s = p) :
    Calls Tryz.prog 9 #[.string S, fv] w fun e w' => StateA w w' p e := by
  subst hS hp; exact tree_any F hF s fv w hs hfs hG hgy
set_option maxRecDepth 100000 in
set_option maxHeartbeats 8000000 in
theorem back_walk18 (l : List UInt8) (F : List (List UInt8)) (fv : Value) (w : World) (hf : Strs w fv (F.map bs)) (hG : Glob w) (hTb : Tabs w) (hgy : Gly w) :
    Calls Tryz.prog 6 #[.string (bs l), fv] w fun e w' => e = .returned (.bool true) ∧ Below w.heap.size w w' := by
  obtain ⟨fa, fc, rfl, -⟩ := id hf
  rw [List.length_map] at hf ⊢
  go_enter Tryz.func6, Tryz.ntmps6
  go_wp2_with fail
  refine (alive18_any w hG hgy).mono ?_
  rintro e w1 ⟨rfl, b1⟩
  have hgr := great18_any (bs l) fa F.length fc w1
  rw [bs_size] at hgr
  obtain ⟨GT, hGT⟩ : ∃ g, (decide (8000 < l.length) || decide (50 < F.length)) = g := ⟨_, rfl⟩
  rw [hGT] at hgr
  have HGT := hid hGT
  clear hGT
  go_wp2_with fail
  refine hgr.mono ?_
  rintro e w2 ⟨rfl, b2⟩
  have hB2 := b1.trans (b2.mono b1.size)
  clear hgr b1 b2
  cases GT with
  | true =>
    go_wp2_with fail
    go_ret
    exact ⟨rfl, hB2⟩
  | false =>
    have hs := HGT.out
    simp only [Bool.or_eq_false_iff, decide_eq_false_iff_not] at hs
    obtain ⟨hl, hF⟩ := hs
    clear HGT
    have hlaw := back_law F l (by omega)
    have herr := tree_err (F := F) (s := l)
    have okX := treeOf_ok F l
    obtain ⟨X, hX⟩ : ∃ X, treeOf F l = X := ⟨_, rfl⟩
    rw [hX] at hlaw herr okX
    have hV := fun V (hV : Below w2.heap.size w2 V) => And.intro (Strs.soft hf (Soft.of_below (hB2.trans (hV.mono hB2.size)))) (And.intro (hG.below (hB2.trans (hV.mono hB2.size))) (And.intro (hgy.below (hB2.trans (hV.mono hB2.size))) (hTb.below (hB2.trans (hV.mono hB2.size)))))
    have hcx := tree_t F (by omega) l (.slice fa F.length fc) w2 (by omega) (hV w2 (Below.refl _ _)).1 (hV w2 (Below.refl _ _)).2.1 (hV w2 (Below.refl _ _)).2.2.1 (bs l) rfl X hX
    have Hlaw := hid hlaw
    have Herr := hid herr
    clear hlaw herr hX hf hG hgy hTb
    go_wp2_with fail
    refine hcx.mono ?_
    intro e w3 hst
    obtain ⟨xa, xc, xe, xec, xb, xbc, xk, xkc, xd, xdc, rfl, iX, b3⟩ := hst.row
    have hX4 := heap_alloc_new w3 (.cells #[.int .i64 X.1.kind, .string (bs X.1.name), .int .i64 X.1.expr.kind, .string (bs X.1.expr.name), .int .i64 X.1.expr.val.kind, .slice xa X.1.expr.val.shape.length xc, .slice xe X.1.expr.val.elems.length xec, .int .i64 X.1.expr.fn.kind, .int .i64 X.1.expr.fn.f, .int .i64 X.1.expr.fn.g, .string (bs X.1.expr.fn.name), .slice xb X.1.expr.fn.body.len xbc, .slice xk X.1.expr.kids.len xkc, .slice xd X.1.body.len xdc] 36)
    have hb4 := (Below.refl _ w3).alloc (Nat.le_refl _) (.cells #[.int .i64 X.1.kind, .string (bs X.1.name), .int .i64 X.1.expr.kind, .string (bs X.1.expr.name), .int .i64 X.1.expr.val.kind, .slice xa X.1.expr.val.shape.length xc, .slice xe X.1.expr.val.elems.length xec, .int .i64 X.1.expr.fn.kind, .int .i64 X.1.expr.fn.f, .int .i64 X.1.expr.fn.g, .string (bs X.1.expr.fn.name), .slice xb X.1.expr.fn.body.len xbc, .slice xk X.1.expr.kids.len xkc, .slice xd X.1.body.len xdc] 36)
    clear hcx hst
    go_upto_region 5 with fail
    generalize w3.alloc (.cells #[.int .i64 X.1.kind, .string (bs X.1.name), .int .i64 X.1.expr.kind, .string (bs X.1.expr.name), .int .i64 X.1.expr.val.kind, .slice xa X.1.expr.val.shape.length xc, .slice xe X.1.expr.val.elems.length xec, .int .i64 X.1.expr.fn.kind, .int .i64 X.1.expr.fn.f, .int .i64 X.1.expr.fn.g, .string (bs X.1.expr.fn.name), .slice xb X.1.expr.fn.body.len xbc, .slice xk X.1.expr.kids.len xkc, .slice xd X.1.body.len xdc] 36) = w4 at *
    have hB4 := b3.trans (hb4.mono b3.size)
    have jX := iX.below hb4
    clear iX hb4 b3
    obtain ⟨c0, c1, c2, c3, c4, c5, c6, c7, c8, c9, c10, c11, c12, c13⟩ := st_facts hX4
    have hW4 := hB2.trans (hB4.mono hB2.size)
    by_cases h0 : X.2 = 0
    · have t0 : (X.2 != 0) = false := by simp [h0]
      obtain ⟨q1, q2, q3, q4, q5, q6⟩ := Hlaw.out h0
      have hchj := q2.join
      have htl : ∀ t ∈ textS X.1, t.txt.length ≤ 1000000 := fun t ht => by have := (chain_good _ q2 t ht).txt_len; omega
      have hsm := chain_small q2
      have hsh := pShow_any X.1 _ w4 okX.1 okX.2 q1 jX (hV w4 hB4).2.2.1 (by omega)
      obtain ⟨T, hT⟩ : ∃ T, textS X.1 = T := ⟨_, rfl⟩
      rw [hT] at q2 q3 q4 q5 q6 hchj htl hsm hsh
      obtain ⟨Y, hY⟩ : ∃ Y, stateOf F T = Y := ⟨_, rfl⟩
      obtain ⟨Z, hZ⟩ : ∃ Z, treeOf F (shText T) = Z := ⟨_, rfl⟩
      rw [hY] at q5 q6
      rw [hZ] at q6
      have H5 := hid q5
      have H6 := hid q6
      have Hsh := hid hsh
      have HY := hid hY
      have HZ := hid hZ
      have Hj := hid hchj
      clear q5 q6 hsh hY hZ hchj hT h0 Hlaw Herr q1
      go_wp2_with fail
      refine Hsh.out.mono ?_
      rintro e w5 ⟨⟨v5, rfl, r5⟩, b5⟩
      have hB5 := hB4.trans (b5.mono hB4.size)
      have hX5 := (b5.block _ (Array.getElem?_eq_some_iff.1 hX4).1).trans hX4
      have jX5 := jX.below b5
      obtain ⟨ra, rc, rfl⟩ := r5.slice
      have k5 := r5.toks
      have Hst := hid (pStatement_any F (by omega) _ (.slice fa F.length fc) T w5 k5 (hV w5 hB5).1 hsm (by omega) (hV w5 hB5).2.2.1)
      rw [HY.out] at Hst
      clear c0 c1 c2 c3 c4 c5 c6 c7 c8 c9 c10 c11 c12 c13 Hsh hX4 jX r5 b5
      go_wp2_with fail
      refine Hst.out.mono ?_
      intro e w6 hst
      obtain ⟨ya, yc, ye, yec, yb, ybc, yk, ykc, yd, ydc, rfl, iY, b6⟩ := hst.row
      have hY7 := heap_alloc_new w6 (.cells #[.int .i64 Y.1.kind, .string (bs Y.1.name), .int .i64 Y.1.expr.kind, .string (bs Y.1.expr.name), .int .i64 Y.1.expr.val.kind, .slice ya Y.1.expr.val.shape.length yc, .slice ye Y.1.expr.val.elems.length yec, .int .i64 Y.1.expr.fn.kind, .int .i64 Y.1.expr.fn.f, .int .i64 Y.1.expr.fn.g, .string (bs Y.1.expr.fn.name), .slice yb Y.1.expr.fn.body.len ybc, .slice yk Y.1.expr.kids.len ykc, .slice yd Y.1.body.len ydc] 36)
      have hb7 := (Below.refl _ w6).alloc (Nat.le_refl _) (.cells #[.int .i64 Y.1.kind, .string (bs Y.1.name), .int .i64 Y.1.expr.kind, .string (bs Y.1.expr.name), .int .i64 Y.1.expr.val.kind, .slice ya Y.1.expr.val.shape.length yc, .slice ye Y.1.expr.val.elems.length yec, .int .i64 Y.1.expr.fn.kind, .int .i64 Y.1.expr.fn.f, .int .i64 Y.1.expr.fn.g, .string (bs Y.1.expr.fn.name), .slice yb Y.1.expr.fn.body.len ybc, .slice yk Y.1.expr.kids.len ykc, .slice yd Y.1.body.len ydc] 36)
      clear Hst hst
      go_upto_region 9 with fail
      generalize w6.alloc (.cells #[.int .i64 Y.1.kind, .string (bs Y.1.name), .int .i64 Y.1.expr.kind, .string (bs Y.1.expr.name), .int .i64 Y.1.expr.val.kind, .slice ya Y.1.expr.val.shape.length yc, .slice ye Y.1.expr.val.elems.length yec, .int .i64 Y.1.expr.fn.kind, .int .i64 Y.1.expr.fn.f, .int .i64 Y.1.expr.fn.g, .string (bs Y.1.expr.fn.name), .slice yb Y.1.expr.fn.body.len ybc, .slice yk Y.1.expr.kids.len ykc, .slice yd Y.1.body.len ydc] 36) = w7 at *
      have hb57 := b6.trans (hb7.mono b6.size)
      have hB7 := hB5.trans (hb57.mono hB5.size)
      have hX7 := (hb57.block _ (Array.getElem?_eq_some_iff.1 hX5).1).trans hX5
      have jX7 := jX5.below hb57
      have jY7 := iY.below hb7
      have k7 := k5.below hb57
      have Hls := hid (show_any _ T w7 (hV w7 hB7).2.1 (hV w7 hB7).2.2.2 k7 (by omega) htl)
      rw [Hj.out] at Hls
      clear hX5 jX5 iY hb7 b6 hb57 hB5 k5
      go_wp2_with fail
      refine Hls.out.mono ?_
      rintro e w8 ⟨rfl, b8⟩
      have hB8 := hB7.trans (b8.mono hB7.size)
      have hX8 := (b8.block _ (Array.getElem?_eq_some_iff.1 hX7).1).trans hX7
      have hY8 := (b8.block _ (Array.getElem?_eq_some_iff.1 hY7).1).trans hY7
      have jX8 := jX7.below b8
      have jY8 := jY7.below b8
      have Htr := hid (tree_t F (by omega) (shText T) (.slice fa F.length fc) w8 q4 (hV w8 hB8).1 (hV w8 hB8).2.1 (hV w8 hB8).2.2.1 (bs (shText T)) rfl Z HZ.out)
      generalize bs (shText T) = ST at *
      clear Hls hX7 hY7 jX7 jY7 k7 b8 hB7 HZ HY Hj q4
      go_wp2_with fail
      refine Htr.out.mono ?_
      intro e w10 hst
      obtain ⟨za, zc, ze, zec, zb, zbc, zk, zkc, zd, zdc, rfl, iZ, b10⟩ := hst.row
      have hZ11 := heap_alloc_new w10 (.cells #[.int .i64 Z.1.kind, .string (bs Z.1.name), .int .i64 Z.1.expr.kind, .string (bs Z.1.expr.name), .int .i64 Z.1.expr.val.kind, .slice za Z.1.expr.val.shape.length zc, .slice ze Z.1.expr.val.elems.length zec, .int .i64 Z.1.expr.fn.kind, .int .i64 Z.1.expr.fn.f, .int .i64 Z.1.expr.fn.g, .string (bs Z.1.expr.fn.name), .slice zb Z.1.expr.fn.body.len zbc, .slice zk Z.1.expr.kids.len zkc, .slice zd Z.1.body.len zdc] 36)
      have hb11 := (Below.refl _ w10).alloc (Nat.le_refl _) (.cells #[.int .i64 Z.1.kind, .string (bs Z.1.name), .int .i64 Z.1.expr.kind, .string (bs Z.1.expr.name), .int .i64 Z.1.expr.val.kind, .slice za Z.1.expr.val.shape.length zc, .slice ze Z.1.expr.val.elems.length zec, .int .i64 Z.1.expr.fn.kind, .int .i64 Z.1.expr.fn.f, .int .i64 Z.1.expr.fn.g, .string (bs Z.1.expr.fn.name), .slice zb Z.1.expr.fn.body.len zbc, .slice zk Z.1.expr.kids.len zkc, .slice zd Z.1.body.len zdc] 36)
      clear Htr hst
      go_upto_region 10 with fail
      generalize w10.alloc (.cells #[.int .i64 Z.1.kind, .string (bs Z.1.name), .int .i64 Z.1.expr.kind, .string (bs Z.1.expr.name), .int .i64 Z.1.expr.val.kind, .slice za Z.1.expr.val.shape.length zc, .slice ze Z.1.expr.val.elems.length zec, .int .i64 Z.1.expr.fn.kind, .int .i64 Z.1.expr.fn.f, .int .i64 Z.1.expr.fn.g, .string (bs Z.1.expr.fn.name), .slice zb Z.1.expr.fn.body.len zbc, .slice zk Z.1.expr.kids.len zkc, .slice zd Z.1.body.len zdc] 36) = w11 at *
      have hb811 := b10.trans (hb11.mono b10.size)
      have hB11 := hB8.trans (hb811.mono hB8.size)
      have hX11 := (hb811.block _ (Array.getElem?_eq_some_iff.1 hX8).1).trans hX8
      have hY11 := (hb811.block _ (Array.getElem?_eq_some_iff.1 hY8).1).trans hY8
      have jX11 := jX8.below hb811
      have jY11 := jY8.below hb811
      have jZ11 := iZ.below hb11
      have hW11 := hB2.trans (hB11.mono hB2.size)
      clear hX8 hY8 jX8 jY8 iZ hb11 b10 hb811 hB8 hB11 hV hB4 hW4 hsm htl
      by_cases y9 : Y.2 = 9
      · have t9 : (Y.2 == 9) = true := by simp [y9]
        clear y9
        go_wp2_with fail
        go_ret
        exact ⟨rfl, hW11⟩
      · have t9 : (Y.2 == 9) = false := by simpa using y9
        by_cases hl4 : 4000 < T.length
        · have hl4' : (4000 : Int) < (T.length : Int) := by omega
          clear y9
          go_wp2_with fail
          go_ret
          exact ⟨rfl, hW11⟩
        · have hl4' : ¬ (4000 : Int) < (T.length : Int) := by omega
          have hZY := H6.out (by omega)
          have hYX : Y = (X.1, 0) := H5.out.resolve_left y9
          obtain ⟨X1, X2⟩ := X
          simp only at hYX
          subst hYX
          subst hZY
          have sm1 := pSame_any X1 X1 (.agg #[.int .i64 X1.kind, .string (bs X1.name), .int .i64 X1.expr.kind, .string (bs X1.expr.name), .int .i64 X1.expr.val.kind, .slice xa X1.expr.val.shape.length xc, .slice xe X1.expr.val.elems.length xec, .int .i64 X1.expr.fn.kind, .int .i64 X1.expr.fn.f, .int .i64 X1.expr.fn.g, .string (bs X1.expr.fn.name), .slice xb X1.expr.fn.body.len xbc, .slice xk X1.expr.kids.len xkc, .slice xd X1.body.len xdc]) (.agg #[.int .i64 X1.kind, .string (bs X1.name), .int .i64 X1.expr.kind, .string (bs X1.expr.name), .int .i64 X1.expr.val.kind, .slice ya X1.expr.val.shape.length yc, .slice ye X1.expr.val.elems.length yec, .int .i64 X1.expr.fn.kind, .int .i64 X1.expr.fn.f, .int .i64 X1.expr.fn.g, .string (bs X1.expr.fn.name), .slice yb X1.expr.fn.body.len ybc, .slice yk X1.expr.kids.len ykc, .slice yd X1.body.len ydc]) w11 okX.1 okX.2 okX.1 okX.2 jX11 jY11
          rw [decide_eq_true (rfl : X1 = X1)] at sm1
          have sm2 := fun V (hV : Below w11.heap.size w11 V) => pSame_any X1 X1 (.agg #[.int .i64 X1.kind, .string (bs X1.name), .int .i64 X1.expr.kind, .string (bs X1.expr.name), .int .i64 X1.expr.val.kind, .slice xa X1.expr.val.shape.length xc, .slice xe X1.expr.val.elems.length xec, .int .i64 X1.expr.fn.kind, .int .i64 X1.expr.fn.f, .int .i64 X1.expr.fn.g, .string (bs X1.expr.fn.name), .slice xb X1.expr.fn.body.len xbc, .slice xk X1.expr.kids.len xkc, .slice xd X1.body.len xdc]) (.agg #[.int .i64 X1.kind, .string (bs X1.name), .int .i64 X1.expr.kind, .string (bs X1.expr.name), .int .i64 X1.expr.val.kind, .slice za X1.expr.val.shape.length zc, .slice ze X1.expr.val.elems.length zec, .int .i64 X1.expr.fn.kind, .int .i64 X1.expr.fn.f, .int .i64 X1.expr.fn.g, .string (bs X1.expr.fn.name), .slice zb X1.expr.fn.body.len zbc, .slice zk X1.expr.kids.len zkc, .slice zd X1.body.len zdc]) V okX.1 okX.2 okX.1 okX.2 (jX11.below hV) (jZ11.below hV)
          rw [decide_eq_true (rfl : X1 = X1)] at sm2
          obtain ⟨c0, c1, c2, c3, c4, c5, c6, c7, c8, c9, c10, c11, c12, c13⟩ := st_facts hX11
          obtain ⟨d0, d1, d2, d3, d4, d5, d6, d7, d8, d9, d10, d11, d12, d13⟩ := st_facts hY11
          clear y9 H5 H6 jX11 jY11 hl4 okX
          go_wp2_with fail
          refine sm1.mono ?_
          rintro e w12 ⟨rfl, b12⟩
          have hX12 := (b12.block _ (Array.getElem?_eq_some_iff.1 hX11).1).trans hX11
          have hZ12 := (b12.block _ (Array.getElem?_eq_some_iff.1 hZ11).1).trans hZ11
          have sm3 := sm2 w12 b12
          clear c0 c1 c2 c3 c4 c5 c6 c7 c8 c9 c10 c11 c12 c13 d0 d1 d2 d3 d4 d5 d6 d7 d8 d9 d10 d11 d12 d13 sm1 sm2 hX11 hY11 hZ11
          obtain ⟨c0, c1, c2, c3, c4, c5, c6, c7, c8, c9, c10, c11, c12, c13⟩ := st_facts hX12
          obtain ⟨d0, d1, d2, d3, d4, d5, d6, d7, d8, d9, d10, d11, d12, d13⟩ := st_facts hZ12
          go_wp2_with fail
          refine sm3.mono ?_
          rintro e w13 ⟨rfl, b13⟩
          go_wp2_with fail
          go_ret
          exact ⟨rfl, hW11.trans ((b12.trans (b13.mono b12.size)).mono hW11.size)⟩
    · have t0 : (X.2 != 0) = true := by simpa using h0
      have hN := Herr.out h0
      obtain ⟨X1, X2⟩ := X
      simp only at hN
      subst hN
      have sm1 := pSame_any noStm noStm (.agg #[.int .i64 noStm.kind, .string (bs noStm.name), .int .i64 noStm.expr.kind, .string (bs noStm.expr.name), .int .i64 noStm.expr.val.kind, .slice xa noStm.expr.val.shape.length xc, .slice xe noStm.expr.val.elems.length xec, .int .i64 noStm.expr.fn.kind, .int .i64 noStm.expr.fn.f, .int .i64 noStm.expr.fn.g, .string (bs noStm.expr.fn.name), .slice xb noStm.expr.fn.body.len xbc, .slice xk noStm.expr.kids.len xkc, .slice xd noStm.body.len xdc]) (.agg #[.int .i64 0, .string ⟨#[]⟩, .int .i64 0, .string ⟨#[]⟩, .int .i64 0, .slice none 0 0, .slice none 0 0, .int .i64 0, .int .i64 0, .int .i64 0, .string ⟨#[]⟩, .slice none 0 0, .slice none 0 0, .slice none 0 0]) w4 okX.1 okX.2 okX.1 okX.2 jX (noStm_fresh (fun _ => True) w4).self
      rw [decide_eq_true (rfl : noStm = noStm)] at sm1
      have Hsm := hid sm1
      clear h0 Hlaw Herr sm1 okX
      go_wp2_with fail
      refine Hsm.out.mono ?_
      rintro e w5 ⟨rfl, b5⟩
      go_wp2_with fail
      go_ret
      exact ⟨rfl, hW4.trans (b5.mono hW4.size)⟩
end Go.Proofs.YtijfnnjgcgmnaaaGreatDoor.Par
