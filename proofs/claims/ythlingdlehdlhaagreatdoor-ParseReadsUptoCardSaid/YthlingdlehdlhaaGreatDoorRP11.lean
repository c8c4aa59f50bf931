/- The reference's reader: expressions. -/
import Derived.Test.YthlingdlehdlhaaGreatDoorROps
import Derived.Test.YthlingdlehdlhaaGreatDoorPExpr
import Derived.Deep.Cut
import Derived.StillTailTactics
namespace Go.Proofs.YthlingdlehdlhaaGreatDoor.Par
open Go.RowKit Go.Shelf
set_option linter.unusedVariables false
set_option linter.unusedSimpArgs false

theorem sg_sub2 {T : List Tok} {a p b : Nat} (h1 : a ≤ p) (h2 : p ≤ b) : sg T a p ⊆ sg T a b := by
  rw [← sg_app (T := T) h1 h2]; exact List.subset_append_left _ _
theorem PlA.rest {α : Type} {T : List Tok} {a b p : Nat} {law : Option (α × List Tok)} {x : α} {ok : Bool} (h : PlA T a b law x p ok) (hb : b ≤ T.length) :
    Res false (!ok) law (x, if ok = true then sg T a p else []) ∧ Rest (sg T a b) (if ok = true then sg T a p else []) ∧ (ok = true → a ≤ p ∧ p < b ∧ Dyck (sg T a p)) := by
  rcases h with ⟨rfl, h⟩ | ⟨rfl, h, h1, h2, h3⟩
  · exact ⟨Res.none h _ _, Rest.nil _, fun h => by cases h⟩
  · exact ⟨Res.some h false, ⟨h3, by rw [if_pos rfl, sg_len hb, sg_len (by omega)]; omega, sg_sub2 h1 (by omega)⟩, fun _ => ⟨h1, h2, h3⟩⟩
theorem LawSt.fin {F : List (List UInt8)} {n : Nat} {ins bad fine : Bool} {law : Option Ex} {x : Ex} {r : List Tok} (h : LawSt F n ins bad law (!fine) x r) : LawSt F n ins bad law (!fine) x (if fine = true then r else []) := by
  cases fine with
  | true => exact h
  | false =>
    rcases h with h | ⟨h, -⟩
    · exact .inl h
    · cases h
theorem rexpr_mk {w W wf : World} {R : Nat} {law : Option Ex} {xv : Value} {x : Ex} {ok : Bool} (hb : Below w.heap.size w W) (ho : Oth R W wf) (hR : w.heap.size ≤ R) (hf : Fresh (fun k => R < k) W (IsE · xv x)) (h : LaA law x ok) :
    RExprA w wf law (.returned (.tuple #[xv, .bool ok])) :=
  ⟨xv, x, ok, rfl, ho.below hb hR, (hf.softF (ho.soft (fun h => Nat.lt_irrefl _ h))).weak (fun k hk => Nat.le_trans hR (Nat.le_of_lt hk)), h⟩
/-- A function and kids are put into the block of x. -/
theorem rexpr_next {R X : Nat} {wA : World} {k : Int} {f : Fn} {fb : Value} {ks : Tr} {us : List (List Value)} {xs ve' vb' vc' : Value} {xk : Ex}
    (hRX : R < X) (hX : XB (XS R X) wA X xk xs ve' vb' vc') (jf : Fresh (XS R X) wA (IsTs · fb f.body)) (hc : Cells (XS R X) wA ks us) (hks : ks.len ≤ 1000)
    (cur : Array Value) (hcur : cur = us.flatten.toArray) (wf : World) (ho : Oth X (wA.alloc (.cells cur 36)) wf)
    (hp : wf.heap[X]? = some (.cells #[.int .i64 k, .string ⟨#[]⟩, .int .i64 0, .slice none 0 0, .slice none 0 0, .int .i64 f.kind, .int .i64 f.f, .int .i64 f.g, .string (bs f.name), fb, .slice (some ⟨wA.heap.size, 0, none⟩) ks.len ks.len] 36)) :
    Below X wA wf ∧ XB (XS R X) wf X ⟨k, [], noArr, f, ks⟩ (.slice none 0 0) (.slice none 0 0) fb (.slice (some ⟨wA.heap.size, 0, none⟩) ks.len ks.len) := by
  have hXl := hX.lt
  have hb := (Below.refl X wA).alloc (by omega) (.cells cur 36)
  have hs := Soft.alloc wA (.cells cur 36)
  have hS : ¬ XS R X X := fun h => h.2 rfl
  have hrow := (hc.soft hs).row (b := wA.heap.size) (n := ks.len) (c := ks.len) ⟨by omega, by omega⟩ (heap_alloc_new wA (.cells cur 36)) rfl (Nat.le_refl _) (by omega) (by intro i u hu; subst hcur; simpa using hu)
  exact ⟨⟨ho.os.trans hb.os, ho.tape.trans hb.tape, ho.output.trans hb.output, by rw [ho.size]; exact hb.size, fun j hj => (ho.block j (by omega)).trans (hb.block j hj)⟩, XB.make hp ((jf.soft hs).softF (ho.soft hS)) (hrow.softF (ho.soft hS))⟩
/-- Ahead of each round. -/
def RExprR (T : List Tok) (F : List (List UInt8)) (n : Nat) (ins : Bool) (law : Option Ex) (w2 : World) (R a b : Nat) (vp vf : Value) (wr : World) : Prop :=
  ∃ (p : Nat) (fine : Bool) (xk : Ex) (vs ve vb vc : Value), vp = .int .i64 (p : Int) ∧ vf = .bool fine ∧ Below w2.heap.size w2 wr ∧ XB (XS R w2.heap.size) wr w2.heap.size xk vs ve vb vc ∧ (fine = true → a ≤ p ∧ p < b ∧ Dyck (sg T a p)) ∧ Hid (LawSt F n ins false law (!fine) xk (if fine = true then sg T a p else []))
set_option maxRecDepth 100000 in
set_option maxHeartbeats 8000000 in
theorem rexpr_step (T : List Tok) (A : List Nat) (F : List (List UInt8)) (hC : RCx T A F) (n : Nat) (hO : ∀ m, m ≤ n → ROperC T A F m) (hF : ∀ m, m ≤ n → RFunC T A F m) : RExprC T A F (n + 1) := by
  intro w vx a b ins hx hab hbT hd hfu
  obtain ⟨ta, tc, aa, ac, fa, fc, rfl, -⟩ := id hx
  obtain ⟨law, hlaw⟩ : ∃ law, exprF F (n + 1) ins (sg T a b) = law := ⟨_, rfl⟩
  rw [hlaw]
  have Hlaw := hid hlaw
  clear hlaw
  have hle := hC.le
  obtain ⟨w1, hw1⟩ : ∃ W, (w.alloc (.cells #[.slice ta T.length tc, .slice aa A.length ac, .slice fa F.length fc] 80)).alloc (.cells #[.int .i64 0, .string ⟨#[]⟩, .int .i64 0, .slice none 0 0, .slice none 0 0, .int .i64 0, .int .i64 0, .int .i64 0, .string ⟨#[]⟩, .slice none 0 0, .slice none 0 0] 36) = W := ⟨_, rfl⟩
  have hB1 : Below w.heap.size w w1 := by rw [← hw1]; exact ((Below.refl _ w).alloc (Nat.le_refl _) _).alloc (by simp) _
  have hX1 : w1.heap[w.heap.size]? = some (.cells #[.slice ta T.length tc, .slice aa A.length ac, .slice fa F.length fc] 80) := by rw [← hw1]; exact (heap_alloc_old _ _ (by simp)).trans (heap_alloc_new w _)
  have hR1 : w1.heap[w.heap.size + 1]? = some (.cells #[.int .i64 0, .string ⟨#[]⟩, .int .i64 0, .slice none 0 0, .slice none 0 0, .int .i64 0, .int .i64 0, .int .i64 0, .string ⟨#[]⟩, .slice none 0 0, .slice none 0 0] 36) := by
    have := heap_alloc_new (w.alloc (.cells #[.slice ta T.length tc, .slice aa A.length ac, .slice fa F.length fc] 80)) (.cells #[.int .i64 0, .string ⟨#[]⟩, .int .i64 0, .slice none 0 0, .slice none 0 0, .int .i64 0, .int .i64 0, .int .i64 0, .string ⟨#[]⟩, .slice none 0 0, .slice none 0 0] 36)
    rw [hw1] at this
    simpa using this
  have hsz1 : w.heap.size + 1 < w1.heap.size := (Array.getElem?_eq_some_iff.1 hR1).1
  go_enter Tryz.func37, Tryz.ntmps37
  go_upto_region 1 with fail
  try rw [hw1]
  clear hw1
  have hcall := hO n (Nat.le_refl _) w1 _ a b ins (hx.below hB1) hbT hd (by omega)
  obtain ⟨X0, X1, X2⟩ := (ln_facts hX1).1
  go_wp2_with fail
  refine hcall.mono ?_
  rintro e w2 ⟨xv, x, p0, ok0, rfl, b2, fx, pl⟩
  obtain ⟨vs, ve, vb, vc, rfl, j1, j2, j3, j4, j5⟩ := fx.ex
  have hform := And.intro j1.self.parts (And.intro j2.self.parts (And.intro j4.self.parts j5.self.parts))
  obtain ⟨⟨xa, xc, rfl, -⟩, ⟨xe, xec, rfl, -⟩, ⟨xb, xbc, rfl, -⟩, ⟨xk, xkc, rfl, -⟩⟩ := hform
  obtain ⟨res0, rest0, hr0⟩ := pl.rest hbT
  have hLaw := (LawSt.start res0 rest0 (by rw [sg_len hbT]; omega) op_ne)
  rw [Hlaw.out] at hLaw
  replace hLaw := hid hLaw
  have hB2 := hB1.trans (b2.mono hB1.size)
  have hR2 := (b2.block _ hsz1).trans hR1
  have hX2 := (b2.block _ (by omega)).trans hX1
  have hsz2 := Nat.lt_of_lt_of_le hsz1 b2.size
  clear hcall Hlaw res0 rest0 pl X0 X1 X2 hX1 hR1
  go_wp2_with fail
  go_loopw [11, 12] (fun vp vf wr => RExprR T F n ins law w2 (w.heap.size + 1) a b vp vf wr) (fun vp vf _ => match vf with | .bool true => (intOf vp).toNat + 1 | _ => 0)
  case atStart =>
    have hs := Soft.alloc w2 (.cells #[.int .i64 x.kind, .string (bs x.name), .int .i64 x.val.kind, .slice xa x.val.shape.length xc, .slice xe x.val.elems.length xec, .int .i64 x.fn.kind, .int .i64 x.fn.f, .int .i64 x.fn.g, .string (bs x.fn.name), .slice xb x.fn.body.len xbc, .slice xk x.kids.len xkc] 36)
    have hb := (Below.refl _ w2).alloc (Nat.le_refl _) (.cells #[.int .i64 x.kind, .string (bs x.name), .int .i64 x.val.kind, .slice xa x.val.shape.length xc, .slice xe x.val.elems.length xec, .int .i64 x.fn.kind, .int .i64 x.fn.f, .int .i64 x.fn.g, .string (bs x.fn.name), .slice xb x.fn.body.len xbc, .slice xk x.kids.len xkc] 36)
    have hy : ∀ k, Up w1.heap.size k → k < w2.heap.size → XS (w.heap.size + 1) w2.heap.size k := fun k h1 h2 => by
      unfold Up at h1
      exact ⟨by omega, by omega⟩
    exact ⟨p0, ok0, x, _, _, _, _, rfl, rfl, hb, ⟨heap_alloc_new w2 _, j1.young hs hy, j2.young hs hy, j3, j4.young hs hy, j5.young hs hy⟩, hr0, hLaw⟩
  case round =>
    obtain ⟨p, fine, xk, vs, ve, vb, vc, rfl, rfl, hB, hX, hfin, hL⟩ := hrel
    obtain ⟨⟨xka, xkc, rfl⟩, ⟨xke, xkec, rfl⟩, ⟨xkb, xkbc, rfl⟩, ⟨xkk, xkkc, rfl⟩⟩ := hX.forms
    have hXl := hX.lt
    have hbox := (hB.block _ (by omega)).trans hX2
    have hrow := (hB.block _ hsz2).trans hR2
    have hBr := hB2.trans (hB.mono hB2.size)
    have hxr := hx.below hBr
    obtain ⟨X0, X1, X2⟩ := (ln_facts hbox).1
    cases fine with
    | false =>
      have hn : law = none := by
        rcases (hL.out.res (.inr rfl)).bad with h | h
        · cases h
        · exact h
      replace hn := hid hn
      clear hL
      go_wp2_with (refine wpList_store_row rfl 36 _ _ rfl (w.heap.size + 1) _ rfl rfl 36 _ hrow (by kernel_rfl) (by kernel_rfl) (by kernel_rfl) ?_; go_simp)
      refine bodyPost_ret (results_row_tmp rfl _ _ (w.heap.size + 1) _ _ _ _ rfl (setRow_heap wr (w.heap.size + 1) _ #[.int .i64 0, .string ⟨#[]⟩, .int .i64 0, .slice none 0 0, .slice none 0 0, .int .i64 0, .int .i64 0, .int .i64 0, .string ⟨#[]⟩, .slice none 0 0, .slice none 0 0] _ _ hrow) Tryz.underlying36 rfl (by kernel_rfl)) rfl ?_
      exact rexpr_mk hBr ((Oth.refl _ _).row _) (by omega) (zeroE_fresh _ _) (.inl ⟨rfl, hn.out⟩)
    | true =>
      obtain ⟨hp1, hp2, hp3⟩ := hfin rfl
      clear hfin
      by_cases hpa : a < p
      · have hpi : (a : Int) < (p : Int) := by omega
        have hlen : (sg T a p).length = p - a := sg_len (by omega)
        have hne : sg T a p ≠ [] := fun e => by rw [e] at hlen; simp at hlen; omega
        obtain ⟨k, hk1, hk2, hLS⟩ : ∃ k, 8 * (p - a) + 1 ≤ k ∧ k ≤ n ∧ Hid (8 * (sg T a p).length + 2 ≤ k + 1 ∧ k + 1 ≤ n ∧ law = loopF F (k + 1) ins xk (sg T a p)) := by
          rcases hL.out with ⟨h, -⟩ | ⟨-, -, k, h1, h2, h3⟩
          · cases h
          · rw [if_pos rfl] at h1 h3
            obtain ⟨k, rfl⟩ : ∃ j, k = j + 1 := ⟨k - 1, by omega⟩
            exact ⟨k, by omega, by omega, hid ⟨h1, h2, h3⟩⟩
        have Hlen := hid hlen
        have hcallF := hF k hk2 wr _ a p ins hxr hpa (by omega) hp3 hk1
        clear hL hlen
        go_wp2_with fail
        refine hcallF.mono ?_
        rintro e v1 ⟨fv, f, q, ok1, rfl, c1, ff, pl1⟩
        obtain ⟨fvb, rfl, jf⟩ := ff.fn
        obtain ⟨fba, fbc, rfl, -⟩ := jf.self.parts
        obtain ⟨resF, restF, hq⟩ := pl1.rest (by omega)
        replace resF := hid resF
        replace restF := hid restF
        have hF2 := heap_alloc_new v1 (.cells #[.int .i64 f.kind, .int .i64 f.f, .int .i64 f.g, .string (bs f.name), .slice fba f.body.len fbc] 33)
        have c2 := (Below.refl _ v1).alloc (Nat.le_refl _) (.cells #[.int .i64 f.kind, .int .i64 f.f, .int .i64 f.g, .string (bs f.name), .slice fba f.body.len fbc] 33)
        have hFlt : w2.heap.size < v1.heap.size := Nat.lt_of_lt_of_le hXl c1.size
        have hs2 := Soft.alloc v1 (.cells #[.int .i64 f.kind, .int .i64 f.f, .int .i64 f.g, .string (bs f.name), .slice fba f.body.len fbc] 33)
        have jw := jf.young (base' := XS (w.heap.size + 1) w2.heap.size) hs2 (fun k h1 h2 => ⟨by unfold Up at h1; omega, by unfold Up at h1; omega⟩)
        clear hcallF X0 X1 X2 pl1 ff
        go_upto_region 4 with fail
        generalize v1.alloc (.cells #[.int .i64 f.kind, .int .i64 f.f, .int .i64 f.g, .string (bs f.name), .slice fba f.body.len fbc] 33) = v2 at *
        have g2 := c1.trans (c2.mono c1.size)
        generalize v1.heap.size = FB at *
        have hFl2 : FB < v2.heap.size := (Array.getElem?_eq_some_iff.1 hF2).1
        have hbox2 := (g2.block _ (by omega)).trans hbox
        cases ok1 with
        | false =>
          have hn : law = none := by
            have h1 := LawSt.one (bad := false) ⟨rfl, hLS.out⟩ hne resF.out restF.out (by rfl)
            rcases (h1.res (.inr (by simp))).bad with h | h
            · cases h
            · exact h
          replace hn := hid hn
          have hrow2 := (g2.block _ (by omega)).trans hrow
          have hB2' := hBr.trans (g2.mono hBr.size)
          clear hLS resF restF
          go_wp2_with (refine wpList_store_row rfl 36 _ _ rfl (w.heap.size + 1) _ rfl rfl 36 _ hrow2 (by kernel_rfl) (by kernel_rfl) (by kernel_rfl) ?_; go_simp)
          refine bodyPost_ret (results_row_tmp rfl _ _ (w.heap.size + 1) _ _ _ _ rfl (setRow_heap v2 (w.heap.size + 1) _ #[.int .i64 0, .string ⟨#[]⟩, .int .i64 0, .slice none 0 0, .slice none 0 0, .int .i64 0, .int .i64 0, .int .i64 0, .string ⟨#[]⟩, .slice none 0 0, .slice none 0 0] _ _ hrow2) Tryz.underlying36 rfl (by kernel_rfl)) rfl ?_
          exact rexpr_mk hB2' ((Oth.refl _ _).row _) (by omega) (zeroE_fresh _ _) (.inl ⟨rfl, hn.out⟩)
        | true =>
          obtain ⟨hq1, hq2, hq3⟩ := hq rfl
          replace resF := hid (show Res false (!true) (functionF F k ins (sg T a p)) (f, sg T a q) from resF.out)
          replace restF := hid (show Rest (sg T a p) (sg T a q) from restF.out)
          have hof := rofn_any f fba f.body.len fbc v2
          obtain ⟨T1, hT1⟩ : ∃ x, (takesF f).1 = x := ⟨_, rfl⟩
          obtain ⟨T2, hT2⟩ : ∃ x, (takesF f).2 = x := ⟨_, rfl⟩
          rw [hT1, hT2] at hof
          have HT1 := hid hT1
          have HT2 := hid hT2
          clear hT1 hT2 hq
          go_wp2_with (refine wpList_load_rowE rfl 33 _ rfl FB rfl 33 _ _ _ hF2 Tryz.underlying33 rfl (by kernel_rfl) ?_; go_simp)
          refine hof.mono ?_
          rintro e v3 ⟨rfl, c3⟩
          have g3 := g2.trans (c3.mono g2.size)
          have hF3 := (c3.block _ hFl2).trans hF2
          have j3' := jw.soft (Soft.of_below c3)
          have hbox3 := (g3.block _ (by omega)).trans hbox
          obtain ⟨X0, X1, X2⟩ := (ln_facts hbox3).1
          clear hof jw hF2
          by_cases haq : a < q
          · obtain ⟨t, ht⟩ : ∃ t, T[q - 1]? = some t := ⟨_, List.getElem?_eq_getElem (by omega)⟩
            have haqi : (a : Int) < (q : Int) := by omega
            have hop := roperand_any T A F (q - 1) t ht _ v3 (hxr.below g3)
            have hends : endsF F (sg T a q) = endsT F t := by unfold endsF; rw [last_sg haq (by omega) ht]
            obtain ⟨E, hE⟩ : ∃ x, endsT F t = x := ⟨_, rfl⟩
            rw [hE] at hop hends
            have he := hid hends
            have hwq : IntKind.i64.wrap ((q : Int) - 1) = ((q - 1 : Nat) : Int) := by rw [show (q : Int) - 1 = ((q - 1 : Nat) : Int) by omega]; exact IntWalk.i64_in _ (by omega)
            clear hends hE ht
            go_wp2_with fail
            refine hop.mono ?_
            rintro e v4 ⟨rfl, c4⟩
            have g4 := g3.trans (c4.mono g3.size)
            have hFw := (c4.block _ (Array.getElem?_eq_some_iff.1 hF3).1).trans hF3
            have jw := j3'.soft (Soft.of_below c4)
            have hbox4 := (g4.block _ (by omega)).trans hbox
            have hXw := hX.soft (Soft.of_below g4) (g4.block _ hXl)
            have hBw := hB.trans (g4.mono hB.size)
            clear hop X0 X1 X2 hF3 j3'
            cases E with
            | false =>
              have hl1 := hid (LawSt.one (bad := false) ⟨rfl, hLS.out⟩ hne resF.out restF.out he.out).fin
              clear hLS he resF restF
              rw [HT1.out] at hl1
              have hX8 := fun (o : Obj) => (heap_alloc_old v4 o hXw.lt).trans hXw.hp
              go_wp2_with (first | (refine wpList_load_rowE rfl 36 _ rfl w2.heap.size rfl 36 _ _ _ hXw.hp Tryz.underlying36 rfl (by kernel_rfl) ?_; go_simp) | (refine wpList_load_rowE rfl 33 _ rfl FB rfl 33 _ _ _ hFw Tryz.underlying33 rfl (by kernel_rfl) ?_; go_simp) | (refine wpList_store_row rfl 36 _ _ rfl w2.heap.size _ rfl rfl 36 _ (hX8 _) (by kernel_rfl) (by kernel_rfl) (by kernel_rfl) ?_; go_simp))
              go_roundw
              case rel =>
                obtain ⟨n1, n2⟩ := rexpr_next (by omega) hXw jw (hXw.cells .nil) (by simp [Ex.cons, Tr.len]) _ rfl _ ((Oth.refl _ _).row _) (setRow_heap _ _ _ _ _ _ (hX8 _))
                exact ⟨q, T1, _, _, _, _, _, rfl, rfl, hBw.trans n1, n2, fun _ => ⟨hq1, by omega, hq3⟩, hl1⟩
              case measure => cases T1 <;> simp [intOf] <;> omega
            | true =>
              obtain ⟨X0, X1, X2⟩ := (ln_facts hbox4).1
              have hcallO := hO k hk2 v4 _ a q ins (hxr.below g4) (by omega) hq3 (by omega)
              clear hwq
              go_wp2_with fail
              refine hcallO.mono ?_
              rintro e v5 ⟨yv, y, nx, ok3, rfl, c5, fy, pl2⟩
              obtain ⟨yvs, yve, yvb, yvc, rfl, j1, j2, j3, j4, j5⟩ := fy.ex
              have hform := And.intro j1.self.parts (And.intro j2.self.parts (And.intro j4.self.parts j5.self.parts))
              obtain ⟨⟨ya, yc, rfl, -⟩, ⟨ye, yec, rfl, -⟩, ⟨yb, ybc, rfl, -⟩, ⟨yk, ykc, rfl, -⟩⟩ := hform
              obtain ⟨resO, restO, hnx⟩ := pl2.rest (by omega)
              have hl2 := hid (LawSt.two (bad := false) ⟨rfl, hLS.out⟩ hne resF.out restF.out he.out resO restO)
              rw [HT2.out] at hl2
              have hY6 := heap_alloc_new v5 (.cells #[.int .i64 y.kind, .string (bs y.name), .int .i64 y.val.kind, .slice ya y.val.shape.length yc, .slice ye y.val.elems.length yec, .int .i64 y.fn.kind, .int .i64 y.fn.f, .int .i64 y.fn.g, .string (bs y.fn.name), .slice yb y.fn.body.len ybc, .slice yk y.kids.len ykc] 36)
              have c6 := (Below.refl _ v5).alloc (Nat.le_refl _) (.cells #[.int .i64 y.kind, .string (bs y.name), .int .i64 y.val.kind, .slice ya y.val.shape.length yc, .slice ye y.val.elems.length yec, .int .i64 y.fn.kind, .int .i64 y.fn.f, .int .i64 y.fn.g, .string (bs y.fn.name), .slice yb y.fn.body.len ybc, .slice yk y.kids.len ykc] 36)
              have hs6 := Soft.alloc v5 (.cells #[.int .i64 y.kind, .string (bs y.name), .int .i64 y.val.kind, .slice ya y.val.shape.length yc, .slice ye y.val.elems.length yec, .int .i64 y.fn.kind, .int .i64 y.fn.f, .int .i64 y.fn.g, .string (bs y.fn.name), .slice yb y.fn.body.len ybc, .slice yk y.kids.len ykc] 36)
              have hg5 := g4.trans (c5.mono g4.size)
              have hs45 := (Soft.of_below c5).trans hs6
              have hyo : ∀ k, Up v4.heap.size k → k < v5.heap.size → XS (w.heap.size + 1) w2.heap.size k := fun k h1 h2 => by
                unfold Up at h1
                have := g4.size
                exact ⟨by omega, by omega⟩
              have z1 := j1.young hs6 hyo
              have z2 := j2.young hs6 hyo
              have z4 := j4.young hs6 hyo
              have z5 := j5.young hs6 hyo
              have jy := jw.soft hs45
              have hFv := (c5.block _ (Array.getElem?_eq_some_iff.1 hFw).1).trans hFw
              clear hcallO X0 X1 X2 pl2 resO restO hLS resF restF he jw j1 j2 j4 j5 fy hFw
              go_upto_region 9 with fail
              generalize v5.alloc (.cells #[.int .i64 y.kind, .string (bs y.name), .int .i64 y.val.kind, .slice ya y.val.shape.length yc, .slice ye y.val.elems.length yec, .int .i64 y.fn.kind, .int .i64 y.fn.f, .int .i64 y.fn.g, .string (bs y.fn.name), .slice yb y.fn.body.len ybc, .slice yk y.kids.len ykc] 36) = v6 at *
              have g6 := hg5.trans (c6.mono hg5.size)
              have hFw := (c6.block _ (Array.getElem?_eq_some_iff.1 hFv).1).trans hFv
              have hXw := hX.soft (Soft.of_below g6) (g6.block _ hXl)
              have hBw := hB.trans (g6.mono hB.size)
              have hYB : XB (XS (w.heap.size + 1) w2.heap.size) v6 v5.heap.size y _ _ _ _ := ⟨hY6, z1, z2, j3, z4, z5⟩
              generalize v5.heap.size = YB at *
              have hX8 := fun (o : Obj) => (heap_alloc_old v6 o hXw.lt).trans hXw.hp
              cases T2 with
              | false =>
                have hl3 := hid (show LawSt F n ins false law (!false) _ _ from by have := hl2.out; rw [Bool.not_false, Bool.or_true] at this; exact this.fin (fine := false))
                clear hl2
                go_wp2_with (first | (refine wpList_load_rowE rfl 36 _ rfl w2.heap.size rfl 36 _ _ _ hXw.hp Tryz.underlying36 rfl (by kernel_rfl) ?_; go_simp) | (refine wpList_load_rowE rfl 36 _ rfl YB rfl 36 _ _ _ hY6 Tryz.underlying36 rfl (by kernel_rfl) ?_; go_simp) | (refine wpList_load_rowE rfl 33 _ rfl FB rfl 33 _ _ _ hFw Tryz.underlying33 rfl (by kernel_rfl) ?_; go_simp) | (refine wpList_store_row rfl 36 _ _ rfl w2.heap.size _ rfl rfl 36 _ (hX8 _) (by kernel_rfl) (by kernel_rfl) (by kernel_rfl) ?_; go_simp))
                go_roundw
                case rel =>
                  obtain ⟨n1, n2⟩ := rexpr_next (by omega) hXw jy (hYB.cells (hXw.cells .nil)) (by simp [Ex.cons, Tr.len]) _ rfl _ ((Oth.refl _ _).row _) (setRow_heap _ _ _ _ _ _ (hX8 _))
                  exact ⟨nx, false, _, _, _, _, _, rfl, rfl, hBw.trans n1, n2, (fun h => by cases h), hl3⟩
                case measure => simp [intOf]
              | true =>
                have hl3 := hid (show LawSt F n ins false law (!ok3) _ _ from by have := hl2.out; rw [Bool.not_true, Bool.or_false] at this; exact this)
                clear hl2
                go_wp2_with (first | (refine wpList_load_rowE rfl 36 _ rfl w2.heap.size rfl 36 _ _ _ hXw.hp Tryz.underlying36 rfl (by kernel_rfl) ?_; go_simp) | (refine wpList_load_rowE rfl 36 _ rfl YB rfl 36 _ _ _ hY6 Tryz.underlying36 rfl (by kernel_rfl) ?_; go_simp) | (refine wpList_load_rowE rfl 33 _ rfl FB rfl 33 _ _ _ hFw Tryz.underlying33 rfl (by kernel_rfl) ?_; go_simp) | (refine wpList_store_row rfl 36 _ _ rfl w2.heap.size _ rfl rfl 36 _ (hX8 _) (by kernel_rfl) (by kernel_rfl) (by kernel_rfl) ?_; go_simp))
                go_roundw
                case rel =>
                  obtain ⟨n1, n2⟩ := rexpr_next (by omega) hXw jy (hYB.cells (hXw.cells .nil)) (by simp [Ex.cons, Tr.len]) _ rfl _ ((Oth.refl _ _).row _) (setRow_heap _ _ _ _ _ _ (hX8 _))
                  exact ⟨nx, ok3, _, _, _, _, _, rfl, rfl, hBw.trans n1, n2, (fun h => by have := hnx h; exact ⟨this.1, by omega, this.2.2⟩), hl3⟩
                case measure =>
                  cases ok3 with
                  | false => simp [intOf]
                  | true => have := hnx rfl; simp [intOf]; omega
          · have haqi : ¬ (a : Int) < (q : Int) := by omega
            have he := hid (show endsF F (sg T a q) = false from by
              have : a = q := by omega
              rw [this, sg_nil]; rfl)
            have hFw := hF3
            have jw := j3'
            have hXw := hX.soft (Soft.of_below g3) (g3.block _ hXl)
            have hBw := hB.trans (g3.mono hB.size)
            clear hF3 j3'
            have hl1 := hid (LawSt.one (bad := false) ⟨rfl, hLS.out⟩ hne resF.out restF.out he.out).fin
            clear hLS he resF restF
            rw [HT1.out] at hl1
            have hX8 := fun (o : Obj) => (heap_alloc_old v3 o hXw.lt).trans hXw.hp
            go_wp2_with (first | (refine wpList_load_rowE rfl 36 _ rfl w2.heap.size rfl 36 _ _ _ hXw.hp Tryz.underlying36 rfl (by kernel_rfl) ?_; go_simp) | (refine wpList_load_rowE rfl 33 _ rfl FB rfl 33 _ _ _ hFw Tryz.underlying33 rfl (by kernel_rfl) ?_; go_simp) | (refine wpList_store_row rfl 36 _ _ rfl w2.heap.size _ rfl rfl 36 _ (hX8 _) (by kernel_rfl) (by kernel_rfl) (by kernel_rfl) ?_; go_simp))
            go_roundw
            case rel =>
              obtain ⟨n1, n2⟩ := rexpr_next (by omega) hXw jw (hXw.cells .nil) (by simp [Ex.cons, Tr.len]) _ rfl _ ((Oth.refl _ _).row _) (setRow_heap _ _ _ _ _ _ (hX8 _))
              exact ⟨q, T1, _, _, _, _, _, rfl, rfl, hBw.trans n1, n2, fun _ => ⟨hq1, by omega, hq3⟩, hl1⟩
            case measure => cases T1 <;> simp [intOf] <;> omega
      · have hpi : ¬ (a : Int) < (p : Int) := by omega
        have hs : law = some xk := by
          have := (hL.out.res (.inl (by rw [if_pos rfl, show p = a by omega, sg_nil]))).good
          exact this.2
        replace hs := hid hs
        have hXh := hX.hp
        clear hL
        go_wp2_with (first | (refine wpList_load_rowE rfl 36 _ rfl w2.heap.size rfl 36 _ _ _ hXh Tryz.underlying36 rfl (by kernel_rfl) ?_; go_simp) | (refine wpList_store_row rfl 36 _ _ rfl (w.heap.size + 1) _ rfl rfl 36 _ hrow (by kernel_rfl) (by kernel_rfl) (by kernel_rfl) ?_; go_simp))
        refine bodyPost_ret (results_row_tmp rfl _ _ (w.heap.size + 1) _ _ _ _ rfl (setRow_heap wr (w.heap.size + 1) _ #[.int .i64 xk.kind, .string (bs xk.name), .int .i64 xk.val.kind, .slice xka xk.val.shape.length xkc, .slice xke xk.val.elems.length xkec, .int .i64 xk.fn.kind, .int .i64 xk.fn.f, .int .i64 xk.fn.g, .string (bs xk.fn.name), .slice xkb xk.fn.body.len xkbc, .slice xkk xk.kids.len xkkc] _ _ hrow) Tryz.underlying36 rfl (by kernel_rfl)) rfl ?_
        exact rexpr_mk hBr ((Oth.refl _ _).row _) (by omega) (hX.isE.weak (fun k h => h.1)) (.inr ⟨rfl, hs.out⟩)
end Go.Proofs.YthlingdlehdlhaaGreatDoor.Par
