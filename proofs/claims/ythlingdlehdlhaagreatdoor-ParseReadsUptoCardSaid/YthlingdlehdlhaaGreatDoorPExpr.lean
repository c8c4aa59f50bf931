/- parse: expressions, walked. -/
import Derived.Test.YthlingdlehdlhaaGreatDoorPC
import Derived.Deep.Cut
namespace Go.Proofs.YthlingdlehdlhaaGreatDoor.Par
open Go.RowKit Go.Shelf
set_option linter.unusedVariables false
set_option linter.unusedSimpArgs false

/-- What holds ahead of each round: blocks of what is read lie behind the call's beginning, but for the block of x. -/
def XS (n0 X k : Nat) : Prop := n0 < k ∧ k ≠ X
/-- A function and kids are put into the block of x. -/
theorem expr_next {w wA : World} {R0 X rb : Nat} {fv : Value} {ins bd : Bool} {k : Int} {f : Fn} {fb : Value} {ks : Tr} {us : List (List Value)} {xs ve' vb' vc' : Value} {xk : Ex}
    (hpr : PR wA rb fv ins bd) (hfr : Fr rb w wA) (hR : w.heap.size = R0) (hRX : R0 < X) (hrb : rb < R0) (hX : XB (XS R0 X) wA X xk xs ve' vb' vc') (jf : Fresh (XS R0 X) wA (IsTs · fb f.body)) (hc : Cells (XS R0 X) wA ks us) (hks : ks.len ≤ 1000)
    (cur : Array Value) (hcur : cur = us.flatten.toArray) (wf : World) (ho : Oth X (wA.alloc (.cells cur 36)) wf)
    (hp : wf.heap[X]? = some (.cells #[.int .i64 k, .string ⟨#[]⟩, .int .i64 0, .slice none 0 0, .slice none 0 0, .int .i64 f.kind, .int .i64 f.f, .int .i64 f.g, .string (bs f.name), fb, .slice (some ⟨wA.heap.size, 0, none⟩) ks.len ks.len] 36)) :
    PR wf rb fv ins bd ∧ Fr rb w wf ∧ wA.heap.size < wf.heap.size ∧ wf.heap[R0]? = wA.heap[R0]? ∧ XB (XS R0 X) wf X ⟨k, [], noArr, f, ks⟩ (.slice none 0 0) (.slice none 0 0) fb (.slice (some ⟨wA.heap.size, 0, none⟩) ks.len ks.len) := by
  have hXl := hX.lt
  have hb := (Below.refl _ wA).alloc (Nat.le_refl _) (.cells cur 36)
  have hs := Soft.alloc wA (.cells cur 36)
  have hS : ¬ XS R0 X X := fun h => h.2 rfl
  have hrow := (hc.soft hs).row (b := wA.heap.size) (n := ks.len) (c := ks.len) ⟨by omega, by omega⟩ (heap_alloc_new wA (.cells cur 36)) rfl (Nat.le_refl _) (by omega) (by intro i u hu; subst hcur; simpa using hu)
  refine ⟨ho.pr (hpr.below hb) (by omega), ho.fr (hfr.trans (Fr.of_below hb)) (by omega), by rw [ho.size]; simp, (ho.block R0 (by omega)).trans (heap_alloc_old wA _ (by omega)), ?_⟩
  exact XB.make hp ((jf.soft hs).softF (ho.soft hS)) (hrow.softF (ho.soft hS))
def ExprR (F : List (List UInt8)) (n : Nat) (w w1 : World) (rb : Nat) (fv : Value) (ins bad : Bool) (v : Value) (l : List Tok) (law : Option Ex) (vl : Value) (wr : World) : Prop :=
  ∃ (bd : Bool) (xk : Ex) (rk : List Tok) (vs ve vb vc : Value), PR wr rb fv ins bd ∧ Fr rb w wr ∧ w1.heap.size < wr.heap.size ∧ Hid (wr.heap[w.heap.size]? = w1.heap[w.heap.size]?) ∧ XB (XS w.heap.size w1.heap.size) wr w1.heap.size xk vs ve vb vc ∧ Sub v l vl rk ∧ Rest l rk ∧ Hid (LawSt F n ins bad law bd xk rk)
set_option maxRecDepth 100000 in
set_option maxHeartbeats 8000000 in
theorem expr_step (F : List (List UInt8)) (n : Nat) (hO : ∀ m, m ≤ n → OperC F m) (hF : ∀ m, m ≤ n → FunC F m) : ExprC F (n + 1) := by
  intro w rb fv ins bad v l hg hfu
  have hlt := hg.pr.lt
  obtain ⟨a, c, rfl⟩ := toks_parts hg.tk
  obtain ⟨law, hlaw⟩ : ∃ law, exprF F (n + 1) ins l = law := ⟨_, rfl⟩
  rw [hlaw]
  have Hlaw := hid hlaw
  clear hlaw
  have hA := fun o => (Below.refl _ w).alloc (Nat.le_refl _) o
  have hN0 := fun o => heap_alloc_new w o
  go_enter Tryz.func82, Tryz.ntmps82
  go_wp2_with fail
  refine (hO n (Nat.le_refl _) _ rb fv ins bad _ l (hg.soft (hg.pr.below (hA _)) (Soft.alloc _ _)) (by omega)).mono ?_
  rintro e w1 ⟨bd1, xv, rv, x, r, rfl, an, fx, tk, rs, res⟩
  obtain ⟨vs, ve, vb, vc, rfl, i1, i2, i3, j1, j2⟩ := fx.ex
  have hform := And.intro i1.self.parts (And.intro i2.self.parts (And.intro j1.self.parts j2.self.parts))
  obtain ⟨⟨sa, sc, rfl, -⟩, ⟨ea, ec, rfl, -⟩, ⟨ba, bc, rfl, -⟩, ⟨ka, kc, rfl, -⟩⟩ := hform
  obtain ⟨ra, rc, rfl⟩ := toks_parts (tk _ hg.tk)
  have hsz : w.heap.size + 1 ≤ w1.heap.size := by have := an.fr.size; simpa using this
  have hR1 := (an.fr.block w.heap.size (by simp) (by omega)).trans (hN0 _)
  have hLaw := LawSt.start res rs (by omega) op_ne
  rw [Hlaw.out] at hLaw
  have hFr1 := (Fr.of_below (hA _)).trans an.fr
  go_wp2_with fail
  go_loopw [1] (fun vl wr => ExprR F n w w1 rb fv ins bad (.slice a l.length c) l law vl wr)
    (fun vl _ => sliceLen vl)
  case atStart =>
    have hs := Soft.alloc w1 (.cells #[.int .i64 x.kind, .string (bs x.name), .int .i64 x.val.kind, .slice sa x.val.shape.length sc, .slice ea x.val.elems.length ec, .int .i64 x.fn.kind, .int .i64 x.fn.f, .int .i64 x.fn.g, .string (bs x.fn.name), .slice ba x.fn.body.len bc, .slice ka x.kids.len kc] 36)
    have hb := (Below.refl _ w1).alloc (Nat.le_refl _) (.cells #[.int .i64 x.kind, .string (bs x.name), .int .i64 x.val.kind, .slice sa x.val.shape.length sc, .slice ea x.val.elems.length ec, .int .i64 x.fn.kind, .int .i64 x.fn.f, .int .i64 x.fn.g, .string (bs x.fn.name), .slice ba x.fn.body.len bc, .slice ka x.kids.len kc] 36)
    have hy : ∀ k, Up (w.alloc (.cells #[.int .i64 0, .string ⟨#[]⟩, .int .i64 0, .slice none 0 0, .slice none 0 0, .int .i64 0, .int .i64 0, .int .i64 0, .string ⟨#[]⟩, .slice none 0 0, .slice none 0 0] 36)).heap.size k → k < w1.heap.size → XS w.heap.size w1.heap.size k := by
      intro k h1 h2
      unfold Up at h1
      simp at h1
      exact ⟨by omega, by omega⟩
    exact ⟨bd1, x, r, _, _, _, _, an.pr.below hb, hFr1.trans (Fr.of_below hb), by simp, hid (heap_alloc_old w1 _ (by omega)), ⟨heap_alloc_new w1 _, i1.young hs hy, i2.young hs hy, i3, j1.young hs hy, j2.young hs hy⟩, tk, rs, hid hLaw⟩
  case round =>
    obtain ⟨bd, xk, rk, vs, ve, vb, vc, hpr, hfr, hszr, hR0, hX, htk, hrs, hLw⟩ := hrel
    obtain ⟨⟨sa, sc, rfl⟩, ⟨ea, ec, rfl⟩, ⟨ba, bc, rfl⟩, ⟨ka, kc, rfl⟩⟩ := hX.forms
    have hsw := soft_of hg.pr hpr hfr
    have htk0 := toks_soft hg.tk hsw
    obtain ⟨va, vcp, rfl⟩ := toks_parts (htk _ htk0)
    clear hLaw i1 i2 i3 j1 j2 fx an tk res hFr1 rs
    have hR0' := hR0.out.trans hR1
    have HX := hid hX.hp
    have HR := hid hR0'
    obtain ⟨p0, p1, p2, q0, q1, q2⟩ := hpr.cells
    have hXr : w1.heap.size ≠ rb := by omega
    have fin : ∀ wf, (rk = [] ∨ bd = true) → Oth w.heap.size _ wf → ExprA w wf rb fv ins bad law (.returned (.agg #[.int .i64 xk.kind, .string (bs xk.name), .int .i64 xk.val.kind, .slice sa xk.val.shape.length sc, .slice ea xk.val.elems.length ec, .int .i64 xk.fn.kind, .int .i64 xk.fn.f, .int .i64 xk.fn.g, .string (bs xk.fn.name), .slice ba xk.fn.body.len bc, .slice ka xk.kids.len kc])) := fun wf he ho =>
      ⟨bd, _, xk, rfl, ⟨ho.pr hpr (by omega), ho.fr hfr (Nat.le_refl _)⟩, (hX.isE.softF (ho.soft (fun h => Nat.lt_irrefl _ h.1))).weak (fun k h => Nat.le_of_lt h.1), hLw.out.res he⟩
    have hN := setRow_heap wr w.heap.size _ #[.int .i64 xk.kind, .string (bs xk.name), .int .i64 xk.val.kind, .slice sa xk.val.shape.length sc, .slice ea xk.val.elems.length ec, .int .i64 xk.fn.kind, .int .i64 xk.fn.f, .int .i64 xk.fn.g, .string (bs xk.fn.name), .slice ba xk.fn.body.len bc, .slice ka xk.kids.len kc] _ _ hR0'
    have Fin := hid fin
    have HN := hid hN
    clear fin hN hR0'
    cases rk with
    | nil =>
      rw [List.length_nil]
      go_wp2_with (first
        | (refine wpList_load_rowE rfl 36 _ rfl w1.heap.size rfl 36 _ _ _ HX.out Tryz.underlying36 rfl (by kernel_rfl) ?_; go_simp)
        | (refine wpList_store_row rfl 36 _ _ rfl w.heap.size _ rfl rfl 36 _ HR.out (by kernel_rfl) (by kernel_rfl) (by kernel_rfl) ?_; go_simp))
      refine bodyPost_ret (results_cell_row rfl _ _ w.heap.size _ _ _ _ rfl HN.out Tryz.underlying36 rfl (by kernel_rfl)) rfl ?_
      refine Fin.out _ (by simp) ?_
      exact (Oth.refl _ _).row _
    | cons t0 rk' =>
      have hl1 : (0 : Int) < ((rk'.length + 1 : Nat) : Int) := by omega
      cases bd with
      | true =>
        rw [List.length_cons]
        go_wp2_with (first
        | (refine wpList_load_rowE rfl 36 _ rfl w1.heap.size rfl 36 _ _ _ HX.out Tryz.underlying36 rfl (by kernel_rfl) ?_; go_simp)
        | (refine wpList_store_row rfl 36 _ _ rfl w.heap.size _ rfl rfl 36 _ HR.out (by kernel_rfl) (by kernel_rfl) (by kernel_rfl) ?_; go_simp))
        refine bodyPost_ret (results_cell_row rfl _ _ w.heap.size _ _ _ _ rfl HN.out Tryz.underlying36 rfl (by kernel_rfl)) rfl ?_
        refine Fin.out _ (by simp) ?_
        exact (Oth.refl _ _).row _
      | false =>
        have hLs : bad = false ∧ ∃ k0, 8 * (t0 :: rk').length + 2 ≤ k0 + 1 ∧ k0 + 1 ≤ n ∧ law = loopF F (k0 + 1) ins xk (t0 :: rk') := by
          rcases hLw.out with ⟨h, -⟩ | ⟨-, h, k, h1, h2, h3⟩
          · cases h
          · obtain ⟨k0, rfl⟩ : ∃ j, k = j + 1 := ⟨k - 1, by omega⟩
            exact ⟨h, k0, h1, h2, h3⟩
        obtain ⟨hbf, k0, hk1, hk2, hk3⟩ := hLs
        have HL := hid (And.intro hbf (And.intro hk1 (And.intro hk2 hk3)))
        have hk4 : 8 * (t0 :: rk').length + 1 ≤ k0 := by omega
        clear hLw Fin HN hbf hk3 HX HR
        have hrl := hrs.le
        have hgl := hg.le
        have giv : Giv F wr rb fv ins false (.slice va (t0 :: rk').length vcp) (t0 :: rk') := ⟨hpr, Strs.soft hg.fs hsw, htk _ htk0, hrs.dy, hg.sm.sub hrs.sub, by omega, hg.gy.soft hsw⟩
        have hcall := hF k0 (by omega) wr rb fv ins false _ _ giv (by simp) hk4
        have hXl := hX.lt
        have hRw : wr.heap[w.heap.size]? = w1.heap[w.heap.size]? := hR0.out
        rw [List.length_cons] at hcall ⊢
        go_wp2_with fail
        refine hcall.mono ?_
        rintro e w2 ⟨bd2, fvv, r1v, f, r1, rfl, an2, ff2, tk2, rs2, res2⟩
        have hs2 := soft_of hpr an2.pr an2.fr
        have hX2 := hX.soft hs2 (an2.fr.block _ hXl hXr)
        have hR2 := (an2.fr.block w.heap.size (by omega) (by omega)).trans hRw
        have hfr2 := hfr.trans an2.fr
        have hsz2 := an2.fr.size
        obtain ⟨fb, rfl, jf⟩ := ff2.fn
        have jf2 := jf.weak (base' := XS w.heap.size w1.heap.size) (fun k h => by unfold Up at h; exact ⟨by omega, by omega⟩)
        obtain ⟨fa, fc, rfl, -⟩ := jf.self.parts
        have hgs2 := hsw.trans hs2
        have sb2 := htk.trans tk2
        have tw2 := toks_soft hg.tk hgs2
        obtain ⟨r1a, r1c, rfl⟩ := toks_parts (sb2 _ tw2)
        have hp2 := an2.pr
        have hfs2 := Strs.soft hg.fs hgs2
        have hgy2 := hg.gy.soft hgs2
        have hBf := (Below.refl _ w2).alloc (Nat.le_refl _) (.cells #[.int .i64 f.kind, .int .i64 f.f, .int .i64 f.g, .string (bs f.name), .slice fa f.body.len fc] 33)
        have hFb := heap_alloc_new w2 (.cells #[.int .i64 f.kind, .int .i64 f.f, .int .i64 f.g, .string (bs f.name), .slice fa f.body.len fc] 33)
        obtain ⟨T1, hT1⟩ : ∃ b, (takesF f).1 = b := ⟨_, rfl⟩
        obtain ⟨T2, hT2⟩ : ∃ b, (takesF f).2 = b := ⟨_, rfl⟩
        have htkF := fun V => takes_any f (.slice fa f.body.len fc) _ ⟨_, _, _, rfl⟩ rfl V
        rw [hT1, hT2] at htkF
        have HT1 := hid hT1
        have HT2 := hid hT2
        obtain ⟨E, hE⟩ : ∃ b, endsF F r1 = b := ⟨_, rfl⟩
        have hends := fun V (hb : Below w2.heap.size w2 V) => ends_any V rb fv ins bd2 F (hp2.below hb) (Strs.soft hfs2 (Soft.of_below hb)) _ r1 ((sb2 _ tw2).below hb)
        rw [hE] at hends
        have HE := hid hE
        clear hcall hT1 hT2 hE an2 ff2 jf hX hpr hfr htk tk2 htk0 giv hsw hs2 hRw hR0 p0 p1 p2 q0 q1 q2
        go_wp2_with (refine wpList_load_rowE rfl 33 _ rfl w2.heap.size rfl 33 _ _ _ hFb Tryz.underlying33 rfl (by kernel_rfl) ?_)
        refine (htkF _).mono ?_
        rintro e w3 ⟨rfl, b3⟩
        have hB3 := hBf.trans (b3.mono hBf.size)
        have hFb3 := (b3.block _ (by simp)).trans hFb
        go_wp2_with fail
        refine (hends _ hB3).mono ?_
        rintro e w4 ⟨rfl, b4⟩
        have hB4 := hB3.trans (b4.mono hB3.size)
        have hFb4 := (b4.block _ (Array.getElem?_eq_some_iff.1 hFb3).1).trans hFb3
        have hp4 := hp2.below hB4
        have hs4 := Soft.of_below hB4
        have hX4 := hX2.soft hs4 (hB4.block _ hX2.lt)
        have hR4 := (hB4.block w.heap.size (by omega)).trans hR2
        have hfr4 := hfr2.trans (Fr.of_below hB4)
        have jf4 := jf2.soft hs4
        have tw4 := toks_soft tw2 hs4
        have hfs4 := Strs.soft hfs2 hs4
        have hgy4 := hgy2.soft hs4
        have hsz4 := hB4.size
        clear hends htkF hp2 hX2 hR2 hfr2 jf2 tw2 hfs2 hgy2 hB3 hB4 hBf hFb hFb3 b3 b4 hs4
        obtain ⟨p0, p1, p2, q0, q1, q2⟩ := hp4.cells
        have hFr : w2.heap.size ≠ rb := by omega
        cases E with
        | false =>
          have hLn := hid (LawSt.one HL.out (by simp) res2 rs2 HE.out)
          cases bd2 with
          | false =>
            have hp7 := hp4.set (!T1)
            have hfr7 := hfr4.set (.bool (!T1))
            have hs7 := soft_of hp4 hp7 ((Fr.refl rb w4).set (.bool (!T1)))
            have hX7 := hX4.soft hs7 (Below.heap_setCell _ _ _ _ hXr)
            have jf7 := jf4.soft hs7
            have hF7 := (Below.heap_setCell w4 ⟨rb, 2, none⟩ (.bool (!T1)) w2.heap.size hFr).trans hFb4
            have hR7 := (Below.heap_setCell w4 ⟨rb, 2, none⟩ (.bool (!T1)) w.heap.size (by simp; omega)).trans hR4
            have hz7 : w1.heap.size < (w4.setCell ⟨rb, 2, none⟩ (.bool (!T1))).heap.size := by simp [World.setCell]; omega
            go_upto_region 8 with fail
            generalize w4.setCell ⟨rb, 2, none⟩ (.bool (!T1)) = w7 at *
            clear hp4 hX4 hR4 hfr4 jf4 hFb4 tw4 hfs4 hgy4 p0 p1 p2 q0 q1 q2 hs7
            have hX8 := fun (o : Obj) => (heap_alloc_old w7 o hX7.lt).trans hX7.hp
            go_wp2_with (first
              | (refine wpList_load_rowE rfl 36 _ rfl w1.heap.size rfl 36 _ _ _ hX7.hp Tryz.underlying36 rfl (by kernel_rfl) ?_; go_simp)
              | (refine wpList_load_rowE rfl 33 _ rfl w2.heap.size rfl 33 _ _ _ hF7 Tryz.underlying33 rfl (by kernel_rfl) ?_; go_simp)
              | (refine wpList_store_row rfl 36 _ _ rfl w1.heap.size _ rfl rfl 36 _ (hX8 _) (by kernel_rfl) (by kernel_rfl) (by kernel_rfl) ?_; go_simp))
            go_roundw
            case rel =>
              obtain ⟨n1, n2, n3, n4, n5⟩ := expr_next hp7 hfr7 rfl (by omega) (by omega) hX7 jf7 (hX7.cells .nil) (by simp [Ex.cons, Tr.len]) _ rfl _ ((Oth.refl _ _).row _) (setRow_heap _ _ _ _ _ _ (hX8 _))
              refine ⟨_, ⟨5, [], noArr, f, xk.cons .nil⟩, r1, _, _, _, _, n1, n2, Nat.lt_trans hz7 n3, hid (n4.trans hR7), n5, sb2, ⟨rs2.dy, by have := rs2.le; have := hrs.le; simp only [List.length_cons] at *; omega, fun z hz => hrs.sub (rs2.sub hz)⟩, ?_⟩
              have := hLn.out; rw [HT1.out] at this; exact hid this
            case measure =>
              have := rs2.le
              rw [List.length_cons] at this
              show r1.length < rk'.length + 1
              omega
          | true =>
            have hp7 := hp4.set (true)
            have hfr7 := hfr4.set (.bool (true))
            have hs7 := soft_of hp4 hp7 ((Fr.refl rb w4).set (.bool (true)))
            have hX7 := hX4.soft hs7 (Below.heap_setCell _ _ _ _ hXr)
            have jf7 := jf4.soft hs7
            have hF7 := (Below.heap_setCell w4 ⟨rb, 2, none⟩ (.bool (true)) w2.heap.size hFr).trans hFb4
            have hR7 := (Below.heap_setCell w4 ⟨rb, 2, none⟩ (.bool (true)) w.heap.size (by simp; omega)).trans hR4
            have hz7 : w1.heap.size < (w4.setCell ⟨rb, 2, none⟩ (.bool (true))).heap.size := by simp [World.setCell]; omega
            go_upto_region 8 with fail
            generalize w4.setCell ⟨rb, 2, none⟩ (.bool (true)) = w7 at *
            clear hp4 hX4 hR4 hfr4 jf4 hFb4 tw4 hfs4 hgy4 p0 p1 p2 q0 q1 q2 hs7
            have hX8 := fun (o : Obj) => (heap_alloc_old w7 o hX7.lt).trans hX7.hp
            go_wp2_with (first
              | (refine wpList_load_rowE rfl 36 _ rfl w1.heap.size rfl 36 _ _ _ hX7.hp Tryz.underlying36 rfl (by kernel_rfl) ?_; go_simp)
              | (refine wpList_load_rowE rfl 33 _ rfl w2.heap.size rfl 33 _ _ _ hF7 Tryz.underlying33 rfl (by kernel_rfl) ?_; go_simp)
              | (refine wpList_store_row rfl 36 _ _ rfl w1.heap.size _ rfl rfl 36 _ (hX8 _) (by kernel_rfl) (by kernel_rfl) (by kernel_rfl) ?_; go_simp))
            go_roundw
            case rel =>
              obtain ⟨n1, n2, n3, n4, n5⟩ := expr_next hp7 hfr7 rfl (by omega) (by omega) hX7 jf7 (hX7.cells .nil) (by simp [Ex.cons, Tr.len]) _ rfl _ ((Oth.refl _ _).row _) (setRow_heap _ _ _ _ _ _ (hX8 _))
              refine ⟨_, ⟨5, [], noArr, f, xk.cons .nil⟩, r1, _, _, _, _, n1, n2, Nat.lt_trans hz7 n3, hid (n4.trans hR7), n5, sb2, ⟨rs2.dy, by have := rs2.le; have := hrs.le; simp only [List.length_cons] at *; omega, fun z hz => hrs.sub (rs2.sub hz)⟩, ?_⟩
              have := hLn.out; rw [HT1.out] at this; exact hid this
            case measure =>
              have := rs2.le
              rw [List.length_cons] at this
              show r1.length < rk'.length + 1
              omega
        | true =>
          have hle2 := rs2.le
          rw [List.length_cons] at hle2 hk4
          have giv4 : Giv F w4 rb fv ins bd2 (.slice r1a r1.length r1c) r1 := ⟨hp4, hfs4, sb2 _ tw4, rs2.dy, hg.sm.sub (fun z hz => hrs.sub (rs2.sub hz)), by rw [List.length_cons] at hrl; omega, hgy4⟩
          have hcall2 := hO k0 (by omega) w4 rb fv ins bd2 _ r1 giv4 (by omega)
          go_wp2_with fail
          refine hcall2.mono ?_
          rintro e w5 ⟨bd3, yv, r2v, y, r2, rfl, an5, fy, tk5, rs5, res5⟩
          have hs5 := soft_of hp4 an5.pr an5.fr
          have hX5 := hX4.soft hs5 (an5.fr.block _ hX4.lt hXr)
          have hR5 := (an5.fr.block w.heap.size (by omega) (by omega)).trans hR4
          have hfr5 := hfr4.trans an5.fr
          have jf5 := jf4.soft hs5
          have hFb5 := (an5.fr.block _ (Array.getElem?_eq_some_iff.1 hFb4).1 hFr).trans hFb4
          have hsz5 := an5.fr.size
          have hFl := (Array.getElem?_eq_some_iff.1 hFb4).1
          have sb5 := sb2.trans tk5
          obtain ⟨yvs, yve, yvb, yvc, rfl, i1, i2, i3, j1, j2⟩ := fy.ex
          have hform := And.intro i1.self.parts (And.intro i2.self.parts (And.intro j1.self.parts j2.self.parts))
          obtain ⟨⟨ya, yc, rfl, -⟩, ⟨ye, yec, rfl, -⟩, ⟨yb, ybc, rfl, -⟩, ⟨yk, ykc, rfl, -⟩⟩ := hform
          obtain ⟨r2a, r2c, rfl⟩ := toks_parts (tk5 _ ((sb2 _ (toks_soft tw4 hs5))))
          have hLn := hid (LawSt.two HL.out (by simp) res2 rs2 HE.out res5 rs5)
          have hB6 := (Below.refl _ w5).alloc (Nat.le_refl _) (.cells #[.int .i64 y.kind, .string (bs y.name), .int .i64 y.val.kind, .slice ya y.val.shape.length yc, .slice ye y.val.elems.length yec, .int .i64 y.fn.kind, .int .i64 y.fn.f, .int .i64 y.fn.g, .string (bs y.fn.name), .slice yb y.fn.body.len ybc, .slice yk y.kids.len ykc] 36)
          have hs6 := Soft.of_below hB6
          have hwk : ∀ k, Up w4.heap.size k → XS w.heap.size w1.heap.size k := fun k h => by unfold Up at h; exact ⟨by omega, by omega⟩
          have hY6 : XB (XS w.heap.size w1.heap.size) (w5.alloc (.cells #[.int .i64 y.kind, .string (bs y.name), .int .i64 y.val.kind, .slice ya y.val.shape.length yc, .slice ye y.val.elems.length yec, .int .i64 y.fn.kind, .int .i64 y.fn.f, .int .i64 y.fn.g, .string (bs y.fn.name), .slice yb y.fn.body.len ybc, .slice yk y.kids.len ykc] 36)) w5.heap.size y _ _ _ _ := ⟨heap_alloc_new w5 _, (i1.weak hwk).soft hs6, (i2.weak hwk).soft hs6, i3, (j1.weak hwk).soft hs6, (j2.weak hwk).soft hs6⟩
          have hX6 := hX5.soft hs6 (hB6.block _ hX5.lt)
          have hR6 := (hB6.block w.heap.size (by omega)).trans hR5
          have hfr6 := hfr5.trans (Fr.of_below hB6)
          have jf6 := jf5.soft hs6
          have hFb6 := (hB6.block _ (by omega)).trans hFb5
          have hp6 := an5.pr.below hB6
          have hYr : w5.heap.size ≠ rb := by omega
          go_upto_region 10 with fail
          clear hcall2 hs5 hX5 hR5 hfr5 jf5 hFb5 i1 i2 i3 j1 j2 fy an5 hp4 hX4 hR4 hfr4 jf4 hFb4 giv4 hs6 hB6 tw4 hfs4 hgy4 p0 p1 p2 q0 q1 q2
          generalize w5.alloc (.cells #[.int .i64 y.kind, .string (bs y.name), .int .i64 y.val.kind, .slice ya y.val.shape.length yc, .slice ye y.val.elems.length yec, .int .i64 y.fn.kind, .int .i64 y.fn.f, .int .i64 y.fn.g, .string (bs y.fn.name), .slice yb y.fn.body.len ybc, .slice yk y.kids.len ykc] 36) = w6 at *
          obtain ⟨p0, p1, p2, q0, q1, q2⟩ := hp6.cells
          cases bd3 with
          | false =>
            have hp7 := hp6.set (!T2)
            have hfr7 := hfr6.set (.bool (!T2))
            have hs7 := soft_of hp6 hp7 ((Fr.refl rb w6).set (.bool (!T2)))
            have hX7 := hX6.soft hs7 (Below.heap_setCell _ _ _ _ hXr)
            have hY7 := hY6.soft hs7 (Below.heap_setCell _ _ _ _ hYr)
            have jf7 := jf6.soft hs7
            have hF7 := (Below.heap_setCell w6 ⟨rb, 2, none⟩ (.bool (!T2)) w2.heap.size hFr).trans hFb6
            have hR7 := (Below.heap_setCell w6 ⟨rb, 2, none⟩ (.bool (!T2)) w.heap.size (by simp; omega)).trans hR6
            have hz7 : w1.heap.size < (w6.setCell ⟨rb, 2, none⟩ (.bool (!T2))).heap.size := by have := hX6.lt; simp [World.setCell]; omega
            go_upto_region 11 with fail
            generalize w6.setCell ⟨rb, 2, none⟩ (.bool (!T2)) = w7 at *
            clear hp6 hX6 hY6 hR6 hfr6 jf6 hFb6 p0 p1 p2 q0 q1 q2 hs7
            have hX8 := fun (o : Obj) => (heap_alloc_old w7 o hX7.lt).trans hX7.hp
            go_wp2_with (first
              | (refine wpList_load_rowE rfl 36 _ rfl w1.heap.size rfl 36 _ _ _ hX7.hp Tryz.underlying36 rfl (by kernel_rfl) ?_; go_simp)
              | (refine wpList_load_rowE rfl 36 _ rfl w5.heap.size rfl 36 _ _ _ hY7.hp Tryz.underlying36 rfl (by kernel_rfl) ?_; go_simp)
              | (refine wpList_load_rowE rfl 33 _ rfl w2.heap.size rfl 33 _ _ _ hF7 Tryz.underlying33 rfl (by kernel_rfl) ?_; go_simp)
              | (refine wpList_store_row rfl 36 _ _ rfl w1.heap.size _ rfl rfl 36 _ (hX8 _) (by kernel_rfl) (by kernel_rfl) (by kernel_rfl) ?_; go_simp))
            go_roundw
            case rel =>
              obtain ⟨n1, n2, n3, n4, n5⟩ := expr_next hp7 hfr7 rfl (by omega) (by omega) hX7 jf7 (hY7.cells (hX7.cells .nil)) (by simp [Ex.cons, Tr.len]) _ rfl _ ((Oth.refl _ _).row _) (setRow_heap _ _ _ _ _ _ (hX8 _))
              refine ⟨_, ⟨6, [], noArr, f, y.cons (xk.cons .nil)⟩, r2, _, _, _, _, n1, n2, Nat.lt_trans hz7 n3, hid (n4.trans hR7), n5, sb5, ⟨rs5.dy, by have := rs5.le; have := hrs.le; simp only [List.length_cons] at this; omega, fun z hz => hrs.sub (rs2.sub (rs5.sub hz))⟩, ?_⟩
              have := hLn.out; rw [HT2.out] at this; exact hid this
            case measure =>
              have := rs5.le
              show r2.length < rk'.length + 1
              omega
          | true =>
            have hp7 := hp6.set (true)
            have hfr7 := hfr6.set (.bool (true))
            have hs7 := soft_of hp6 hp7 ((Fr.refl rb w6).set (.bool (true)))
            have hX7 := hX6.soft hs7 (Below.heap_setCell _ _ _ _ hXr)
            have hY7 := hY6.soft hs7 (Below.heap_setCell _ _ _ _ hYr)
            have jf7 := jf6.soft hs7
            have hF7 := (Below.heap_setCell w6 ⟨rb, 2, none⟩ (.bool (true)) w2.heap.size hFr).trans hFb6
            have hR7 := (Below.heap_setCell w6 ⟨rb, 2, none⟩ (.bool (true)) w.heap.size (by simp; omega)).trans hR6
            have hz7 : w1.heap.size < (w6.setCell ⟨rb, 2, none⟩ (.bool (true))).heap.size := by have := hX6.lt; simp [World.setCell]; omega
            go_upto_region 11 with fail
            generalize w6.setCell ⟨rb, 2, none⟩ (.bool (true)) = w7 at *
            clear hp6 hX6 hY6 hR6 hfr6 jf6 hFb6 p0 p1 p2 q0 q1 q2 hs7
            have hX8 := fun (o : Obj) => (heap_alloc_old w7 o hX7.lt).trans hX7.hp
            go_wp2_with (first
              | (refine wpList_load_rowE rfl 36 _ rfl w1.heap.size rfl 36 _ _ _ hX7.hp Tryz.underlying36 rfl (by kernel_rfl) ?_; go_simp)
              | (refine wpList_load_rowE rfl 36 _ rfl w5.heap.size rfl 36 _ _ _ hY7.hp Tryz.underlying36 rfl (by kernel_rfl) ?_; go_simp)
              | (refine wpList_load_rowE rfl 33 _ rfl w2.heap.size rfl 33 _ _ _ hF7 Tryz.underlying33 rfl (by kernel_rfl) ?_; go_simp)
              | (refine wpList_store_row rfl 36 _ _ rfl w1.heap.size _ rfl rfl 36 _ (hX8 _) (by kernel_rfl) (by kernel_rfl) (by kernel_rfl) ?_; go_simp))
            go_roundw
            case rel =>
              obtain ⟨n1, n2, n3, n4, n5⟩ := expr_next hp7 hfr7 rfl (by omega) (by omega) hX7 jf7 (hY7.cells (hX7.cells .nil)) (by simp [Ex.cons, Tr.len]) _ rfl _ ((Oth.refl _ _).row _) (setRow_heap _ _ _ _ _ _ (hX8 _))
              refine ⟨_, ⟨6, [], noArr, f, y.cons (xk.cons .nil)⟩, r2, _, _, _, _, n1, n2, Nat.lt_trans hz7 n3, hid (n4.trans hR7), n5, sb5, ⟨rs5.dy, by have := rs5.le; have := hrs.le; simp only [List.length_cons] at this; omega, fun z hz => hrs.sub (rs2.sub (rs5.sub hz))⟩, ?_⟩
              have := hLn.out; rw [HT2.out] at this; exact hid this
            case measure =>
              have := rs5.le
              show r2.length < rk'.length + 1
              omega
end Go.Proofs.YthlingdlehdlhaaGreatDoor.Par
