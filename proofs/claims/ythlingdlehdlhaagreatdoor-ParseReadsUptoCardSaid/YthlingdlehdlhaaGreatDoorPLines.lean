/- parse: a function's lines, walked. -/
import Derived.Test.YthlingdlehdlhaaGreatDoorPC
import Derived.Test.YthlingdlehdlhaaGreatDoorPD
import Derived.Deep.Cut
import Derived.Maps.AppendAt
namespace Go.Proofs.YthlingdlehdlhaaGreatDoor.Par
open Go.RowKit Go.Shelf
set_option linter.unusedVariables false
set_option linter.unusedSimpArgs false

/-- Lines ahead of others. -/
def appL (ys : List Ln) (t : Tr) : Tr := ys.foldr Ln.cons t
theorem appL_nil (ys : List Ln) : appL ys .nil = chainL ys := by
  induction ys with
  | nil => rfl
  | cons y r ih => show y.cons (appL r .nil) = y.cons (chainL r); rw [ih]
theorem appL_snoc (ys : List Ln) (y : Ln) (t : Tr) : appL (ys ++ [y]) t = appL ys (y.cons t) := by unfold appL; rw [List.foldr_append]; rfl
theorem chainL_len (ys : List Ln) : (chainL ys).len = ys.length := by
  induction ys with
  | nil => rfl
  | cons y r ih => show (chainL r).len + 1 = r.length + 1; rw [ih]
theorem Cells.inv_ln {Sb : Nat → Prop} {w : World} {z : Ln} {t : Tr} {us : List (List Value)} (h : Cells Sb w (z.cons t) us) : ∃ vc us', us = lnL z vc :: us' ∧ Fresh Sb w (IsTs · vc z.kids) ∧ Cells Sb w t us' := by
  generalize ht : z.cons t = s at h
  cases h with
  | nil => cases ht
  | ex => unfold Ln.cons Ex.cons at ht; cases ht
  | ln y vc r us' j c =>
    unfold Ln.cons at ht
    obtain ⟨k, n, ks⟩ := z
    obtain ⟨k', n', ks'⟩ := y
    simp only [Tr.ln.injEq] at ht
    obtain ⟨rfl, rfl, rfl, rfl⟩ := ht
    exact ⟨vc, us', rfl, j, c⟩
theorem Cells.snocL {Sb : Nat → Prop} {w : World} {ys : List Ln} {us : List (List Value)} (h : Cells Sb w (chainL ys) us) {y : Ln} {vc : Value} (hv : Fresh Sb w (IsTs · vc y.kids)) : Cells Sb w (chainL (ys ++ [y])) (us ++ [lnL y vc]) := by
  induction ys generalizing us with
  | nil =>
    have : us = [] := by have := h.len; exact List.eq_nil_of_length_eq_zero this
    subst this
    exact .ln y vc .nil [] hv .nil
  | cons z r ih =>
    obtain ⟨vc', us', rfl, j1, j2⟩ := Cells.inv_ln (z := z) (t := chainL r) h
    exact .ln _ _ _ _ j1 (ih j2)
/-- Where the reading of lines stands. -/
def LinesSt (F : List (List UInt8)) (n : Nat) (law0 : Option Tr) (bo : Bool) (ys : List Ln) (rest : List (List Tok)) : Prop :=
  (bo = true ∧ law0 = none) ∨ (bo = false ∧ ∃ k, 8 * need rest ≤ k + 3 ∧ 1 ≤ k ∧ k ≤ n ∧ law0 = (manyF F k rest).map (appL ys))
theorem LinesSt.start (F : List (List UInt8)) (n : Nat) (ls : List (List Tok)) (h : 8 * need ls ≤ n + 3) (h1 : 1 ≤ n) : LinesSt F n (manyF F n ls) false [] ls :=
  .inr ⟨rfl, n, h, h1, Nat.le_refl _, by cases manyF F n ls <;> rfl⟩
theorem LinesSt.step {F : List (List UInt8)} {n k : Nat} {law0 : Option Tr} {ys : List Ln} {a : List Tok} {rest : List (List Tok)} {bo bo2 : Bool} {y : Ln} (hk : bo = false → 8 * need (a :: rest) ≤ k + 1 + 3 ∧ k + 1 ≤ n ∧ law0 = (manyF F (k + 1) (a :: rest)).map (appL ys)) (hb : bo = true → law0 = none)
    (h : Res bo bo2 (lineF F k a) y) : LinesSt F n law0 bo2 (ys ++ [y]) rest := by
  cases bo with
  | true =>
    have h1 := h.1
    simp at h1
    subst h1
    exact .inl ⟨rfl, hb rfl⟩
  | false =>
    obtain ⟨h1, h2, h3⟩ := hk rfl
    rw [manyF] at h3
    cases bo2 with
    | true =>
      rcases h.bad with h | h
      · cases h
      · exact .inl ⟨rfl, by rw [h3, h]; rfl⟩
    | false =>
      rw [need_cons] at h1
      rw [h.good.2] at h3
      refine .inr ⟨rfl, k, by omega, by omega, by omega, ?_⟩
      rw [h3]
      simp only
      cases manyF F k rest with
      | none => rfl
      | some t => simp only [Option.map_some, appL_snoc]
theorem LinesSt.done {F : List (List UInt8)} {n : Nat} {law0 : Option Tr} {bo : Bool} {ys : List Ln} (h : LinesSt F n law0 bo ys []) : Res false bo law0 (chainL ys) := by
  rcases h with ⟨rfl, h⟩ | ⟨rfl, k, h1, h2, h3, h4⟩
  · exact Res.none h false _
  · obtain ⟨k, rfl⟩ : ∃ j, k = j + 1 := ⟨k - 1, by omega⟩
    rw [manyF] at h4
    exact Res.some (by rw [h4]; simp [appL_nil]) false
theorem lines_law {F : List (List UInt8)} {n : Nat} {l : List Tok} {bad bo : Bool} {ys : List Ln} (h : Res false bo (manyF F n ((partsF l gDia).filter (· ≠ []))) (chainL ys)) : Res bad (bad || (bo || decide (ys.length = 0))) (linesF F (n + 1) l) (chainL ys) := by
  rw [linesF]
  cases hm : manyF F n ((partsF l gDia).filter (· ≠ [])) with
  | none =>
    rw [hm] at h
    have := h.1
    simp at this
    subst this
    exact ⟨by simp, fun h => by simp at h⟩
  | some b =>
    rw [hm] at h
    have h1 := h.1
    simp at h1
    subst h1
    have h2 := h.2 rfl
    injection h2 with h2
    subst h2
    cases ys with
    | nil => exact ⟨by simp [chainL], fun h => by simp at h⟩
    | cons y r => exact ⟨by simp [chainL, Ln.cons], fun _ => rfl⟩
theorem Fresh.youngF {base base' : Nat → Prop} {w w1 : World} {P : World → Prop} (h : Fresh base w P) (hs : SoftF base w w1) (hb : ∀ k, base k → k < w.heap.size → base' k) : Fresh base' w1 P :=
  fun w' h' => h w' fun p v hp hc hv => h' p v (hb _ hp (World.block_lt_of_cell? w _ hc)) (hs p v hp hc hv) hv
theorem Cells.youngF {base base' : Nat → Prop} {w w1 : World} {t : Tr} {us : List (List Value)} (h : Cells base w t us) (hs : SoftF base w w1) (hb : ∀ k, base k → k < w.heap.size → base' k) : Cells base' w1 t us := by
  induction h with
  | nil => exact .nil
  | ex x vs ve vb vc r us i1 i2 i3 j1 j2 _ ih => exact .ex x vs ve vb vc r us (i1.youngF hs hb) (i2.youngF hs hb) i3 (j1.youngF hs hb) (j2.youngF hs hb) ih
  | ln y vc r us j _ ih => exact .ln y vc r us (j.youngF hs hb) ih
theorem SoftF.grown {base : Nat → Prop} {w w1 : World} {row : Option Nat} (hg : w.grownBy w1 row) (hb : ∀ k, base k → row ≠ some k) : SoftF base w w1 := fun p v hp hc _ => by
  rw [World.cell?_of_block (w := w) (hg.block p.block (World.block_lt_of_cell? w _ hc) (fun e => hb _ hp e.symm))]; exact hc
theorem own_fr {w w' : World} {rb base n sz : Nat} {T : TypeId} {v : Value} {xs : List Value} (h : w.ownsRow base T sz v n xs) (hf : Fr rb w w') (hb : rb < base) : w'.ownsRow base T sz v n xs := by
  obtain ⟨h1, h2 | ⟨g, cap, cur, e, h3, h4, r⟩⟩ := h
  · exact ⟨h1, .inl h2⟩
  · exact ⟨h1, .inr ⟨g, cap, cur, e, h3, (hf.block g (Array.getElem?_eq_some_iff.1 h4).1 (by omega)).trans h4, r⟩⟩
theorem len_nil {t : Tr} (h : t.len = 0) : t = .nil := by
  cases t with
  | nil => rfl
  | ex => simp [Tr.len] at h
  | ln => simp [Tr.len] at h
theorem Cells.own {Sb S2 : Nat → Prop} {w : World} {t : Tr} {us : List (List Value)} {base n sz : Nat} {T : TypeId} {v : Value} (h : Cells Sb w t us) (hs : ∀ k, Sb k → S2 k) (ho : w.ownsRow base T sz v n us.flatten) (hn : n = t.len) (hb : ∀ k, base ≤ k → S2 k) : Fresh S2 w (IsTs · v t) := by
  obtain ⟨h1, ⟨rfl, h2⟩ | ⟨g, cap, cur, rfl, h3, h4, h5, h6, h7, h8⟩⟩ := ho
  · have := len_nil (t := t) (by omega)
    subst this
    exact Fresh.nil _ _
  · refine (h.weak hs).row (hb g h3) h4 hn h5 (by unfold maxLen at h6; exact h6) (fun i u hu => ?_)
    rw [← h8, List.getElem?_take] at hu
    split at hu
    · simpa using hu
    · cases hu
/-- Ahead of each round. -/
def LinesR (F : List (List UInt8)) (n : Nat) (w1 : World) (ob : Nat) (fv : Value) (law0 : Option Tr) (P : List (List Tok)) (vo vi : Value) (wr : World) : Prop :=
  ∃ (k : Nat) (bo : Bool) (ys : List Ln) (us : List (List Value)), k ≤ P.length ∧ vi = .int .i64 (k : Nat) ∧ PR wr ob fv true bo ∧ Fr ob w1 wr ∧ wr.ownsRow w1.heap.size 93 3 vo ys.length us.flatten ∧ ys.length ≤ k ∧ Cells (fun b => w1.heap.size ≤ b ∧ vo.ownBlock ≠ some b) wr (chainL ys) us ∧ Hid (LinesSt F n law0 bo ys ((P.drop k).filter (· ≠ [])))
set_option maxRecDepth 100000 in
set_option maxHeartbeats 8000000 in
theorem lines_step (F : List (List UInt8)) (n : Nat) (hL : ∀ m, m ≤ n → LineC F m) : LinesC F (n + 1) := by
  intro w rb fv ins bad v l hg hfu
  obtain ⟨i0, hi, hz0, hz1, hz2⟩ := info_parts (show (Tryz.prog.info? 93).map (fun i => (i.zero, i.size, i.bytes)) = some (some (.agg #[.int .i64 0, .string ⟨#[]⟩, .slice none 0 0]), 3, 48) by kernel_rfl)
  have hlt := hg.pr.lt
  obtain ⟨a, c, rfl⟩ := toks_parts hg.tk
  obtain ⟨fa, fn, fc, rfl⟩ : ∃ a n c, fv = .slice a n c := by obtain ⟨a, c, e, -⟩ := hg.fs.parts; exact ⟨a, _, c, e⟩
  obtain ⟨law, hlaw⟩ : ∃ law, linesF F (n + 1) l = law := ⟨_, rfl⟩
  rw [hlaw]
  have Hlaw := hid hlaw
  clear hlaw
  have hA := fun o => (Below.refl _ w).alloc (Nat.le_refl _) o
  have hN0 := fun o => heap_alloc_new w o
  have hparts := fun V (hb : Below w.heap.size w V) => parts_rows _ l gDia _ rfl V (hg.tk.below hb) hg.le
  obtain ⟨p0, p1, p2, q0, q1, q2⟩ := hg.pr.cells
  go_enter Tryz.func86, Tryz.ntmps86
  go_wp2_with fail
  refine (hparts _ (hA _)).mono ?_
  rintro e w1 ⟨⟨pv, rfl, hrows⟩, b1⟩
  have hB1 := (hA _).trans (b1.mono (hA _).size)
  have hO1 : PR w1 w.heap.size (.slice fa fn fc) true false := (b1.block w.heap.size (by simp)).trans (hN0 _)
  have hpr1 := hg.pr.below hB1
  have hsz1 : w.heap.size < w1.heap.size := hO1.lt
  obtain ⟨pa, pc, rfl, -, -, hrow⟩ := hrows
  have hmem : ∀ p ∈ partsF l gDia, Dyck p ∧ p ⊆ l ∧ p.length ≤ l.length := fun p hp => ⟨parts_dyck wt_dia hg.dy p hp, part_sub hp, part_le hp⟩
  have hneed : need ((partsF l gDia).filter (· ≠ [])) ≤ l.length + 1 := by rw [← need_parts gDia l]; exact need_filter _
  have hplen : (partsF l gDia).length ≤ l.length + 1 := by
    rw [← need_parts gDia l]
    unfold need
    generalize partsF l gDia = Q
    induction Q with
    | nil => simp
    | cons q Q ih => simp only [List.map_cons, List.sum_cons, List.length_cons]; omega
  have hle := hg.le
  have hll := fun bo ys (h : Res false bo (manyF F n ((partsF l gDia).filter (· ≠ []))) (chainL ys)) => lines_law (bad := bad) h
  rw [Hlaw.out] at hll
  have hst := LinesSt.start F n ((partsF l gDia).filter (· ≠ [])) (by omega) (by omega)
  generalize hP : partsF l gDia = P at *
  clear hP hneed hparts hA hN0
  obtain ⟨law0, hl0⟩ : ∃ r, manyF F n (P.filter (· ≠ [])) = r := ⟨_, rfl⟩
  rw [hl0] at hll hst
  have Hll := hid hll
  have Hst := hid hst
  clear hl0 hll hst
  go_wp2_with fail
  go_loopw [7, 21] (fun vo vi wr => LinesR F n w1 w.heap.size (.slice fa fn fc) law0 P vo vi wr) (fun _ vi _ => P.length - (intOf vi).toNat)
  case atStart => exact ⟨0, false, [], [], Nat.zero_le _, rfl, hO1, Fr.refl _ _, World.ownsRow_nil _ _ _ _, Nat.zero_le _, .nil, Hst⟩
  case round =>
    obtain ⟨k, bo, ys, us, hk, rfl, hp, hf, hown, hys, hcl, hS⟩ := hrel
    obtain ⟨oa, oc, rfl⟩ := own_slice hown
    have hs1 := soft_of hO1 hp hf
    by_cases hlt2 : k < P.length
    · obtain ⟨p, hpk⟩ : ∃ p, P[k]? = some p := ⟨_, List.getElem?_eq_getElem hlt2⟩
      obtain ⟨gb, go, xv, rfl, gc, gt⟩ := hrow k p hpk
      replace gc := hs1 _ _ gc (IsToks.noBool gt)
      replace gt := toks_soft gt hs1
      obtain ⟨ta, tc, rfl⟩ := toks_parts gt
      have hki : (k : Int) < (P.length : Int) := by omega
      have hpm := hmem p (List.mem_of_getElem? hpk)
      have hdr : P.drop k = p :: P.drop (k + 1) := by
        obtain ⟨hl, e⟩ := List.getElem?_eq_some_iff.1 hpk
        rw [List.drop_eq_getElem_cons hl, e]
      rw [hdr, List.filter_cons] at hS
      clear hdr hpk
      cases p with
      | nil =>
        rw [if_neg (by simp)] at hS
        rw [List.length_nil] at gc
        go_wp2_with fail
        go_roundw
        case rel => exact ⟨k + 1, bo, ys, us, by omega, by go_num, hp, hf, hown, by omega, hcl, hS⟩
        case measure => simp [intOf]; omega
      | cons t0 p =>
        rw [if_pos (by simp)] at hS
        have hlp := hpm.2.2
        have hm : ∃ m, 8 * (t0 :: p).length + 4 ≤ m ∧ m ≤ n ∧ (bo = false → 8 * need ((t0 :: p) :: (P.drop (k + 1)).filter (· ≠ [])) ≤ m + 1 + 3 ∧ m + 1 ≤ n ∧ law0 = (manyF F (m + 1) ((t0 :: p) :: (P.drop (k + 1)).filter (· ≠ []))).map (appL ys)) ∧ (bo = true → law0 = none) := by
          rcases hS.out with ⟨rfl, h⟩ | ⟨rfl, k', h1, h2, h3, h4⟩
          · exact ⟨n, by omega, Nat.le_refl _, fun h => (by cases h), fun _ => h⟩
          · obtain ⟨j, rfl⟩ : ∃ j, k' = j + 1 := ⟨k' - 1, by omega⟩
            refine ⟨j, ?_, by omega, fun _ => ⟨h1, h3, h4⟩, fun h => (by cases h)⟩
            rw [need_cons] at h1; omega
        obtain ⟨m, hm1, hm2, hm3, hm4⟩ := hm
        have hsw := (Soft.of_below hB1).trans hs1
        have giv : Giv F wr w.heap.size (.slice fa fn fc) true bo (.slice ta (t0 :: p).length tc) (t0 :: p) := ⟨hp, Strs.soft hg.fs hsw, gt, hpm.1, hg.sm.sub hpm.2.1, by omega, hg.gy.soft hsw⟩
        have hcall := hL m hm2 wr w.heap.size _ bo _ _ giv hm1
        have Hm3 := hid hm3
        have Hm4 := hid hm4
        rw [List.length_cons] at gc hcall
        have hl1 : (0 : Int) < ((p.length + 1 : Nat) : Int) := by omega
        have hown1 := fun b e => hown.lt b e
        clear hm3 hm4 giv hS
        go_wp2_with fail
        refine hcall.mono ?_
        rintro e w4 ⟨bo2, yv, y, rfl, an, fy, rs⟩
        obtain ⟨vc, rfl, jc⟩ := fy.ln
        obtain ⟨ca, cc, rfl, -⟩ := jc.self.parts
        have hs4 := soft_of hp an.pr an.fr
        have hsz4 := an.fr.size
        have hown4 := own_fr hown an.fr hsz1
        have hcl4 := (hcl.soft hs4).snocL (jc.weak (base' := fun b => w1.heap.size ≤ b ∧ (Value.slice oa ys.length oc).ownBlock ≠ some b) (fun q hq => ⟨by unfold Up at hq; have := hf.size; omega, fun e => by unfold Up at hq; have := (hown1 q e).2; omega⟩))
        have hsa := fun o => Soft.alloc w4 o
        have hf4 := hf.trans an.fr
        have hp4 := an.pr
        have hSt := hid (LinesSt.step Hm3.out Hm4.out rs)
        have hz4 := hf4.size
        clear hcall hcl hown hp hf an fy jc gc gt
        go_wp2_with (at_builtin; go_must (refine wpList_append_own_at _ rfl _ _ 31 rfl w1.heap.size 93 i0 (.agg #[.int .i64 0, .string ⟨#[]⟩, .slice none 0 0]) 3 48 Tryz.underlying31 hi hz0 hz1 hz2 rfl (by decide) _ _ _ rfl (hown4.alloc _) ⟨w4.heap.size, 0, none⟩ 1 1 [.int .i64 y.kind, .string (bs y.name), .slice ca y.kids.len cc] rfl rfl (row_new w4 _ 93) (by simp [Value.oneCell']) (by simp [maxLen]; omega) (by omega) (by simp; omega) ?_); intro v' w5 hown' hgrow _ hat; obtain ⟨g', cap', rfl⟩ := ownsRow_succ hown')
        go_roundw
        case rel =>
          have hgr : ∀ q, (Value.slice oa ys.length oc).ownBlock = some q → w1.heap.size ≤ q := fun q e => (hown4.lt q e).1
          have hbA := (Below.refl _ w4).alloc (Nat.le_refl _) (.cells #[.int .i64 y.kind, .string (bs y.name), .slice ca y.kids.len cc] 93)
          have hfA := hf4.trans (Fr.of_below (rb := w.heap.size) hbA)
          have hpA := hp4.below hbA
          refine ⟨k + 1, bo2, ys ++ [y], us ++ [lnL y (.slice ca y.kids.len cc)], by omega, by go_num, ?_, ?_, ?_, by simp; omega, ?_, hSt⟩
          · exact (hgrow.block w.heap.size hpA.lt (fun e => by have := hgr _ e.symm; omega)).trans hpA
          · exact ⟨hgrow.os.trans hfA.os, hgrow.tape.trans hfA.tape, hgrow.output.trans hfA.output, Nat.le_trans hfA.size hgrow.size, fun q hq hne => (hgrow.block q (Nat.lt_of_lt_of_le hq hfA.size) (fun e => by have := hgr _ e.symm; omega)).trans (hfA.block q hq hne)⟩
          · have h := hown'
            simp only [List.flatten_append, List.flatten_cons, List.flatten_nil, List.append_nil, lnL, List.length_append, List.length_cons, List.length_nil] at h ⊢
            exact h
          · refine (hcl4.soft (hsa _)).youngF (SoftF.grown hgrow (fun q hq => hq.2)) (fun q hq hlq => ⟨hq.1, fun e => ?_⟩)
            rcases hat with h | h
            · rw [h] at e; exact hq.2 e
            · rw [h] at e; injection e with e; omega
        case measure => simp [intOf]; omega
    · have hke : k = P.length := by omega
      have hS2 := hS.out
      rw [List.drop_eq_nil_of_le (by omega), List.filter_nil] at hS2
      have hR := Hll.out bo ys hS2.done
      have hprw : PR wr rb (.slice fa fn fc) ins bad := (hf.block rb hpr1.lt (by omega)).trans hpr1
      have hFw : Fr rb w wr := ⟨hf.os.trans hB1.os, hf.tape.trans hB1.tape, hf.output.trans hB1.output, Nat.le_trans hB1.size hf.size, fun q hq hne => (hf.block q (Nat.lt_of_lt_of_le hq hB1.size) (by omega)).trans (hB1.block q hq)⟩
      have hfr := hcl.own (S2 := Up w.heap.size) (fun q hq => by unfold Up; have := hq.1; omega) hown (chainL_len ys).symm (fun q hq => by unfold Up; omega)
      obtain ⟨r0, r1, r2, u0, u1, u2⟩ := hprw.cells
      obtain ⟨s0, s1, s2, v0, v1, v2⟩ := hp.cells
      have hys0 : ((ys.length : Int) == 0) = decide (ys.length = 0) := by rw [Bool.eq_iff_iff]; simp
      obtain ⟨Z, hZ⟩ : ∃ b, decide (ys.length = 0) = b := ⟨_, rfl⟩
      rw [hZ] at hys0 hR
      have fin : ∀ C, C = (bad || (bo || Z)) → LinesA w (wr.setCell ⟨rb, 2, none⟩ (.bool C)) rb (.slice fa fn fc) ins bad law (.returned (.slice oa ys.length oc)) := fun C hC =>
        ⟨C, _, chainL ys, rfl, ⟨hprw.set C, hFw.set _⟩, hfr.soft (soft_of hprw (hprw.set C) ((Fr.refl rb wr).set _)), by rw [hC]; exact hR⟩
      have Fin := hid fin
      clear fin hR hS hS2 hfr hcl hown hZ hprw hFw hp hf
      cases bad <;> cases bo
      all_goals
        go_wp2_with fail
        refine bodyPost_ret (results_tmp rfl _ _ _) rfl ?_
        exact Fin.out _ (by simp)
end Go.Proofs.YthlingdlehdlhaaGreatDoor.Par
