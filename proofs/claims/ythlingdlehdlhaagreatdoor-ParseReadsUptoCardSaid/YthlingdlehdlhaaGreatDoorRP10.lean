/- The reference's reader: functions. -/
import Derived.Test.YthlingdlehdlhaaGreatDoorROps
import Derived.Deep.Cut
import Derived.StillTailTactics
namespace Go.Proofs.YthlingdlehdlhaaGreatDoor.Par
open Go.RowKit Go.Shelf
set_option linter.unusedVariables false
set_option linter.unusedSimpArgs false

theorem zeroF_fresh (base : Nat → Prop) (w : World) (k f g : Int) (nm : List UInt8) : Fresh base w (IsF · (.agg #[.int .i64 k, .int .i64 f, .int .i64 g, .string (bs nm), .slice none 0 0]) ⟨k, f, g, nm, .nil⟩) :=
  Fresh.mkFn (f := ⟨k, f, g, nm, .nil⟩) (Fresh.nil _ _)
theorem rfun_mk {w W wf : World} {R : Nat} {T : List Tok} {a b p : Nat} {law : Option (Fn × List Tok)} {xv : Value} {x : Fn} {ok : Bool} (hb : Below w.heap.size w W) (ho : Oth R W wf) (hR : w.heap.size ≤ R) (hf : Fresh (fun k => R < k) W (IsF · xv x)) (h : PlA T a b law x p ok) :
    RFunA w wf T a b law (.returned (.tuple #[xv, .int .i64 ((p : Nat) : Int), .bool ok])) :=
  ⟨xv, x, p, ok, rfl, ho.below hb hR, (hf.softF (ho.soft (fun h => Nat.lt_irrefl _ h))).weak (fun k hk => Nat.le_trans hR (Nat.le_of_lt hk)), h⟩
/-- Where the walk of a function stands. -/
structure RFS (w : World) (TB : Nat) (tx tok : Array Value) (V : World) : Prop where
  bl : Below w.heap.size w V
  row : V.heap[w.heap.size + 1]? = some (.cells #[.int .i64 0, .int .i64 0, .int .i64 0, .string ⟨#[]⟩, .slice none 0 0] 33)
  tok : V.heap[TB]? = some (.cells tok 48)
  box : V.heap[w.heap.size]? = some (.cells tx 80)
theorem RFS.go {w : World} {TB : Nat} {tx tok : Array Value} {V V' : World} (h : RFS w TB tx tok V) (hb : Below V.heap.size V V') : RFS w TB tx tok V' :=
  ⟨h.bl.trans (hb.mono h.bl.size), (hb.block _ (Array.getElem?_eq_some_iff.1 h.row).1).trans h.row, (hb.block _ (Array.getElem?_eq_some_iff.1 h.tok).1).trans h.tok, (hb.block _ (Array.getElem?_eq_some_iff.1 h.box).1).trans h.box⟩
section
variable {T : List Tok} {A : List Nat} {F : List (List UInt8)} {a b m : Nat} {t : Tok}
theorem rf_brace2 (hA : AtOK T A) (n : Nat) (ins : Bool) (hbm : b = m + 1) (hab : a < b) (hbT : b ≤ T.length) (ht : T[m]? = some t) (hd : Dyck (sg T a b)) (hg : isG t gRC = true) :
    ∃ o, A[m]? = some o ∧ a ≤ o ∧ o < m ∧ Dyck (sg T a o) ∧ Dyck (sg T (o + 1) m) ∧ functionF F (n + 1) ins (sg T a b) = match linesF F n (sg T (o + 1) m) with | none => none | some l => some (⟨7, 0, 0, [], l⟩, sg T a o) := by
  subst hbm
  obtain ⟨o, h1, h2, h3, h4, h5, h6, h7⟩ := shut_sg hA hd hab hbT (t := t) ht (wt_rc hg)
  exact ⟨o, h1, h2, h3, h4, h5, rf_brace F n ins hab hbT ht hg h6 h7⟩
def rtk (T : List Tok) (i : Nat) : Tok := (T[i]?).getD ⟨0, [], noArr⟩
theorem rtk_some {i : Nat} (h : i < T.length) : T[i]? = some (rtk T i) := by unfold rtk; rw [List.getElem?_eq_getElem h]; rfl
def c12F (T : List Tok) (a m : Nat) (t : Tok) : Bool := decide (a < m) && (decide (0 < binT (rtk T (m - 1))) && (isG t gSlash || isG t gBack))
def c17F (T : List Tok) (a m : Nat) (t : Tok) : Bool := decide (a + 1 < m) && (decide (0 < binT t) && isG (rtk T (m - 1)) gDot)
def c22F (t : Tok) : Bool := decide (t.kind = 3) && decide (0 < fnF t.txt)
theorem rf_rest2 (n : Nat) (ins : Bool) (hbm : b = m + 1) (hab : a < b) (hbT : b ≤ T.length) (ht : T[m]? = some t) (hf : isFun F t = false) (hd : isG t gDel = false) (hc : isG t gRC = false) :
    functionF F (n + 1) ins (sg T a b) = if c12F T a m t = true then some (⟨if isG t gSlash = true then 2 else 3, binT (rtk T (m - 1)), 0, [], .nil⟩, sg T a (m - 1))
      else if (c17F T a m t && isG (rtk T (m - 2)) gJot) = true then some (⟨4, binT t, 0, [], .nil⟩, sg T a (m - 2))
      else if (c17F T a m t && decide (0 < binT (rtk T (m - 2)))) = true then some (⟨5, binT (rtk T (m - 2)), binT t, [], .nil⟩, sg T a (m - 2))
      else if c22F t = true then some (⟨1, fnF t.txt, 0, [], .nil⟩, sg T a m) else none := by
  subst hbm
  rw [rf_rest F n ins hab hbT (t := t) ht hf hd hc]
  refine ite_congr (propext ?_) (fun _ => rfl) (fun _ => ite_congr (propext ?_) (fun _ => rfl) (fun _ => ite_congr (propext ?_) (fun _ => rfl) (fun _ => ite_congr (propext ?_) (fun _ => rfl) (fun _ => rfl))))
  · unfold c12F
    simp only [Bool.and_eq_true, Bool.or_eq_true, decide_eq_true_eq, Nat.add_lt_add_iff_right]
    rfl
  · unfold c17F
    simp only [Bool.and_eq_true, decide_eq_true_eq]
    constructor
    · rintro ⟨h1, h2, h3, h4⟩; exact ⟨⟨by omega, h2, h3⟩, h4⟩
    · rintro ⟨⟨h1, h2, h3⟩, h4⟩; exact ⟨by omega, h2, h3, h4⟩
  · unfold c17F
    simp only [Bool.and_eq_true, decide_eq_true_eq]
    constructor
    · rintro ⟨h1, h2, h3, h4⟩; exact ⟨⟨by omega, h2, h3⟩, h4⟩
    · rintro ⟨⟨h1, h2, h3⟩, h4⟩; exact ⟨by omega, h2, h3, h4⟩
  · unfold c22F
    simp only [Bool.and_eq_true, decide_eq_true_eq]
theorem tok_at {w : World} {tb o n c : Nat} (h : IsToks w (.slice (some ⟨tb, o, none⟩) n c) T) {i : Nat} {t : Tok} (hi : T[i]? = some t) : ∃ sa sc ea ec, TokAt w tb (o + i * 5) t (.slice sa t.val.shape.length sc) (.slice ea t.val.elems.length ec) := by
  obtain ⟨b, o', sa, sc, ea, ec, e, h1, -⟩ := tok_get h hi
  injection e with e
  injection e with e1 e2
  subst e1 e2
  exact ⟨sa, sc, ea, ec, h1⟩
theorem TokAt.below {w w' : World} {b o : Nat} {t : Tok} {vs ve : Value} (h : TokAt w b o t vs ve) (hb : Below w.heap.size w w') : TokAt w' b o t vs ve :=
  ⟨(hb.cell (World.block_lt_of_cell? w _ h.1)).trans h.1, (hb.cell (World.block_lt_of_cell? w _ h.2.1)).trans h.2.1, (hb.cell (World.block_lt_of_cell? w _ h.2.2.1)).trans h.2.2.1, (hb.cell (World.block_lt_of_cell? w _ h.2.2.2.1)).trans h.2.2.2.1, (hb.cell (World.block_lt_of_cell? w _ h.2.2.2.2)).trans h.2.2.2.2⟩
theorem pre2 (hbm : b = m + 1) (hab : a < b) (hbT : b ≤ T.length) (ht : T[m]? = some t) (hw : wt t = 0) (hd : Dyck (sg T a b)) : Dyck (sg T a m) := by
  subst hbm
  exact init_sg hd hab hbT ht hw
theorem pre_m1 (hbm : b = m + 1) (hab : a < b) (hbT : b ≤ T.length) (ht : T[m]? = some t) (hd : Dyck (sg T a b)) (h : c12F T a m t = true) : a < m ∧ 0 < binT (rtk T (m - 1)) ∧ Dyck (sg T a (m - 1)) := by
  unfold c12F at h
  simp only [Bool.and_eq_true, Bool.or_eq_true, decide_eq_true_eq] at h
  obtain ⟨h1, h2, h3⟩ := h
  have hw : wt t = 0 := h3.elim wt_slash wt_back
  exact ⟨h1, h2, init_sg (pre2 hbm hab hbT ht hw hd) h1 (by omega) (rtk_some (by omega)) (bin_wt h2)⟩
theorem pre_m2 (hbm : b = m + 1) (hab : a < b) (hbT : b ≤ T.length) (ht : T[m]? = some t) (hd : Dyck (sg T a b)) (h : c17F T a m t = true) (hv : wt (rtk T (m - 2)) = 0) : a + 1 < m ∧ 0 < binT t ∧ Dyck (sg T a (m - 2)) := by
  unfold c17F at h
  simp only [Bool.and_eq_true, decide_eq_true_eq] at h
  obtain ⟨h1, h2, h3⟩ := h
  have k1 := pre2 hbm hab hbT ht (bin_wt h2) hd
  have k2 := init_sg k1 (by omega) (by omega) (rtk_some (T := T) (i := m - 1) (by omega)) (wt_dot h3)
  have k3 := init_sg k2 (by omega) (by omega) (rtk_some (T := T) (i := m - 1 - 1) (by omega)) (by rw [show m - 1 - 1 = m - 2 by omega]; exact hv)
  rw [show m - 1 - 1 = m - 2 by omega] at k3
  exact ⟨h1, h2, k3⟩
end
set_option maxRecDepth 100000 in
set_option maxHeartbeats 8000000 in
theorem rfunc_step (T : List Tok) (A : List Nat) (F : List (List UInt8)) (hC : RCx T A F) (n : Nat) (hL : ∀ m, m ≤ n → RLinesC T A F m) : RFunC T A F (n + 1) := by
  intro w vx a b ins hx hlt hbT hd hfu
  obtain ⟨ta, tc, aa, ac, fa, fc, rfl, h1, h2, h3⟩ := id hx
  obtain ⟨law, hlaw⟩ : ∃ law, functionF F (n + 1) ins (sg T a b) = law := ⟨_, rfl⟩
  rw [hlaw]
  have Hlaw := hid hlaw
  clear hlaw h3
  obtain ⟨m, hbm⟩ : ∃ m, b = m + 1 := ⟨b - 1, by omega⟩
  obtain ⟨t, hm⟩ : ∃ t, T[m]? = some t := ⟨_, List.getElem?_eq_getElem (by omega)⟩
  have ht0 : T[b - 1]? = some t := by rw [hbm]; exact hm
  have hle := hC.le
  have hwb : IntKind.i64.wrap ((b : Int) - 1) = (m : Int) := by rw [show (b : Int) - 1 = (m : Int) by omega]; exact IntWalk.i64_in _ (by omega)
  have hiT : (m : Int) < (T.length : Int) := by omega
  have hiA : (m : Int) < (A.length : Int) := by rw [hC.ok.len]; omega
  obtain ⟨tb, o, sa, sc, ea, ec, rfl, ⟨g0, g1, g2, g3, g4⟩, i1, i2, i3⟩ := tok_get h1 hm
  obtain ⟨oo, hoo⟩ : ∃ k, A[m]? = some k := ⟨_, List.getElem?_eq_getElem (by rw [hC.ok.len]; omega)⟩
  obtain ⟨ab, ao, rfl, hcA⟩ := at_get h2 hoo
  have Hbm := hid hbm
  have Hm := hid hm
  have Hoo := hid hoo
  have Ht0 := hid ht0
  have HTk := hid h1
  have hmb : m < b := by omega
  clear hm hoo ht0 hbm i1 i2 i3 h1 h2
  obtain ⟨w1, hw1⟩ : ∃ W, (w.alloc (.cells #[.slice (some ⟨tb, o, none⟩) T.length tc, .slice (some ⟨ab, ao, none⟩) A.length ac, .slice fa F.length fc] 80)).alloc (.cells #[.int .i64 0, .int .i64 0, .int .i64 0, .string ⟨#[]⟩, .slice none 0 0] 33) = W := ⟨_, rfl⟩
  have hB1 : Below w.heap.size w w1 := by rw [← hw1]; exact ((Below.refl _ w).alloc (Nat.le_refl _) _).alloc (by simp) _
  have hX1 : w1.heap[w.heap.size]? = some (.cells #[.slice (some ⟨tb, o, none⟩) T.length tc, .slice (some ⟨ab, ao, none⟩) A.length ac, .slice fa F.length fc] 80) := by rw [← hw1]; exact (heap_alloc_old _ _ (by simp)).trans (heap_alloc_new w _)
  have hR1 : w1.heap[w.heap.size + 1]? = some (.cells #[.int .i64 0, .int .i64 0, .int .i64 0, .string ⟨#[]⟩, .slice none 0 0] 33) := by
    have := heap_alloc_new (w.alloc (.cells #[.slice (some ⟨tb, o, none⟩) T.length tc, .slice (some ⟨ab, ao, none⟩) A.length ac, .slice fa F.length fc] 80)) (.cells #[.int .i64 0, .int .i64 0, .int .i64 0, .string ⟨#[]⟩, .slice none 0 0] 33)
    rw [hw1] at this
    simpa using this
  have hsz1 : w.heap.size + 1 < w1.heap.size := (Array.getElem?_eq_some_iff.1 hR1).1
  go_enter Tryz.func88, Tryz.ntmps88
  go_upto_region 1 with fail
  try rw [hw1]
  clear hw1
  obtain ⟨X0, X1, X2⟩ := (ln_facts hX1).1
  have k0 := (hB1.cell (World.block_lt_of_cell? w _ g0)).trans g0
  have k1 := (hB1.cell (World.block_lt_of_cell? w _ g1)).trans g1
  have k2 := (hB1.cell (World.block_lt_of_cell? w _ g2)).trans g2
  have k3 := (hB1.cell (World.block_lt_of_cell? w _ g3)).trans g3
  have k4 := (hB1.cell (World.block_lt_of_cell? w _ g4)).trans g4
  have hT2 := heap_alloc_new w1 (.cells #[.int .i64 t.kind, .string (bs t.txt), .int .i64 t.val.kind, .slice sa t.val.shape.length sc, .slice ea t.val.elems.length ec] 48)
  have b2 := (Below.refl _ w1).alloc (Nat.le_refl _) (.cells #[.int .i64 t.kind, .string (bs t.txt), .int .i64 t.val.kind, .slice sa t.val.shape.length sc, .slice ea t.val.elems.length ec] 48)
  go_upto_region 3 with fail
  generalize w1.alloc (.cells #[.int .i64 t.kind, .string (bs t.txt), .int .i64 t.val.kind, .slice sa t.val.shape.length sc, .slice ea t.val.elems.length ec] 48) = w2 at *
  have s2 : RFS w w1.heap.size #[.slice (some ⟨tb, o, none⟩) T.length tc, .slice (some ⟨ab, ao, none⟩) A.length ac, .slice fa F.length fc] #[.int .i64 t.kind, .string (bs t.txt), .int .i64 t.val.kind, .slice sa t.val.shape.length sc, .slice ea t.val.elems.length ec] w2 := ⟨hB1.trans (b2.mono hB1.size), (b2.block _ hsz1).trans hR1, hT2, (b2.block _ (by omega)).trans hX1⟩
  have hTB : w.heap.size + 1 < w1.heap.size := hsz1
  clear k0 k1 k2 k3 k4 g0 g1 g2 g3 g4 X0 X1 X2 b2 hT2 hX1 hR1 hB1 hsz1
  generalize w1.heap.size = TB at *
  have hrt := fun V (hV : Below w.heap.size w V) => rtwo_any T A F m t Hm.out _ V (hx.below hV)
  have hrf := fun V (hV : Below w.heap.size w V) => rfun_any T A F m t Hm.out _ V (hx.below hV)
  obtain ⟨f, hfe⟩ : ∃ f, binT t = f := ⟨_, rfl⟩
  obtain ⟨N, hNe⟩ : ∃ n, isFun F t = n := ⟨_, rfl⟩
  obtain ⟨GD, hGD⟩ : ∃ g, isG t gDel = g := ⟨_, rfl⟩
  obtain ⟨GC, hGC⟩ : ∃ g, isG t gRC = g := ⟨_, rfl⟩
  obtain ⟨GS, hGS⟩ : ∃ g, isG t gSlash = g := ⟨_, rfl⟩
  obtain ⟨GB, hGB⟩ : ∃ g, isG t gBack = g := ⟨_, rfl⟩
  have hiD := fun V => ris_any t (.slice sa t.val.shape.length sc) (.slice ea t.val.elems.length ec) gDel _ rfl V
  have hiC := fun V => ris_any t (.slice sa t.val.shape.length sc) (.slice ea t.val.elems.length ec) gRC _ rfl V
  have hiS := fun V => ris_any t (.slice sa t.val.shape.length sc) (.slice ea t.val.elems.length ec) gSlash _ rfl V
  have hiB := fun V => ris_any t (.slice sa t.val.shape.length sc) (.slice ea t.val.elems.length ec) gBack _ rfl V
  rw [hfe] at hrt
  rw [hNe] at hrf
  rw [hGD] at hiD
  rw [hGC] at hiC
  rw [hGS] at hiS
  rw [hGB] at hiB
  have Hf := hid hfe
  have HN := hid hNe
  have HGD := hid hGD
  have HGC := hid hGC
  have HGS := hid hGS
  have HGB := hid hGB
  clear hfe hNe hGD hGC hGS hGB
  obtain ⟨X0, X1, X2⟩ := (ln_facts s2.box).1
  go_wp2_with fail
  refine (hrt _ s2.bl).mono ?_
  rintro e w3 ⟨rfl, b3⟩
  have s3 := s2.go b3
  clear X0 X1 X2 s2 b3
  obtain ⟨X0, X1, X2⟩ := (ln_facts s3.box).1
  go_wp2_with fail
  refine (hrf _ s3.bl).mono ?_
  rintro e w4 ⟨rfl, b4⟩
  have s4 := s3.go b4
  clear X0 X1 X2 s3 b4 hrt hrf
  obtain ⟨m0, m1, m2, m3, m4⟩ := (fn_facts s4.tok).1
  cases N with
  | true =>
    have hw : wt t = 0 := by
      have := HN.out
      unfold isFun at this
      simp only [Bool.and_eq_true, decide_eq_true_eq] at this
      exact wt_kind t (by omega)
    have hpl := hid (pla_one (law := law) Hbm.out hlt hbT Hm.out hw hd (by rw [← Hlaw.out]; exact rf_name F n ins hlt hbT Ht0.out HN.out))
    have hR := s4.row
    go_wp2_with (refine wpList_store_row rfl 33 _ _ rfl (w.heap.size + 1) _ rfl rfl 33 _ hR (by kernel_rfl) (by kernel_rfl) (by kernel_rfl) ?_; go_simp)
    refine bodyPost_ret (results_row_tmp2 rfl _ _ (w.heap.size + 1) _ _ _ _ rfl (setRow_heap w4 (w.heap.size + 1) _ #[.int .i64 6, .int .i64 0, .int .i64 0, .string (bs t.txt), .slice none 0 0] _ _ hR) Tryz.underlying33 rfl (by kernel_rfl)) rfl ?_
    exact rfun_mk s4.bl ((Oth.refl _ _).row _) (by omega) (zeroF_fresh _ _ 6 0 0 _) hpl.out
  | false =>
    go_wp2_with fail
    refine (hiD _).mono ?_
    rintro e w5 ⟨rfl, b5⟩
    have s5 := s4.go b5
    clear m0 m1 m2 m3 m4 s4 b5 hiD
    cases GD with
    | true =>
      have hpl := hid (pla_if (law := law) Hbm.out hlt hbT Hm.out (wt_del HGD.out) hd (by rw [← Hlaw.out]; exact rf_self F n ins hlt hbT Ht0.out HGD.out))
      have hR := s5.row
      go_wp2_with (refine wpList_store_row rfl 33 _ _ rfl (w.heap.size + 1) _ rfl rfl 33 _ hR (by kernel_rfl) (by kernel_rfl) (by kernel_rfl) ?_; go_simp)
      refine bodyPost_ret (results_row_tmp2 rfl _ _ (w.heap.size + 1) _ _ _ _ rfl (setRow_heap w5 (w.heap.size + 1) _ #[.int .i64 8, .int .i64 0, .int .i64 0, .string ⟨#[]⟩, .slice none 0 0] _ _ hR) Tryz.underlying33 rfl (by kernel_rfl)) rfl ?_
      exact rfun_mk s5.bl ((Oth.refl _ _).row _) (by omega) (zeroF_fresh _ _ 8 0 0 []) hpl.out
    | false =>
      obtain ⟨m0, m1, m2, m3, m4⟩ := (fn_facts s5.tok).1
      go_wp2_with fail
      refine (hiC _).mono ?_
      rintro e w6 ⟨rfl, b6⟩
      have s6 := s5.go b6
      clear m0 m1 m2 m3 m4 s5 b6 hiC
      obtain ⟨X0, X1, X2⟩ := (ln_facts s6.box).1
      cases GC with
      | true =>
        obtain ⟨o', ho0, ho1, ho2, ho3, ho4, hl6⟩ := rf_brace2 (F := F) hC.ok n ins Hbm.out hlt hbT Hm.out hd HGC.out
        rw [Hoo.out] at ho0
        obtain rfl := Option.some.inj ho0
        rw [Hlaw.out] at hl6
        have hwo : IntKind.i64.wrap ((oo : Int) + 1) = ((oo + 1 : Nat) : Int) := by rw [show (oo : Int) + 1 = ((oo + 1 : Nat) : Int) by omega]; exact IntWalk.i64_in _ (by omega)
        have hcall := hL n (Nat.le_refl _) w6 _ (oo + 1) m (hx.below s6.bl) (by omega) (by omega) ho4 (by omega)
        have hcA6 := (s6.bl.cell (World.block_lt_of_cell? w _ hcA)).trans hcA
        have Hl6 := hid hl6
        clear hl6 Hlaw ho0
        go_wp2_with fail
        refine hcall.mono ?_
        rintro e w7 ⟨xv, x, ok, rfl, b7, fx, la⟩
        obtain ⟨xa, xc, rfl, -⟩ := fx.self.parts
        have s7 := s6.go b7
        have hR := s7.row
        have hpl := hid (show PlA T a b law (⟨7, 0, 0, [], x⟩ : Fn) oo ok from by
          rcases la with ⟨rfl, h⟩ | ⟨rfl, h⟩
          · exact .inl ⟨rfl, by rw [Hl6.out, h]⟩
          · exact .inr ⟨rfl, by rw [Hl6.out, h], ho1, by omega, ho3⟩)
        have hs6 := (Array.getElem?_eq_some_iff.1 s6.row).1
        clear hcall la Hl6 X0 X1 X2 hcA6
        go_wp2_with (refine wpList_store_row rfl 33 _ _ rfl (w.heap.size + 1) _ rfl rfl 33 _ hR (by kernel_rfl) (by kernel_rfl) (by kernel_rfl) ?_; go_simp)
        refine bodyPost_ret (results_row_tmp2 rfl _ _ (w.heap.size + 1) _ _ _ _ rfl (setRow_heap w7 (w.heap.size + 1) _ #[.int .i64 7, .int .i64 0, .int .i64 0, .string ⟨#[]⟩, .slice xa x.len xc] _ _ hR) Tryz.underlying33 rfl (by kernel_rfl)) rfl ?_
        exact rfun_mk s7.bl ((Oth.refl _ _).row _) (by omega) (Fresh.mkFn (f := ⟨7, 0, 0, [], x⟩) (fx.weak (fun k hk => by unfold Up at hk; omega))) hpl.out
      | false =>
        have hl := rf_rest2 (F := F) n ins Hbm.out hlt hbT Hm.out HN.out HGD.out HGC.out
        rw [Hlaw.out] at hl
        have hf12 : c12F T a m t = (decide (a < m) && (decide (0 < binT (rtk T (m - 1))) && (GS || GB))) := by unfold c12F; rw [HGS.out, HGB.out]
        have hf17 : c17F T a m t = (decide (a + 1 < m) && (decide (0 < f) && isG (rtk T (m - 1)) gDot)) := by unfold c17F; rw [Hf.out]
        have hp1 := pre_m1 Hbm.out hlt hbT Hm.out hd
        have hp2 := pre_m2 Hbm.out hlt hbT Hm.out hd
        have hu := fun h => rtk_some (T := T) (i := m - 1) h
        have hv := fun h => rtk_some (T := T) (i := m - 2) h
        obtain ⟨u, hue⟩ : ∃ u, rtk T (m - 1) = u := ⟨_, rfl⟩
        obtain ⟨v, hve⟩ : ∃ u, rtk T (m - 2) = u := ⟨_, rfl⟩
        obtain ⟨C12, hc12⟩ : ∃ c, c12F T a m t = c := ⟨_, rfl⟩
        obtain ⟨C17, hc17⟩ : ∃ c, c17F T a m t = c := ⟨_, rfl⟩
        obtain ⟨C22, hc22⟩ : ∃ c, c22F t = c := ⟨_, rfl⟩
        rw [hc12, hc17, hc22, hue, hve, HGS.out, Hf.out] at hl
        rw [hc12, hue] at hf12 hp1
        rw [hc17, hue] at hf17
        rw [hc17, hve, Hf.out] at hp2
        rw [hue] at hu
        rw [hve] at hv
        have Hl := hid hl
        have H12 := hid hf12
        have H17 := hid hf17
        have H22 := hid hc22
        have Hu := hid hu
        have Hv := hid hv
        have Hp1 := hid hp1
        have Hp2 := hid hp2
        have hw1 : a < m → IntKind.i64.wrap ((m : Int) - 1) = ((m - 1 : Nat) : Int) := fun h => by rw [show (m : Int) - 1 = ((m - 1 : Nat) : Int) by omega]; exact IntWalk.i64_in _ (by omega)
        have hw2 : a + 1 < m → IntKind.i64.wrap ((m : Int) - 2) = ((m - 2 : Nat) : Int) := fun h => by rw [show (m : Int) - 2 = ((m - 2 : Nat) : Int) by omega]; exact IntWalk.i64_in _ (by omega)
        have Hw1 := hid hw1
        have Hw2 := hid hw2
        have hbu : ∀ V, Below w.heap.size w V → a < m → Calls Tryz.prog 134 #[.agg #[.slice (some ⟨tb, o, none⟩) T.length tc, .slice (some ⟨ab, ao, none⟩) A.length ac, .slice fa F.length fc], .int .i64 ((m - 1 : Nat) : Int)] V fun e w' => e = .returned (.int .i64 (binT u)) ∧ Below V.heap.size V w' := fun V hV h => rtwo_any T A F (m - 1) u (Hu.out (by omega)) _ V (hx.below hV)
        have hbv : ∀ V, Below w.heap.size w V → a + 1 < m → Calls Tryz.prog 134 #[.agg #[.slice (some ⟨tb, o, none⟩) T.length tc, .slice (some ⟨ab, ao, none⟩) A.length ac, .slice fa F.length fc], .int .i64 ((m - 2 : Nat) : Int)] V fun e w' => e = .returned (.int .i64 (binT v)) ∧ Below V.heap.size V w' := fun V hV h => rtwo_any T A F (m - 2) v (Hv.out (by omega)) _ V (hx.below hV)
        obtain ⟨bu, hbue⟩ : ∃ x, binT u = x := ⟨_, rfl⟩
        obtain ⟨bv, hbve⟩ : ∃ x, binT v = x := ⟨_, rfl⟩
        obtain ⟨GJ, hGJ⟩ : ∃ g, isG v gJot = g := ⟨_, rfl⟩
        obtain ⟨DT, hDT⟩ : ∃ g, isG u gDot = g := ⟨_, rfl⟩
        rw [hGJ] at Hl
        rw [hDT] at H17
        have HGJ := hid hGJ
        have HDT := hid hDT
        clear hGJ hDT
        rw [hbue] at hbu H12 Hl Hp1
        rw [hbve] at hbv Hl
        have Hbv := hid hbve
        clear hl hf12 hf17 hc12 hc17 hc22 hue hve hu hv hp1 hp2 hw1 hw2 hbue hbve Hlaw hL Hoo hcA
        have hwi : IntKind.i64.wrap ((a : Int) + 1) = ((a + 1 : Nat) : Int) := by rw [show (a : Int) + 1 = ((a + 1 : Nat) : Int) by omega]; exact IntWalk.i64_in _ (by omega)
        obtain ⟨m0, m1, m2, m3, m4⟩ := (fn_facts s6.tok).1
        go_upto_region 12 with fail
        go_cut [76] from 143 (fun s76 W => s76 = .bool C12 ∧ RFS w TB #[.slice (some ⟨tb, o, none⟩) T.length tc, .slice (some ⟨ab, ao, none⟩) A.length ac, .slice fa F.length fc] #[.int .i64 t.kind, .string (bs t.txt), .int .i64 t.val.kind, .slice sa t.val.shape.length sc, .slice ea t.val.elems.length ec] W)
        case first =>
          by_cases hx1 : a < m
          · have hxi : (a : Int) < (m : Int) := by omega
            have hw := Hw1.out hx1
            go_wp2_with fail
            refine (hbu _ s6.bl hx1).mono ?_
            rintro e w7 ⟨rfl, b7⟩
            have s7 := s6.go b7
            clear X0 X1 X2 m0 m1 m2 m3 m4
            obtain ⟨m0, m1, m2, m3, m4⟩ := (fn_facts s7.tok).1
            by_cases hy : 0 < bu
            · go_wp2_with fail
              refine (hiS _).mono ?_
              rintro e w8 ⟨rfl, b8⟩
              have s8 := s7.go b8
              clear m0 m1 m2 m3 m4
              cases GS with
              | true =>
                go_wp2_with fail
                go_meet
                case rel => exact ⟨by rw [H12.out]; simp [hx1, hy], s8⟩
              | false =>
                obtain ⟨m0, m1, m2, m3, m4⟩ := (fn_facts s8.tok).1
                go_wp2_with fail
                refine (hiB _).mono ?_
                rintro e w9 ⟨rfl, b9⟩
                have s9 := s8.go b9
                go_wp2_with fail
                go_meet
                case rel => exact ⟨by rw [H12.out]; simp [hx1, hy], s9⟩
            · go_wp2_with fail
              go_meet
              case rel => exact ⟨by rw [H12.out, decide_eq_false (show ¬ 0 < bu by omega)]; simp, s7⟩
          · have hxi : ¬ (a : Int) < (m : Int) := by omega
            go_wp2_with fail
            go_meet
            case rel => exact ⟨by rw [H12.out]; simp [hx1], s6⟩
        case rest =>
          obtain ⟨rfl, st0⟩ := hcut
          clear s6 X0 X1 X2 m0 m1 m2 m3 m4
          cases C12 with
          | true =>
            obtain ⟨hx1, hyb, hdy⟩ := Hp1.out rfl
            have hl := Hl.out.trans (if_pos rfl)
            have hw := Hw1.out hx1
            have h12 := H12.out
            obtain ⟨m0, m1, m2, m3, m4⟩ := (fn_facts st0.tok).1
            have hpl : ∀ k : Int, (if GS = true then (2 : Int) else 3) = k → PlA T a b law (⟨k, bu, 0, [], .nil⟩ : Fn) (m - 1) true := fun k hk => .inr ⟨rfl, by rw [hl, hk], by omega, by omega, hdy⟩
            have Hpl := hid hpl
            have HE := hid (show GB = true → GS = false from fun h => by rw [← HGS.out]; exact gl_other (s := gBack) (by rw [HGB.out]; exact h) (by decide))
            have HE2 := hid (show GB = false → GS = true from fun h => by rw [h] at h12; simpa [hx1, hyb] using h12)
            clear hl h12 hpl
            go_upto_region 14 with fail
            go_wp2_with fail
            refine (hiB _).mono ?_
            rintro e w8 ⟨rfl, b8⟩
            have s8 := st0.go b8
            obtain ⟨X0, X1, X2⟩ := (ln_facts s8.box).1
            clear m0 m1 m2 m3 m4
            cases GB with
            | true =>
              have hpl := hid (Hpl.out 3 (by rw [HE.out rfl]; rfl))
              go_wp2_with fail
              refine (hbu _ s8.bl hx1).mono ?_
              rintro e w9 ⟨rfl, b9⟩
              have s9 := s8.go b9
              have hR := s9.row
              go_wp2_with (refine wpList_store_row rfl 33 _ _ rfl (w.heap.size + 1) _ rfl rfl 33 _ hR (by kernel_rfl) (by kernel_rfl) (by kernel_rfl) ?_; go_simp)
              refine bodyPost_ret (results_row_tmp2 rfl _ _ (w.heap.size + 1) _ _ _ _ rfl (setRow_heap w9 (w.heap.size + 1) _ #[.int .i64 3, .int .i64 bu, .int .i64 0, .string ⟨#[]⟩, .slice none 0 0] _ _ hR) Tryz.underlying33 rfl (by kernel_rfl)) rfl ?_
              exact rfun_mk s9.bl ((Oth.refl _ _).row _) (by omega) (zeroF_fresh _ _ 3 bu 0 []) hpl.out
            | false =>
              have hpl := hid (Hpl.out 2 (by rw [HE2.out rfl]; rfl))
              go_wp2_with fail
              refine (hbu _ s8.bl hx1).mono ?_
              rintro e w9 ⟨rfl, b9⟩
              have s9 := s8.go b9
              have hR := s9.row
              go_wp2_with (refine wpList_store_row rfl 33 _ _ rfl (w.heap.size + 1) _ rfl rfl 33 _ hR (by kernel_rfl) (by kernel_rfl) (by kernel_rfl) ?_; go_simp)
              refine bodyPost_ret (results_row_tmp2 rfl _ _ (w.heap.size + 1) _ _ _ _ rfl (setRow_heap w9 (w.heap.size + 1) _ #[.int .i64 2, .int .i64 bu, .int .i64 0, .string ⟨#[]⟩, .slice none 0 0] _ _ hR) Tryz.underlying33 rfl (by kernel_rfl)) rfl ?_
              exact rfun_mk s9.bl ((Oth.refl _ _).row _) (by omega) (zeroF_fresh _ _ 2 bu 0 []) hpl.out
          | false =>
            have hl1 := hid (Hl.out.trans (if_neg (by simp)))
            clear Hl Hp1 H12
            obtain ⟨X0, X1, X2⟩ := (ln_facts st0.box).1
            go_upto_region 17 with fail
            go_cut [103] from 143 (fun s103 W => s103 = .bool C17 ∧ RFS w TB #[.slice (some ⟨tb, o, none⟩) T.length tc, .slice (some ⟨ab, ao, none⟩) A.length ac, .slice fa F.length fc] #[.int .i64 t.kind, .string (bs t.txt), .int .i64 t.val.kind, .slice sa t.val.shape.length sc, .slice ea t.val.elems.length ec] W)
            case first =>
              by_cases hx2 : a + 1 < m
              · have hxi : ((a + 1 : Nat) : Int) < (m : Int) := by omega
                have hxi2 : (a : Int) + 1 < (m : Int) := by omega
                have hw := Hw1.out (by omega)
                by_cases hy : 0 < f
                · obtain ⟨ua, uc, ue, uec, hTu⟩ := tok_at HTk.out (Hu.out (by omega))
                  obtain ⟨u0, u1, u2, u3, u4⟩ := hTu.below st0.bl
                  have hui : ((m - 1 : Nat) : Int) < (T.length : Int) := by omega
                  have hiDot := ris_any u (.slice ua u.val.shape.length uc) (.slice ue u.val.elems.length uec) gDot _ rfl wc
                  rw [HDT.out] at hiDot
                  go_wp2_with fail
                  refine hiDot.mono ?_
                  rintro e w8 ⟨rfl, b8⟩
                  have s8 := st0.go b8
                  go_wp2_with fail
                  go_meet
                  case rel => exact ⟨by rw [H17.out, decide_eq_true hx2, decide_eq_true hy]; simp, s8⟩
                · go_wp2_with fail
                  go_meet
                  case rel => exact ⟨by rw [H17.out, decide_eq_false (show ¬ 0 < f by omega)]; simp, st0⟩
              · have hxi : ¬ ((a + 1 : Nat) : Int) < (m : Int) := by omega
                have hxi2 : ¬ (a : Int) + 1 < (m : Int) := by omega
                go_wp2_with fail
                go_meet
                case rel => exact ⟨by rw [H17.out, decide_eq_false hx2]; simp, st0⟩
            case rest =>
              obtain ⟨rfl, sd⟩ := hcut
              clear st0 X0 X1 X2
              cases C17 with
              | true =>
                have h17 := H17.out
                have hx2 : a + 1 < m := by
                  rcases Nat.lt_or_ge (a + 1) m with h | h
                  · exact h
                  · rw [decide_eq_false (by omega)] at h17; cases h17
                have hw := Hw2.out hx2
                obtain ⟨va, vc, ve, vec, hTv⟩ := tok_at HTk.out (Hv.out (by omega))
                obtain ⟨u0, u1, u2, u3, u4⟩ := hTv.below sd.bl
                have hui : ((m - 2 : Nat) : Int) < (T.length : Int) := by omega
                have hiJ := ris_any v (.slice va v.val.shape.length vc) (.slice ve v.val.elems.length vec) gJot _ rfl wc
                rw [HGJ.out] at hiJ
                obtain ⟨X0, X1, X2⟩ := (ln_facts sd.box).1
                clear h17
                go_wp2_with fail
                refine hiJ.mono ?_
                rintro e w8 ⟨rfl, b8⟩
                have s8 := sd.go b8
                clear X0 X1 X2 u0 u1 u2 u3 u4 hiJ
                cases GJ with
                | true =>
                  obtain ⟨-, -, hdy⟩ := Hp2.out (by trivial) (wt_jot HGJ.out)
                  have hpl := hid (show PlA T a b law (⟨4, f, 0, [], .nil⟩ : Fn) (m - 2) true from .inr ⟨rfl, hl1.out.trans (if_pos (by simp)), by omega, by omega, hdy⟩)
                  have hR := s8.row
                  go_wp2_with (refine wpList_store_row rfl 33 _ _ rfl (w.heap.size + 1) _ rfl rfl 33 _ hR (by kernel_rfl) (by kernel_rfl) (by kernel_rfl) ?_; go_simp)
                  refine bodyPost_ret (results_row_tmp2 rfl _ _ (w.heap.size + 1) _ _ _ _ rfl (setRow_heap w8 (w.heap.size + 1) _ #[.int .i64 4, .int .i64 f, .int .i64 0, .string ⟨#[]⟩, .slice none 0 0] _ _ hR) Tryz.underlying33 rfl (by kernel_rfl)) rfl ?_
                  exact rfun_mk s8.bl ((Oth.refl _ _).row _) (by omega) (zeroF_fresh _ _ 4 f 0 []) hpl.out
                | false =>
                  have hl2 := hid (hl1.out.trans (if_neg (by simp)))
                  obtain ⟨X0, X1, X2⟩ := (ln_facts s8.box).1
                  go_wp2_with fail
                  refine (hbv _ s8.bl hx2).mono ?_
                  rintro e w9 ⟨rfl, b9⟩
                  have s9 := s8.go b9
                  clear X0 X1 X2
                  by_cases hy : 0 < bv
                  · obtain ⟨-, -, hdy⟩ := Hp2.out (by trivial) (bin_wt (by rw [Hbv.out]; exact hy))
                    have hpl := hid (show PlA T a b law (⟨5, bv, f, [], .nil⟩ : Fn) (m - 2) true from .inr ⟨rfl, hl2.out.trans (if_pos (by simp [hy])), by omega, by omega, hdy⟩)
                    obtain ⟨X0, X1, X2⟩ := (ln_facts s9.box).1
                    go_wp2_with fail
                    refine (hbv _ s9.bl hx2).mono ?_
                    rintro e wx ⟨rfl, bx⟩
                    have sx := s9.go bx
                    have hR := sx.row
                    go_wp2_with (refine wpList_store_row rfl 33 _ _ rfl (w.heap.size + 1) _ rfl rfl 33 _ hR (by kernel_rfl) (by kernel_rfl) (by kernel_rfl) ?_; go_simp)
                    refine bodyPost_ret (results_row_tmp2 rfl _ _ (w.heap.size + 1) _ _ _ _ rfl (setRow_heap wx (w.heap.size + 1) _ #[.int .i64 5, .int .i64 bv, .int .i64 f, .string ⟨#[]⟩, .slice none 0 0] _ _ hR) Tryz.underlying33 rfl (by kernel_rfl)) rfl ?_
                    exact rfun_mk sx.bl ((Oth.refl _ _).row _) (by omega) (zeroF_fresh _ _ 5 bv f []) hpl.out
                  · have hT := hid (hl2.out.trans (if_neg (by rw [decide_eq_false hy]; simp)))
                    have st0 := s9
                    clear hl2 hl1
                    obtain ⟨m0, m1, m2, m3, m4⟩ := (fn_facts st0.tok).1
                    have hfn := fun V => rfn_any t.txt V
                    obtain ⟨fv, hfv⟩ : ∃ x, fnF t.txt = x := ⟨_, rfl⟩
                    rw [hfv] at hfn
                    by_cases q3 : t.kind = 3
                    · have t3 : (t.kind == 3) = true := by simp [q3]
                      by_cases hy : 0 < fv
                      · have hc : C22 = true := by rw [← H22.out]; unfold c22F; rw [hfv, decide_eq_true q3, decide_eq_true hy]; rfl
                        have hpl := hid (pla_one (law := law) Hbm.out hlt hbT Hm.out (fn_wt (by rw [hfv]; exact hy)) hd (show law = some ((⟨1, fv, 0, [], .nil⟩ : Fn), sg T a (b - 1)) from by rw [hT.out, if_pos hc, hfv, Hbm.out]; rfl))
                        clear hfv hc hT
                        go_wp2_with fail
                        refine (hfn _).mono ?_
                        rintro e w8 ⟨rfl, b8⟩
                        have s8 := st0.go b8
                        clear m0 m1 m2 m3 m4
                        obtain ⟨m0, m1, m2, m3, m4⟩ := (fn_facts s8.tok).1
                        go_wp2_with fail
                        refine (hfn _).mono ?_
                        rintro e w9 ⟨rfl, b9⟩
                        have s9 := s8.go b9
                        have hR := s9.row
                        go_wp2_with (refine wpList_store_row rfl 33 _ _ rfl (w.heap.size + 1) _ rfl rfl 33 _ hR (by kernel_rfl) (by kernel_rfl) (by kernel_rfl) ?_; go_simp)
                        refine bodyPost_ret (results_row_tmp2 rfl _ _ (w.heap.size + 1) _ _ _ _ rfl (setRow_heap w9 (w.heap.size + 1) _ #[.int .i64 1, .int .i64 fv, .int .i64 0, .string ⟨#[]⟩, .slice none 0 0] _ _ hR) Tryz.underlying33 rfl (by kernel_rfl)) rfl ?_
                        exact rfun_mk s9.bl ((Oth.refl _ _).row _) (by omega) (zeroF_fresh _ _ 1 fv 0 []) hpl.out
                      · have hc : C22 = false := by rw [← H22.out]; unfold c22F; rw [hfv, decide_eq_false hy, Bool.and_false]
                        have hn := hid (show law = none from by rw [hT.out, if_neg (by rw [hc]; simp)])
                        clear hfv hc hT
                        go_wp2_with fail
                        refine (hfn _).mono ?_
                        rintro e w8 ⟨rfl, b8⟩
                        have s8 := st0.go b8
                        have hR := s8.row
                        clear m0 m1 m2 m3 m4
                        go_wp2_with (refine wpList_store_row rfl 33 _ _ rfl (w.heap.size + 1) _ rfl rfl 33 _ hR (by kernel_rfl) (by kernel_rfl) (by kernel_rfl) ?_; go_simp)
                        refine bodyPost_ret (results_row_tmp2 rfl _ _ (w.heap.size + 1) _ _ _ _ rfl (setRow_heap w8 (w.heap.size + 1) _ #[.int .i64 0, .int .i64 0, .int .i64 0, .string ⟨#[]⟩, .slice none 0 0] _ _ hR) Tryz.underlying33 rfl (by kernel_rfl)) rfl ?_
                        exact rfun_mk s8.bl ((Oth.refl _ _).row _) (by omega) (zeroF_fresh _ _ 0 0 0 []) (p := 0) (.inl ⟨rfl, hn.out⟩)
                    · have t3 : (t.kind == 3) = false := by simpa using q3
                      have hc : C22 = false := by rw [← H22.out]; unfold c22F; rw [decide_eq_false q3, Bool.false_and]
                      have hn := hid (show law = none from by rw [hT.out, if_neg (by rw [hc]; simp)])
                      have hR := st0.row
                      clear hfv hc hT
                      go_wp2_with (refine wpList_store_row rfl 33 _ _ rfl (w.heap.size + 1) _ rfl rfl 33 _ hR (by kernel_rfl) (by kernel_rfl) (by kernel_rfl) ?_; go_simp)
                      refine bodyPost_ret (results_row_tmp2 rfl _ _ (w.heap.size + 1) _ _ _ _ rfl (setRow_heap w9 (w.heap.size + 1) _ #[.int .i64 0, .int .i64 0, .int .i64 0, .string ⟨#[]⟩, .slice none 0 0] _ _ hR) Tryz.underlying33 rfl (by kernel_rfl)) rfl ?_
                      exact rfun_mk st0.bl ((Oth.refl _ _).row _) (by omega) (zeroF_fresh _ _ 0 0 0 []) (p := 0) (.inl ⟨rfl, hn.out⟩)
              | false =>
                have hT := hid ((hl1.out.trans (if_neg (by simp))).trans (if_neg (by simp)))
                have st0 := sd
                clear hl1
                obtain ⟨m0, m1, m2, m3, m4⟩ := (fn_facts st0.tok).1
                have hfn := fun V => rfn_any t.txt V
                obtain ⟨fv, hfv⟩ : ∃ x, fnF t.txt = x := ⟨_, rfl⟩
                rw [hfv] at hfn
                by_cases q3 : t.kind = 3
                · have t3 : (t.kind == 3) = true := by simp [q3]
                  by_cases hy : 0 < fv
                  · have hc : C22 = true := by rw [← H22.out]; unfold c22F; rw [hfv, decide_eq_true q3, decide_eq_true hy]; rfl
                    have hpl := hid (pla_one (law := law) Hbm.out hlt hbT Hm.out (fn_wt (by rw [hfv]; exact hy)) hd (show law = some ((⟨1, fv, 0, [], .nil⟩ : Fn), sg T a (b - 1)) from by rw [hT.out, if_pos hc, hfv, Hbm.out]; rfl))
                    clear hfv hc hT
                    go_wp2_with fail
                    refine (hfn _).mono ?_
                    rintro e w8 ⟨rfl, b8⟩
                    have s8 := st0.go b8
                    clear m0 m1 m2 m3 m4
                    obtain ⟨m0, m1, m2, m3, m4⟩ := (fn_facts s8.tok).1
                    go_wp2_with fail
                    refine (hfn _).mono ?_
                    rintro e w9 ⟨rfl, b9⟩
                    have s9 := s8.go b9
                    have hR := s9.row
                    go_wp2_with (refine wpList_store_row rfl 33 _ _ rfl (w.heap.size + 1) _ rfl rfl 33 _ hR (by kernel_rfl) (by kernel_rfl) (by kernel_rfl) ?_; go_simp)
                    refine bodyPost_ret (results_row_tmp2 rfl _ _ (w.heap.size + 1) _ _ _ _ rfl (setRow_heap w9 (w.heap.size + 1) _ #[.int .i64 1, .int .i64 fv, .int .i64 0, .string ⟨#[]⟩, .slice none 0 0] _ _ hR) Tryz.underlying33 rfl (by kernel_rfl)) rfl ?_
                    exact rfun_mk s9.bl ((Oth.refl _ _).row _) (by omega) (zeroF_fresh _ _ 1 fv 0 []) hpl.out
                  · have hc : C22 = false := by rw [← H22.out]; unfold c22F; rw [hfv, decide_eq_false hy, Bool.and_false]
                    have hn := hid (show law = none from by rw [hT.out, if_neg (by rw [hc]; simp)])
                    clear hfv hc hT
                    go_wp2_with fail
                    refine (hfn _).mono ?_
                    rintro e w8 ⟨rfl, b8⟩
                    have s8 := st0.go b8
                    have hR := s8.row
                    clear m0 m1 m2 m3 m4
                    go_wp2_with (refine wpList_store_row rfl 33 _ _ rfl (w.heap.size + 1) _ rfl rfl 33 _ hR (by kernel_rfl) (by kernel_rfl) (by kernel_rfl) ?_; go_simp)
                    refine bodyPost_ret (results_row_tmp2 rfl _ _ (w.heap.size + 1) _ _ _ _ rfl (setRow_heap w8 (w.heap.size + 1) _ #[.int .i64 0, .int .i64 0, .int .i64 0, .string ⟨#[]⟩, .slice none 0 0] _ _ hR) Tryz.underlying33 rfl (by kernel_rfl)) rfl ?_
                    exact rfun_mk s8.bl ((Oth.refl _ _).row _) (by omega) (zeroF_fresh _ _ 0 0 0 []) (p := 0) (.inl ⟨rfl, hn.out⟩)
                · have t3 : (t.kind == 3) = false := by simpa using q3
                  have hc : C22 = false := by rw [← H22.out]; unfold c22F; rw [decide_eq_false q3, Bool.false_and]
                  have hn := hid (show law = none from by rw [hT.out, if_neg (by rw [hc]; simp)])
                  have hR := st0.row
                  clear hfv hc hT
                  go_wp2_with (refine wpList_store_row rfl 33 _ _ rfl (w.heap.size + 1) _ rfl rfl 33 _ hR (by kernel_rfl) (by kernel_rfl) (by kernel_rfl) ?_; go_simp)
                  refine bodyPost_ret (results_row_tmp2 rfl _ _ (w.heap.size + 1) _ _ _ _ rfl (setRow_heap wc (w.heap.size + 1) _ #[.int .i64 0, .int .i64 0, .int .i64 0, .string ⟨#[]⟩, .slice none 0 0] _ _ hR) Tryz.underlying33 rfl (by kernel_rfl)) rfl ?_
                  exact rfun_mk st0.bl ((Oth.refl _ _).row _) (by omega) (zeroF_fresh _ _ 0 0 0 []) (p := 0) (.inl ⟨rfl, hn.out⟩)
end Go.Proofs.YthlingdlehdlhaaGreatDoor.Par
