/- The reference: all readings; a statement by places.
   The reference's Statement. -/
import Derived.Test.YthlingdlehdlhaaGreatDoorRPairs
import Derived.Test.YthlingdlehdlhaaGreatDoorROps
import Derived.Test.YthlingdlehdlhaaGreatDoorRP10
import Derived.Test.YthlingdlehdlhaaGreatDoorRP11
import Derived.Test.YthlingdlehdlhaaGreatDoorRLine
import Derived.Test.YthlingdlehdlhaaGreatDoorPTrees
import Derived.Deep.Cut
import Derived.StillTailTactics
import Derived.Maps.AppendAt
namespace Go.Proofs.YthlingdlehdlhaaGreatDoor.Par
open Go.RowKit Go.Shelf
set_option linter.unusedVariables false
set_option linter.unusedSimpArgs false

/-- All readings of the reference. -/
theorem rall_any (T : List Tok) (A : List Nat) (F : List (List UInt8)) (hC : RCx T A F) : ∀ n m, m ≤ n → ROperC T A F m ∧ RFunC T A F m ∧ RExprC T A F m ∧ RLineC T A F m ∧ RLinesC T A F m := by
  intro n
  induction n with
  | zero =>
    intro m hm
    obtain rfl : m = 0 := by omega
    exact ⟨fun w vx a b ins hx hb hd hf => by omega, fun w vx a b ins hx hab hb hd hf => by omega, fun w vx a b ins hx hab hb hd hf => by omega, fun w vx a b hx hab hb hd hf => by omega, fun w vx a b hx hab hb hd hf => by omega⟩
  | succ n ih =>
    intro m hm
    rcases Nat.lt_or_ge m (n + 1) with h | h
    · exact ih m (by omega)
    · obtain rfl : m = n + 1 := by omega
      exact ⟨roper_step T A F hC n (fun m h => (ih m h).2.2.1) (fun m h => (ih m h).1), rfunc_step T A F hC n (fun m h => (ih m h).2.2.2.2), rexpr_step T A F hC n (fun m h => (ih m h).1) (fun m h => (ih m h).2.1), rline_step T A F hC n (fun m h => (ih m h).2.2.1), rlinesP_step T A F hC n (fun m h => (ih m h).2.2.2.1)⟩
theorem wt_isClose {t : Tok} (h : wt t = 1) : isClose t = true := by
  unfold wt at h
  cases hc : isClose t with
  | true => rfl
  | false =>
    rw [hc] at h
    simp at h
    split at h <;> omega
/-- Is what is given a name a function in braces? By places. -/
theorem brace_sg {T : List Tok} {A : List Nat} (hA : AtOK T A) (h3 : 3 < T.length) (hd : Dyck (sg T 2 T.length)) {u t : Tok} (hu : T[2]? = some u) (ht : T[T.length - 1]? = some t) {c : Nat} (hc : A[2]? = some c) (hgt : ∀ t ∈ T, Good t) :
    (isG u gLC = true ∧ c = T.length - 1) ↔ (isG t gRC = true ∧ openedF (sg T 2 T.length) = 0) := by
  constructor
  · rintro ⟨h1, rfl⟩
    have hw : wt u = -1 := by rw [wt_isG h1]; decide
    obtain ⟨c', v, q1, q2, q3, q4, q5, q6⟩ := hA.opens 2 u hu hw
    rw [hc] at q1
    obtain rfl := Option.some.inj q1
    rw [ht] at q3
    obtain rfl := Option.some.inj q3
    have ho := opened_sg hd (by omega) (Nat.le_refl _) ht q4 (by omega) hu hw q6
    refine ⟨?_, by have := ho.2; omega⟩
    have hb : brk u = 2 := by
      have := (brk3 u 2 (by omega)).1
      rw [show isG u (oG 2) = true from h1] at this
      have h := (Bool.and_eq_true _ _ ▸ this.symm : _ ∧ _).1
      exact of_decide_eq_true h
    have := (brk3 t 2 (by omega)).2
    rw [show cG 2 = gRC from rfl] at this
    rw [this, decide_eq_true (by rw [q5, hb]; rfl), Bool.true_and]
    exact wt_isClose q4
  · rintro ⟨h1, h2⟩
    have hw := wt_rc h1
    obtain ⟨o, v, q1, q2, q3, q4, q5, q6⟩ := hA.close _ t ht hw
    have ho := opened_sg hd (by omega) (Nat.le_refl _) ht hw q2 q3 q4 q6
    have ho2 : o = 2 := by have := ho.1; have := ho.2; omega
    subst ho2
    rw [hu] at q3
    obtain rfl := Option.some.inj q3
    obtain ⟨c', v', p1, p2, p3, p4, p5, p6⟩ := hA.opens 2 u hu q4
    rw [hc] at p1
    obtain rfl := Option.some.inj p1
    have hcl := (List.getElem?_eq_some_iff.1 p3).1
    refine ⟨?_, ?_⟩
    · have hb : brk t = 2 := by
        have := (brk3 t 2 (by omega)).2
        rw [show isG t (cG 2) = true from h1] at this
        have h := (Bool.and_eq_true _ _ ▸ this.symm : _ ∧ _).1
        exact of_decide_eq_true h
      have := (brk3 u 2 (by omega)).1
      rw [show oG 2 = gLC from rfl] at this
      rw [this, decide_eq_true (by rw [q5, hb]; rfl), Bool.true_and]
      exact (wt_open q4).2
    · rcases Nat.lt_or_ge c (T.length - 1) with h | h
      · exfalso
        have e1 := S_sg_app (T := T) (a := 2 + 1) (b := c) (c := T.length - 1) (by omega) (by omega)
        have e2 := S_sg_cons p3 h
        have e3 := dyck_suf q6 (show 2 + 1 ≤ c + 1 by omega)
        rw [q6.1, p6.1] at e1
        omega
      · omega
/-- What a statement is, by places. -/
theorem stmt_none {F : List (List UInt8)} {T : List Tok} (h : setF T = none) : stmtF F T = (exprF F (fuel T) false T).map fun x => ⟨1, [], x, .nil⟩ := by
  unfold stmtF; rw [h]
theorem stmt_fun {F : List (List UInt8)} {T : List Tok} {s : List UInt8} (h : setF T = some (s, sg T 2 T.length)) (h3 : 3 < T.length) {t : Tok} (ht : T[T.length - 1]? = some t) (h1 : isG t gRC = true) (h2 : openedF (sg T 2 T.length) = 0) :
    stmtF F T = (linesF (F ++ [s]) (fuel T) (sg T 3 (T.length - 1))).map fun b => ⟨3, s, noEx, b⟩ := by
  unfold stmtF
  rw [h]
  simp only
  rw [sg_last (by omega) (Nat.le_refl _), ht]
  simp only
  rw [if_pos ⟨by rw [sg_len (Nat.le_refl _)]; omega, h1, h2⟩, sg_init (by omega) (Nat.le_refl _), sg_drop]
theorem stmt_set {F : List (List UInt8)} {T : List Tok} {s : List UInt8} (h : setF T = some (s, sg T 2 T.length)) (hno : ∀ t, T[T.length - 1]? = some t → 3 < T.length → ¬ (isG t gRC = true ∧ openedF (sg T 2 T.length) = 0)) (h2 : 2 ≤ T.length) :
    stmtF F T = (exprF F (fuel T) false (sg T 2 T.length)).map fun x => ⟨2, s, x, .nil⟩ := by
  unfold stmtF
  rw [h]
  simp only
  rcases Nat.lt_or_ge 2 T.length with hl | hl
  · obtain ⟨t, ht⟩ : ∃ t, T[T.length - 1]? = some t := ⟨_, List.getElem?_eq_getElem (by omega)⟩
    rw [sg_last hl (Nat.le_refl _), ht]
    simp only
    rw [if_neg (fun c => by have := c.1; rw [sg_len (Nat.le_refl _)] at this; exact hno t ht (by omega) c.2)]
  · have e : sg T 2 T.length = [] := List.drop_eq_nil_of_le (by rw [List.length_take]; omega)
    rw [e]
    simp only [List.getLast?_nil]
    rw [show fuel T = (fuel T - 1) + 1 by unfold fuel; omega, exprF]
    rw [show operandF F (fuel T - 1) false [] = none from by rw [← sg_nil T 0]; exact ro_none F _ _ (Nat.le_refl _)]
    rfl
theorem state_la {F : List (List UInt8)} {T : List Tok} {d : Int} (h1 : matchedF T = (d, true)) (h2 : ¬ 50 < d) {α : Type} {law : Option α} {f : α → Stm} (hs : stmtF F T = law.map f) {x : α} {ok : Bool} (h : LaA law x ok) : (ok = false → stateOf F T = (noStm, 170)) ∧ (ok = true → stateOf F T = (f x, 0)) := by
  unfold stateOf
  rw [h1]
  simp only
  rw [if_neg (by simp), if_neg h2, hs]
  refine ⟨fun e => by rw [h.none_of e]; rfl, fun e => by rw [h.some_of e]; rfl⟩
end Go.Proofs.YthlingdlehdlhaaGreatDoor.Par

namespace Go.Proofs.YthlingdlehdlhaaGreatDoor.Par
open Go.RowKit Go.Shelf
set_option linter.unusedVariables false
set_option linter.unusedSimpArgs false

theorem rstate_mk {w W wf : World} {R : Nat} {p : Stm × Int} {xv : Value} {s : Stm} {n : Int} (hb : Below w.heap.size w W) (ho : Oth R W wf) (hR : w.heap.size ≤ R) (hf : Fresh (fun k => R < k) W (IsS · xv s)) (h : p = (s, n)) :
    StateA w wf p (.returned (.tuple #[xv, .int .i64 n])) := by
  subst h
  exact ⟨⟨xv, rfl, (hf.softF (ho.soft (fun h => Nat.lt_irrefl _ h))).weak (fun k hk => Nat.le_trans hR (Nat.le_of_lt hk))⟩, ho.below hb hR⟩
theorem nth_some {α : Type} {T : List α} {i : Nat} (h : i < T.length) : ∃ t, T[i]? = some t := ⟨_, List.getElem?_eq_getElem h⟩
set_option maxRecDepth 100000 in
set_option maxHeartbeats 8000000 in
theorem rStatement_any (F : List (List UInt8)) (hF : F.length ≤ 1000) (v fv : Value) (T : List Tok) (w : World) (htk : IsToks w v T) (hfs : Strs w fv (F.map bs)) (hgd : ∀ t ∈ T, Good t) (hsm : Small T) (hle : T.length ≤ 8000000) :
    Calls Tryz.prog 8 #[v, fv] w fun e w' => StateA w w' (stateOf F T) e := by
  obtain ⟨a, c, rfl⟩ := toks_parts htk
  obtain ⟨fa, fc, hfv, hfl⟩ : ∃ fa fc, fv = .slice fa F.length fc ∧ F.length ≤ fc := by
    obtain ⟨a', c', e, h1, -⟩ := id hfs
    rw [List.length_map] at e h1
    exact ⟨a', c', e, h1⟩
  subst hfv
  obtain ⟨P, hP⟩ : ∃ p, stateOf F T = p := ⟨_, rfl⟩
  rw [hP]
  have HP := hid hP
  clear hP
  have hB1 := (Below.refl _ w).alloc (Nat.le_refl _) (.cells #[.int .i64 0, .string ⟨#[]⟩, .int .i64 0, .string ⟨#[]⟩, .int .i64 0, .slice none 0 0, .slice none 0 0, .int .i64 0, .int .i64 0, .int .i64 0, .string ⟨#[]⟩, .slice none 0 0, .slice none 0 0, .slice none 0 0] 38)
  have hR1 := heap_alloc_new w (.cells #[.int .i64 0, .string ⟨#[]⟩, .int .i64 0, .string ⟨#[]⟩, .int .i64 0, .slice none 0 0, .slice none 0 0, .int .i64 0, .int .i64 0, .int .i64 0, .string ⟨#[]⟩, .slice none 0 0, .slice none 0 0, .slice none 0 0] 38)
  go_enter Tryz.func8, Tryz.ntmps8
  go_upto_region 1 with fail
  generalize w.alloc (.cells #[.int .i64 0, .string ⟨#[]⟩, .int .i64 0, .string ⟨#[]⟩, .int .i64 0, .slice none 0 0, .slice none 0 0, .int .i64 0, .int .i64 0, .int .i64 0, .string ⟨#[]⟩, .slice none 0 0, .slice none 0 0, .slice none 0 0] 38) = w1 at *
  have hsz1 : w.heap.size < w1.heap.size := (Array.getElem?_eq_some_iff.1 hR1).1
  have hcall := rpairs_any T a c w1 (htk.below hB1) hle
  go_wp2_with fail
  refine hcall.mono ?_
  rintro e w2 ⟨⟨aa, ac, A, d, rfl, hmt, hA, hdT, hAi⟩ | ⟨aa, an, ac, d, rfl, hmt⟩, b2⟩
  rotate_left
  · have hp : P = (noStm, 170) := by rw [← HP.out]; unfold stateOf; rw [if_pos hmt]
    have hp := hid hp
    have hB2 := hB1.trans (b2.mono hB1.size)
    have hR2 := (b2.block _ hsz1).trans hR1
    clear hcall HP
    go_wp2_with (refine wpList_store_row rfl 38 _ _ rfl w.heap.size _ rfl rfl 38 _ hR2 (by kernel_rfl) (by kernel_rfl) (by kernel_rfl) ?_; go_simp)
    refine bodyPost_ret (results_row_tmp rfl _ _ w.heap.size _ _ _ _ rfl (setRow_heap w2 w.heap.size _ #[.int .i64 0, .string ⟨#[]⟩, .int .i64 0, .string ⟨#[]⟩, .int .i64 0, .slice none 0 0, .slice none 0 0, .int .i64 0, .int .i64 0, .int .i64 0, .string ⟨#[]⟩, .slice none 0 0, .slice none 0 0, .slice none 0 0] _ _ hR2) Tryz.underlying38 rfl (by kernel_rfl)) rfl ?_
    exact rstate_mk hB2 ((Oth.refl _ _).row _) (Nat.le_refl _) (noStm_fresh _ _) hp.out
  · have hB2 := hB1.trans (b2.mono hB1.size)
    have hR2 := (b2.block _ hsz1).trans hR1
    have hsz2 := Nat.lt_of_lt_of_le hsz1 b2.size
    clear hcall
    by_cases h50 : 50 < (d : Int)
    · have hp : P = (noStm, 9) := by rw [← HP.out]; unfold stateOf; rw [hmt]; simp only; rw [if_neg (by simp), if_pos h50]
      have hp := hid hp
      clear HP hmt
      go_wp2_with (refine wpList_store_row rfl 38 _ _ rfl w.heap.size _ rfl rfl 38 _ hR2 (by kernel_rfl) (by kernel_rfl) (by kernel_rfl) ?_; go_simp)
      refine bodyPost_ret (results_row_tmp rfl _ _ w.heap.size _ _ _ _ rfl (setRow_heap w2 w.heap.size _ #[.int .i64 0, .string ⟨#[]⟩, .int .i64 0, .string ⟨#[]⟩, .int .i64 0, .slice none 0 0, .slice none 0 0, .int .i64 0, .int .i64 0, .int .i64 0, .string ⟨#[]⟩, .slice none 0 0, .slice none 0 0, .slice none 0 0] _ _ hR2) Tryz.underlying38 rfl (by kernel_rfl)) rfl ?_
      exact rstate_mk hB2 ((Oth.refl _ _).row _) (Nat.le_refl _) (noStm_fresh _ _) hp.out
    · have hC : RCx T A F := ⟨hA, hgd, hsm, hle, by omega⟩
      have hall := fun n => rall_any T A F hC n n (Nat.le_refl _)
      have hLA := fun {α : Type} {law : Option α} {f : α → Stm} (hs : stmtF F T = law.map f) {x : α} {ok : Bool} (h : LaA law x ok) => state_la hmt h50 hs h
      have hX3 := heap_alloc_new w2 (.cells #[.slice a T.length c, .slice aa A.length ac, .slice fa F.length fc] 80)
      have b3 := (Below.refl _ w2).alloc (Nat.le_refl _) (.cells #[.slice a T.length c, .slice aa A.length ac, .slice fa F.length fc] 80)
      have Hmt := hid hmt
      clear hmt
      go_upto_region 7 with fail
      generalize w2.alloc (.cells #[.slice a T.length c, .slice aa A.length ac, .slice fa F.length fc] 80) = w3 at *
      have hB3 := hB2.trans (b3.mono hB2.size)
      have hx3 : IsX w3 (.agg #[.slice a T.length c, .slice aa A.length ac, .slice fa F.length fc]) T A F := ⟨_, _, _, _, _, _, rfl, htk.below hB3, hAi.below b3, hfs.below hB3⟩
      have hR3 := (b3.block _ hsz2).trans hR2
      have hXl : w2.heap.size < w3.heap.size := (Array.getElem?_eq_some_iff.1 hX3).1
      have HXB := hid (show w2.heap.size = w2.heap.size from rfl)
      obtain ⟨XB, hXB⟩ : ∃ X, w2.heap.size = X := ⟨_, rfl⟩
      have c3 : Below XB w2 w3 := by rw [← hXB]; exact b3
      rw [hXB] at hX3 hXl hsz2
      replace HXB := hid hXB
      have hXB3 : w2.heap.size = XB := hXB
      have hRX : w.heap.size < XB := hsz2
      have hsz3 : w.heap.size < w3.heap.size := by omega
      clear hR2 b3 b2
      try rw [hXB3]
      clear hXB hXB3
      have hsets := rsets_any T A F 0 T.length (Nat.zero_le _) (Nat.le_refl _) hle _ w3 hx3
      have hset : setF (sg T 0 T.length) = if 0 + 1 < T.length ∧ ((T[0]?).getD noTok).kind = 2 ∧ isG ((T[0 + 1]?).getD noTok) gGets = true then some (((T[0]?).getD noTok).txt, sg T (0 + 2) T.length) else none := set_sg (Nat.le_refl _) hgd
      rw [sg_all] at hset
      obtain ⟨SB, hSB⟩ : ∃ b, (decide (0 + 1 < T.length) && decide (((T[0]?).getD noTok).kind = 2) && isG ((T[0 + 1]?).getD noTok) gGets) = b := ⟨_, rfl⟩
      rw [hSB] at hsets
      have hsets' : Calls Tryz.prog 36 #[.agg #[.slice a T.length c, .slice aa A.length ac, .slice fa F.length fc], .int .i64 0, .int .i64 (T.length : Int)] w3 fun e w' => e = .returned (.bool SB) ∧ Below w3.heap.size w3 w' := hsets
      obtain ⟨X0, X1, X2⟩ := (ln_facts hX3).1
      have HSB := hid hSB
      have Hset := hid hset
      clear hsets hSB hset
      go_wp2_with fail
      refine hsets'.mono ?_
      rintro e w4 ⟨rfl, b4⟩
      have hX4 := (b4.block _ hXl).trans hX3
      have hR4 := (b4.block _ hsz3).trans hR3
      have hB4 := hB3.trans (b4.mono hB3.size)
      have hx4 := hx3.below b4
      have hsz4 := Nat.lt_of_lt_of_le hXl b4.size
      clear hsets' X0 X1 X2 hX3 hR3 hx3
      obtain ⟨X0, X1, X2⟩ := (ln_facts hX4).1
      cases SB with
      | false =>
        have hno : setF T = none := by
          rw [Hset.out, if_neg]
          rintro ⟨h1, h2, h3⟩
          have := HSB.out
          rw [decide_eq_true h1, decide_eq_true h2, h3] at this
          cases this
        have hst := stmt_none (F := F) hno
        have hcall : Calls Tryz.prog 37 #[.agg #[.slice a T.length c, .slice aa A.length ac, .slice fa F.length fc], .int .i64 0, .int .i64 (T.length : Int), .bool false] w4 fun e w' => RExprA w4 w' (exprF F (fuel T) false T) e := by
          have := (hall (fuel T)).2.2.1 w4 _ 0 T.length false hx4 (Nat.zero_le _) (Nat.le_refl _) (by rw [sg_all]; exact hdT) (by unfold fuel; omega)
          rw [sg_all] at this
          exact this
        have Hst := hid hst
        clear hno hst HSB Hset
        go_wp2_with fail
        refine hcall.mono ?_
        rintro e w5 ⟨xv, x, ok, rfl, b5, fx, la⟩
        obtain ⟨vs, ve, vb, vc, rfl, j1, j2, j3, j4, j5⟩ := fx.ex
        have hform := And.intro j1.self.parts (And.intro j2.self.parts (And.intro j4.self.parts j5.self.parts))
        obtain ⟨⟨xa, xc, rfl, -⟩, ⟨xe, xec, rfl, -⟩, ⟨xb, xbc, rfl, -⟩, ⟨xk, xkc, rfl, -⟩⟩ := hform
        obtain ⟨hq0, hq1⟩ := hLA (Hst.out) la
        rw [HP.out] at hq0 hq1
        have hN6 := heap_alloc_new w5 (.cells #[.int .i64 x.kind, .string (bs x.name), .int .i64 x.val.kind, .slice xa x.val.shape.length xc, .slice xe x.val.elems.length xec, .int .i64 x.fn.kind, .int .i64 x.fn.f, .int .i64 x.fn.g, .string (bs x.fn.name), .slice xb x.fn.body.len xbc, .slice xk x.kids.len xkc] 36)
        have b6 := (b5).alloc (b5).size (.cells #[.int .i64 x.kind, .string (bs x.name), .int .i64 x.val.kind, .slice xa x.val.shape.length xc, .slice xe x.val.elems.length xec, .int .i64 x.fn.kind, .int .i64 x.fn.f, .int .i64 x.fn.g, .string (bs x.fn.name), .slice xb x.fn.body.len xbc, .slice xk x.kids.len xkc] 36)
        have hs6 := Soft.alloc w5 (.cells #[.int .i64 x.kind, .string (bs x.name), .int .i64 x.val.kind, .slice xa x.val.shape.length xc, .slice xe x.val.elems.length xec, .int .i64 x.fn.kind, .int .i64 x.fn.f, .int .i64 x.fn.g, .string (bs x.fn.name), .slice xb x.fn.body.len xbc, .slice xk x.kids.len xkc] 36)
        have hup : ∀ k, Up w4.heap.size k → w.heap.size < k := fun k hk => by unfold Up at hk; omega
        have z1 := (j1.weak hup).soft hs6
        have z2 := (j2.weak hup).soft hs6
        have z4 := (j4.weak hup).soft hs6
        have z5 := (j5.weak hup).soft hs6
        have Hq0 := hid hq0
        have Hq1 := hid hq1
        clear hcall la hq0 hq1 fx j1 j2 j4 j5 X0 X1 X2
        go_upto_region 10 with fail
        generalize w5.alloc (.cells #[.int .i64 x.kind, .string (bs x.name), .int .i64 x.val.kind, .slice xa x.val.shape.length xc, .slice xe x.val.elems.length xec, .int .i64 x.fn.kind, .int .i64 x.fn.f, .int .i64 x.fn.g, .string (bs x.fn.name), .slice xb x.fn.body.len xbc, .slice xk x.kids.len xkc] 36) = wz at *
        have hRz := (b6.block _ (by omega)).trans hR4
        have hBz := hB4.trans (b6.mono hB4.size)
        cases ok with
        | false =>
          have hp := hid (Hq0.out rfl)
          clear Hq0 Hq1 HP
          go_wp2_with (refine wpList_store_row rfl 38 _ _ rfl w.heap.size _ rfl rfl 38 _ hRz (by kernel_rfl) (by kernel_rfl) (by kernel_rfl) ?_; go_simp)
          refine bodyPost_ret (results_row_tmp rfl _ _ w.heap.size _ _ _ _ rfl (setRow_heap wz w.heap.size _ #[.int .i64 0, .string ⟨#[]⟩, .int .i64 0, .string ⟨#[]⟩, .int .i64 0, .slice none 0 0, .slice none 0 0, .int .i64 0, .int .i64 0, .int .i64 0, .string ⟨#[]⟩, .slice none 0 0, .slice none 0 0, .slice none 0 0] _ _ hRz) Tryz.underlying38 rfl (by kernel_rfl)) rfl ?_
          exact rstate_mk hBz ((Oth.refl _ _).row _) (Nat.le_refl _) (noStm_fresh _ _) hp.out
        | true =>
          have hp := hid (Hq1.out rfl)
          clear Hq0 Hq1 HP
          go_wp2_with (first | (refine wpList_load_rowE rfl 36 _ rfl w5.heap.size rfl 36 _ _ _ hN6 Tryz.underlying36 rfl (by kernel_rfl) ?_; go_simp) | (refine wpList_store_row rfl 38 _ _ rfl w.heap.size _ rfl rfl 38 _ hRz (by kernel_rfl) (by kernel_rfl) (by kernel_rfl) ?_; go_simp))
          refine bodyPost_ret (results_row_tmp rfl _ _ w.heap.size _ _ _ _ rfl (setRow_heap wz w.heap.size _ #[.int .i64 1, .string ⟨#[]⟩, .int .i64 x.kind, .string (bs x.name), .int .i64 x.val.kind, .slice xa x.val.shape.length xc, .slice xe x.val.elems.length xec, .int .i64 x.fn.kind, .int .i64 x.fn.f, .int .i64 x.fn.g, .string (bs x.fn.name), .slice xb x.fn.body.len xbc, .slice xk x.kids.len xkc, .slice none 0 0] _ _ hRz) Tryz.underlying38 rfl (by kernel_rfl)) rfl ?_
          exact rstate_mk hBz ((Oth.refl _ _).row _) (Nat.le_refl _) (Fresh.mkS (s := ⟨1, [], x, .nil⟩) z1 z2 j3 z4 z5 (Fresh.nil _ _)) hp.out
      | true =>
        have hs : 0 + 1 < T.length ∧ ((T[0]?).getD noTok).kind = 2 ∧ isG ((T[0 + 1]?).getD noTok) gGets = true := by
          have := HSB.out
          rw [Bool.and_eq_true, Bool.and_eq_true, decide_eq_true_eq, decide_eq_true_eq] at this
          exact ⟨this.1.1, this.1.2, this.2⟩
        obtain ⟨t0, ht0⟩ := nth_some (T := T) (i := 0) (by omega)
        obtain ⟨t1, ht1⟩ := nth_some (T := T) (i := 1) (by omega)
        have hset := Hset.out
        rw [if_pos hs, ht0, Option.getD_some] at hset
        rw [ht0, show (0 + 1) = 1 from rfl, ht1, Option.getD_some, Option.getD_some] at hs
        have hd2 : Dyck (sg T 2 T.length) := unit_none (unit_none (by rw [sg_all]; exact hdT) (by omega) ht0 (wt_kind t0 (by omega))) (by omega) ht1 (wt_gets hs.2.2)
        have h2n : 2 ≤ T.length := by omega
        obtain ⟨tb, o, sa, sc, ea, ec, rfl, hTok, -, -, -⟩ := tok_get htk ht0
        have hnm := (hB4.cell (World.block_lt_of_cell? w _ hTok.2.1)).trans hTok.2.1
        simp only [Nat.zero_mul, Nat.add_zero] at hnm
        have h0T : (0 : Int) < (T.length : Int) := by omega
        have hwn : IntKind.i64.wrap ((T.length : Int) - 1) = ((T.length - 1 : Nat) : Int) := by rw [show (T.length : Int) - 1 = ((T.length - 1 : Nat) : Int) by omega]; exact IntWalk.i64_in _ (by omega)
        obtain ⟨BR, hBR⟩ : ∃ b, (decide (3 < T.length) && (isG (rtk T 2) gLC && decide (A[2]? = some (T.length - 1)))) = b := ⟨_, rfl⟩
        have HBR := hid hBR
        have Hst := hid hset
        clear hset hs hBR HSB Hset ht0 ht1 X0 X1 X2
        go_upto_region 14 with fail
        go_cut [71] from 105 (fun s71 W => s71 = .bool BR ∧ Below w4.heap.size w4 W)
        case first =>
          by_cases h3 : 3 < T.length
          · have h3i : (3 : Int) < (T.length : Int) := by omega
            have h2i : (2 : Int) < (T.length : Int) := by omega
            have ht2 := rtk_some (T := T) (i := 2) (by omega)
            generalize rtk T 2 = u at *
            obtain ⟨ua, uc, ue, uec, hTu⟩ := tok_at (htk.below hB4) ht2
            obtain ⟨u0, u1, u2, u3, u4⟩ := id hTu
            have his := ris_any u (.slice ua u.val.shape.length uc) (.slice ue u.val.elems.length uec) gLC _ rfl w4
            obtain ⟨G, hG⟩ : ∃ g, isG u gLC = g := ⟨_, rfl⟩
            rw [hG] at his HBR
            obtain ⟨m, hm⟩ : ∃ m, A[2]? = some m := ⟨_, List.getElem?_eq_getElem (by rw [hA.len]; omega)⟩
            obtain ⟨ab, ao, rfl, hcA⟩ := at_get hAi hm
            have hiA : (2 : Int) < (A.length : Int) := by rw [hA.len]; omega
            have Hm := hid hm
            clear hG ht2 hm
            go_wp2_with fail
            refine his.mono ?_
            rintro e w5 ⟨rfl, b5⟩
            cases G with
            | false =>
              go_wp2_with fail
              go_meet
              case rel => exact ⟨by rw [← HBR.out]; simp, b5⟩
            | true =>
              have hcA5 := ((c3.trans (b4.mono (by omega))).trans (b5.mono (by omega)))
              have hcA5 := (hcA5.cell (p := ⟨ab, ao + 2, none⟩) (by have := World.block_lt_of_cell? w2 _ hcA; rw [HXB.out] at this; exact this)).trans hcA
              by_cases hmn : m = T.length - 1
              · have hmi : ((m : Int) == ((T.length - 1 : Nat) : Int)) = true := by rw [beq_iff_eq]; omega
                have HE := hid (show BR = true from by rw [← HBR.out, Hm.out, decide_eq_true h3, decide_eq_true (by rw [hmn])]; rfl)
                clear hmn
                go_wp2_with fail
                go_meet
                case rel => exact ⟨by rw [HE.out], b5⟩
              · have hmi : ((m : Int) == ((T.length - 1 : Nat) : Int)) = false := by rw [beq_eq_false_iff_ne]; omega
                have HE := hid (show BR = false from by rw [← HBR.out, Hm.out, decide_eq_true h3, decide_eq_false (fun h => hmn (Option.some.inj h))]; rfl)
                clear hmn
                go_wp2_with fail
                go_meet
                case rel => exact ⟨by rw [HE.out], b5⟩
          · have h3i : ¬ (3 : Int) < (T.length : Int) := by omega
            go_wp2_with fail
            go_meet
            case rel => exact ⟨by rw [← HBR.out, decide_eq_false h3]; rfl, Below.refl _ _⟩
        case rest =>
          obtain ⟨rfl, b5⟩ := hcut
          obtain ⟨w5, hw5⟩ : ∃ W, W = wc := ⟨_, rfl⟩
          subst hw5
          have hX5 := (b5.block _ hsz4).trans hX4
          have hR5 := (b5.block _ (by omega)).trans hR4
          have hB5 := hB4.trans (b5.mono hB4.size)
          have hx5 := hx4.below b5
          have hsz5 := Nat.lt_of_lt_of_le hsz4 b5.size
          clear hX4 hR4 hx4
          cases BR with
          | false =>
            have hst := stmt_set (F := F) Hst.out (fun t ht h3 hh => by
              obtain ⟨u, hu⟩ := nth_some (T := T) (i := 2) (by omega)
              obtain ⟨m, hm⟩ : ∃ m, A[2]? = some m := ⟨_, List.getElem?_eq_getElem (by rw [hA.len]; omega)⟩
              obtain ⟨q1, q2⟩ := (brace_sg hA h3 hd2 hu ht hm hgd).2 hh
              have := HBR.out
              rw [decide_eq_true h3, show rtk T 2 = u from by unfold rtk; rw [hu]; rfl, q1, hm, q2, decide_eq_true rfl] at this
              cases this) h2n
            have hcall : Calls Tryz.prog 37 #[.agg #[.slice (some ⟨tb, o, none⟩) T.length c, .slice aa A.length ac, .slice fa F.length fc], .int .i64 2, .int .i64 (T.length : Int), .bool false] w5 fun e w' => RExprA w5 w' (exprF F (fuel T) false (sg T 2 T.length)) e :=
              (hall (fuel T)).2.2.1 w5 _ 2 T.length false hx5 h2n (Nat.le_refl _) hd2 (by unfold fuel; omega)
            obtain ⟨X0, X1, X2⟩ := (ln_facts hX5).1
            have Hst2 := hid hst
            clear hst HBR Hst
            go_wp2_with fail
            refine hcall.mono ?_
            rintro e w6 ⟨xv, x, ok, rfl, b6, fx, la⟩
            obtain ⟨vs, ve, vb, vc, rfl, j1, j2, j3, j4, j5⟩ := fx.ex
            have hform := And.intro j1.self.parts (And.intro j2.self.parts (And.intro j4.self.parts j5.self.parts))
            obtain ⟨⟨xa, xc, rfl, -⟩, ⟨xe, xec, rfl, -⟩, ⟨xb, xbc, rfl, -⟩, ⟨xk, xkc, rfl, -⟩⟩ := hform
            obtain ⟨hq0, hq1⟩ := hLA (Hst2.out) la
            rw [HP.out] at hq0 hq1
            have hN6 := heap_alloc_new w6 (.cells #[.int .i64 x.kind, .string (bs x.name), .int .i64 x.val.kind, .slice xa x.val.shape.length xc, .slice xe x.val.elems.length xec, .int .i64 x.fn.kind, .int .i64 x.fn.f, .int .i64 x.fn.g, .string (bs x.fn.name), .slice xb x.fn.body.len xbc, .slice xk x.kids.len xkc] 36)
            have b6 := (b6).alloc (b6).size (.cells #[.int .i64 x.kind, .string (bs x.name), .int .i64 x.val.kind, .slice xa x.val.shape.length xc, .slice xe x.val.elems.length xec, .int .i64 x.fn.kind, .int .i64 x.fn.f, .int .i64 x.fn.g, .string (bs x.fn.name), .slice xb x.fn.body.len xbc, .slice xk x.kids.len xkc] 36)
            have hs6 := Soft.alloc w6 (.cells #[.int .i64 x.kind, .string (bs x.name), .int .i64 x.val.kind, .slice xa x.val.shape.length xc, .slice xe x.val.elems.length xec, .int .i64 x.fn.kind, .int .i64 x.fn.f, .int .i64 x.fn.g, .string (bs x.fn.name), .slice xb x.fn.body.len xbc, .slice xk x.kids.len xkc] 36)
            have hup : ∀ k, Up w5.heap.size k → w.heap.size < k := fun k hk => by unfold Up at hk; omega
            have z1 := (j1.weak hup).soft hs6
            have z2 := (j2.weak hup).soft hs6
            have z4 := (j4.weak hup).soft hs6
            have z5 := (j5.weak hup).soft hs6
            have Hq0 := hid hq0
            have Hq1 := hid hq1
            clear hcall la hq0 hq1 fx j1 j2 j4 j5 X0 X1 X2
            go_upto_region 23 with fail
            generalize w6.alloc (.cells #[.int .i64 x.kind, .string (bs x.name), .int .i64 x.val.kind, .slice xa x.val.shape.length xc, .slice xe x.val.elems.length xec, .int .i64 x.fn.kind, .int .i64 x.fn.f, .int .i64 x.fn.g, .string (bs x.fn.name), .slice xb x.fn.body.len xbc, .slice xk x.kids.len xkc] 36) = wz at *
            have hRz := (b6.block _ (by omega)).trans hR5
            have hBz := hB5.trans (b6.mono hB5.size)
            cases ok with
            | false =>
              have hp := hid (Hq0.out rfl)
              clear Hq0 Hq1 HP
              go_wp2_with (refine wpList_store_row rfl 38 _ _ rfl w.heap.size _ rfl rfl 38 _ hRz (by kernel_rfl) (by kernel_rfl) (by kernel_rfl) ?_; go_simp)
              refine bodyPost_ret (results_row_tmp rfl _ _ w.heap.size _ _ _ _ rfl (setRow_heap wz w.heap.size _ #[.int .i64 0, .string ⟨#[]⟩, .int .i64 0, .string ⟨#[]⟩, .int .i64 0, .slice none 0 0, .slice none 0 0, .int .i64 0, .int .i64 0, .int .i64 0, .string ⟨#[]⟩, .slice none 0 0, .slice none 0 0, .slice none 0 0] _ _ hRz) Tryz.underlying38 rfl (by kernel_rfl)) rfl ?_
              exact rstate_mk hBz ((Oth.refl _ _).row _) (Nat.le_refl _) (noStm_fresh _ _) hp.out
            | true =>
              have hp := hid (Hq1.out rfl)
              clear Hq0 Hq1 HP
              go_wp2_with (first | (refine wpList_load_rowE rfl 36 _ rfl w6.heap.size rfl 36 _ _ _ hN6 Tryz.underlying36 rfl (by kernel_rfl) ?_; go_simp) | (refine wpList_store_row rfl 38 _ _ rfl w.heap.size _ rfl rfl 38 _ hRz (by kernel_rfl) (by kernel_rfl) (by kernel_rfl) ?_; go_simp))
              refine bodyPost_ret (results_row_tmp rfl _ _ w.heap.size _ _ _ _ rfl (setRow_heap wz w.heap.size _ #[.int .i64 2, .string (bs t0.txt), .int .i64 x.kind, .string (bs x.name), .int .i64 x.val.kind, .slice xa x.val.shape.length xc, .slice xe x.val.elems.length xec, .int .i64 x.fn.kind, .int .i64 x.fn.f, .int .i64 x.fn.g, .string (bs x.fn.name), .slice xb x.fn.body.len xbc, .slice xk x.kids.len xkc, .slice none 0 0] _ _ hRz) Tryz.underlying38 rfl (by kernel_rfl)) rfl ?_
              exact rstate_mk hBz ((Oth.refl _ _).row _) (Nat.le_refl _) (Fresh.mkS (s := ⟨2, t0.txt, x, .nil⟩) z1 z2 j3 z4 z5 (Fresh.nil _ _)) hp.out
          | true =>
            have hbr := HBR.out
            rw [Bool.and_eq_true, Bool.and_eq_true, decide_eq_true_eq, decide_eq_true_eq] at hbr
            obtain ⟨h3, hu1, hc2⟩ := hbr
            have hu := rtk_some (T := T) (i := 2) (by omega)
            obtain ⟨tl, htl⟩ := nth_some (T := T) (i := T.length - 1) (by omega)
            obtain ⟨q1, q2⟩ := (brace_sg hA h3 hd2 hu htl hc2 hgd).1 ⟨hu1, rfl⟩
            have hst := stmt_fun (F := F) Hst.out h3 htl q1 q2
            have hdb : Dyck (sg T 3 (T.length - 1)) := by
              obtain ⟨c', u', p1, p2, p3, p4, p5, p6⟩ := hA.opens 2 _ hu (by rw [wt_isG hu1]; decide)
              rw [hc2] at p1
              rw [Option.some.inj p1]
              exact p6
            have hall2 := rall_any T A (F ++ [t0.txt]) ⟨hA, hgd, hsm, hle, by rw [List.length_append]; simp; omega⟩ (fuel T) (fuel T) (Nat.le_refl _)
            have Hst2 := hid hst
            clear hst HBR Hst hu1 hc2 hu htl q1 q2 hall
            obtain ⟨i0, hi, hz0, hz1, hz2⟩ := info_parts (show (Tryz.prog.info? 9).map (fun i => (i.zero, i.size, i.bytes)) = some (some (.string ⟨#[]⟩), 1, 16) by kernel_rfl)
            have hfs5 := hfs.below hB5
            go_upto_region 16 with fail
            go_cut [14] from 105 (fun s14 W => W.ownsRow w5.heap.size 9 1 s14 F.length ((F.map bs).map Value.string) ∧ Below w5.heap.size w5 W)
            case first =>
              cases fa with
              | none =>
                have h0 : fc = 0 := by
                  obtain ⟨a', c', e, l1, l2, l3, l4⟩ := hfs
                  injection e with e1 e2 e3
                  rw [e3]; exact l3 e1.symm
                have hF0 : F = [] := List.eq_nil_of_length_eq_zero (by omega)
                subst hF0
                subst h0
                go_wp2_with (at_builtin; refine wpList_append_own_none rfl _ _ 22 rfl w5.heap.size 9 i0 1 Tryz.underlying22 hi _ _ _ rfl (World.ownsRow_nil _ _ _ _) rfl ?_)
                go_meet
                case rel => exact ⟨World.ownsRow_nil _ _ _ _, Below.refl _ _⟩
              | some ad =>
                have hnews : ∀ j u, ((F.map bs).map Value.string)[j]? = some u → w5.cell? (ad.add j) = some u := by
                  intro j u hj
                  rw [List.map_map, List.getElem?_map] at hj
                  cases hk : F[j]? with
                  | none => rw [hk] at hj; cases hj
                  | some s =>
                    rw [hk] at hj
                    obtain ⟨b', o', e, hc'⟩ := strs_get hfs5 hk
                    obtain rfl := Option.some.inj e
                    rw [Addr.add_lit, hc']
                    simpa using hj
                go_wp2_with (at_builtin; refine wpList_append_own _ rfl _ _ 22 rfl w5.heap.size 9 i0 (.string ⟨#[]⟩) 1 16 Tryz.underlying22 hi hz0 hz1 hz2 rfl (by decide) _ _ _ rfl (World.ownsRow_nil _ _ _ _) ad F.length fc ((F.map bs).map Value.string) rfl (by simp) hnews (by intro u hu; obtain ⟨z, -, rfl⟩ := List.mem_map.1 hu; rfl) (by unfold maxLen; omega) (by omega) (Nat.le_refl _) ?_)
                intro v' w1 hown hgrow hnil
                go_wp2_with fail
                go_meet
                case rel => exact ⟨by simpa using hown, (Below.refl _ w5).grown hgrow (Nat.le_refl _) (by intro k hk; simp [Value.ownBlock] at hk)⟩
            case rest =>
              obtain ⟨hown, b6⟩ := hcut
              obtain ⟨ga, gc, rfl⟩ := own_slice hown
              have hB6 := hB5.trans (b6.mono hB5.size)
              have hX6 := (b6.block _ hsz5).trans hX5
              have hR6 := (b6.block _ (by omega)).trans hR5
              have c6 : Below XB w2 wc := ((c3.trans (b4.mono (by omega))).trans (b5.mono (by omega))).trans (b6.mono (by omega))
              have hs6 : XB < wc.heap.size := Nat.lt_of_lt_of_le hsz5 b6.size
              have hgb : (Value.slice ga F.length gc).ownBlock ≠ some XB := fun e => by have := (hown.lt XB e).1; omega
              clear hX5 hR5 hx5 hfs5
              go_wp2_with (at_builtin; go_must (refine wpList_append_own_at _ rfl _ _ 22 rfl w5.heap.size 9 i0 (.string ⟨#[]⟩) 1 16 Tryz.underlying22 hi hz0 hz1 hz2 rfl (by decide) _ _ _ rfl (hown.alloc _) ⟨wc.heap.size, 0, none⟩ 1 1 [.string (bs t0.txt)] rfl rfl (row_new wc _ 9) (by simp [Value.oneCell']) (by simp [maxLen]; omega) (by omega) (by simp; have := b6.size; omega) ?_); intro v' w7 hown' hgrow _ hat; obtain ⟨g', cap', rfl⟩ := ownsRow_succ hown'; have hX7 := (hgrow.block XB (by simp; omega) (fun e => hgb e.symm)).trans ((heap_alloc_old wc (.cells #[.string (bs t0.txt)] 9) hs6).trans hX6); obtain ⟨⟨r0, r1, r2⟩, ⟨z0, z1, z2⟩⟩ := ln_facts hX7)
              have hkn : (Value.slice (some ⟨g', 0, none⟩) (F.length + 1) cap').ownBlock ≠ some XB := fun e => by have := (hown'.lt XB e).1; omega
              have hB8 : Below w.heap.size w (w7.setCell ⟨XB, 2, none⟩ (.slice (some ⟨g', 0, none⟩) (F.length + 1) cap')) := ((hB6.alloc hB6.size (.cells #[.string (bs t0.txt)] 9)).grown hgrow (by have := hB6.size; simp; omega) (fun q e => by have := (hown.lt q e).1; omega)).setCell (by simp; omega) _
              have c8 : Below XB w2 (w7.setCell ⟨XB, 2, none⟩ (.slice (some ⟨g', 0, none⟩) (F.length + 1) cap')) := ((c6.alloc (by omega) (.cells #[.string (bs t0.txt)] 9)).grown hgrow (by simp; omega) (fun q e => by have := (hown.lt q e).1; omega)).setCell (by simp) _
              have hR7 := (hgrow.block w.heap.size (by simp; omega) (fun e => by have := (hown.lt _ e.symm).1; omega)).trans ((heap_alloc_old wc (.cells #[.string (bs t0.txt)] 9) (by omega)).trans hR6)
              have hR8 := (Below.heap_setCell w7 ⟨XB, 2, none⟩ (.slice (some ⟨g', 0, none⟩) (F.length + 1) cap') w.heap.size (by simp; omega)).trans hR7
              have hX8 : (w7.setCell ⟨XB, 2, none⟩ (.slice (some ⟨g', 0, none⟩) (F.length + 1) cap')).heap[XB]? = some (.cells #[.slice (some ⟨tb, o, none⟩) T.length c, .slice aa A.length ac, .slice (some ⟨g', 0, none⟩) (F.length + 1) cap'] 80) := (heap_set1 (i := 2) hX7 _).trans rfl
              have hown8 := ownsRow_setCell_other hown' (a := ⟨XB, 2, none⟩) hkn (.slice (some ⟨g', 0, none⟩) (F.length + 1) cap')
              have hx8 : IsX (w7.setCell ⟨XB, 2, none⟩ (.slice (some ⟨g', 0, none⟩) (F.length + 1) cap')) (.agg #[.slice (some ⟨tb, o, none⟩) T.length c, .slice aa A.length ac, .slice (some ⟨g', 0, none⟩) (F.length + 1) cap']) T A (F ++ [t0.txt]) :=
                ⟨_, _, _, _, some ⟨g', 0, none⟩, cap', by rw [List.length_append]; rfl, htk.below hB8, hAi.below (by rw [HXB.out]; exact c8), by
                  have h := Strs.of_owns (xs := (F ++ [t0.txt]).map bs) (by simpa using hown8)
                  rw [List.length_append]
                  exact h⟩
              have hcall := hall2.2.2.2.2 _ _ 3 (T.length - 1) hx8 (by omega) (by omega) hdb (by unfold fuel; omega)
              have hsW : w.heap.size < (w7.setCell ⟨XB, 2, none⟩ (.slice (some ⟨g', 0, none⟩) (F.length + 1) cap')).heap.size := (Array.getElem?_eq_some_iff.1 hR8).1
              refine Calls.mono hcall ?_
              rintro e w9 ⟨xv, x, ok, rfl, b9, fx, la⟩
              obtain ⟨xa, xc, rfl, -⟩ := fx.self.parts
              obtain ⟨hq0, hq1⟩ := hLA Hst2.out la
              rw [HP.out] at hq0 hq1
              have Hq0 := hid hq0
              have Hq1 := hid hq1
              have hR9 := (b9.block _ hsW).trans hR8
              have hB9 := hB8.trans (b9.mono hB8.size)
              have fz := fx.weak (base' := fun k => w.heap.size < k) (fun k hk => by unfold Up at hk; omega)
              clear hcall hall2 la hq0 hq1 fx HP hR8 hR7 hX8 hX7 hown8 hx8 r0 r1 r2 z0 z1 z2 hown hown' hgrow hat
              cases ok with
              | false =>
                have hp := hid (Hq0.out rfl)
                clear Hq0 Hq1
                go_wp2_with (refine wpList_store_row rfl 38 _ _ rfl w.heap.size _ rfl rfl 38 _ hR9 (by kernel_rfl) (by kernel_rfl) (by kernel_rfl) ?_; go_simp)
                refine bodyPost_ret (results_row_tmp rfl _ _ w.heap.size _ _ _ _ rfl (setRow_heap w9 w.heap.size _ #[.int .i64 0, .string ⟨#[]⟩, .int .i64 0, .string ⟨#[]⟩, .int .i64 0, .slice none 0 0, .slice none 0 0, .int .i64 0, .int .i64 0, .int .i64 0, .string ⟨#[]⟩, .slice none 0 0, .slice none 0 0, .slice none 0 0] _ _ hR9) Tryz.underlying38 rfl (by kernel_rfl)) rfl ?_
                exact rstate_mk hB9 ((Oth.refl _ _).row _) (Nat.le_refl _) (noStm_fresh _ _) hp.out
              | true =>
                have hp := hid (Hq1.out rfl)
                clear Hq0 Hq1
                go_wp2_with (refine wpList_store_row rfl 38 _ _ rfl w.heap.size _ rfl rfl 38 _ hR9 (by kernel_rfl) (by kernel_rfl) (by kernel_rfl) ?_; go_simp)
                refine bodyPost_ret (results_row_tmp rfl _ _ w.heap.size _ _ _ _ rfl (setRow_heap w9 w.heap.size _ #[.int .i64 3, .string (bs t0.txt), .int .i64 0, .string ⟨#[]⟩, .int .i64 0, .slice none 0 0, .slice none 0 0, .int .i64 0, .int .i64 0, .int .i64 0, .string ⟨#[]⟩, .slice none 0 0, .slice none 0 0, .slice xa x.len xc] _ _ hR9) Tryz.underlying38 rfl (by kernel_rfl)) rfl ?_
                exact rstate_mk hB9 ((Oth.refl _ _).row _) (Nat.le_refl _) (Fresh.mkS (s := ⟨3, t0.txt, noEx, x⟩) (Fresh.ints0 _ _) (Fresh.ints0 _ _) (fun i hi => by simp [noEx, noArr] at hi) (Fresh.nil _ _) (Fresh.nil _ _) fz) hp.out
end Go.Proofs.YthlingdlehdlhaaGreatDoor.Par
