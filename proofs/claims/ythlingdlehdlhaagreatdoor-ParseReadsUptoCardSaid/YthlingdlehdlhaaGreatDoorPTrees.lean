/- parse: all readings together; a statement, walked.
   parse.Statement, walked; the tree of a text.
   Layer 18's law: its small functions. -/
import Derived.Test.YthlingdlehdlhaaGreatDoorPFuncs
import Derived.Test.YthlingdlehdlhaaGreatDoorPIndexs
import Derived.Test.YthlingdlehdlhaaGreatDoorPExpr
import Derived.Test.YthlingdlehdlhaaGreatDoorPLine
import Derived.Test.YthlingdlehdlhaaGreatDoorPE
import Derived.Test.YthlingdlehdlhaaGreatDoorPD
import Derived.Test.YthlingdlehdlhaaGreatDoorToks
import Derived.Test.YthlingdlehdlhaaGreatDoorLexLaw
namespace Go.Proofs.YthlingdlehdlhaaGreatDoor.Par
open Go.RowKit Go.Shelf
set_option linter.unusedVariables false
set_option linter.unusedSimpArgs false

/-- All readings, whatever the fuel. -/
theorem all_any (F : List (List UInt8)) : ∀ n, OperC F n ∧ IndexC F n ∧ FunC F n ∧ ExprC F n ∧ LinesC F n ∧ LineC F n := by
  intro n
  induction n using Nat.strongRecOn with
  | _ n ih =>
    cases n with
    | zero =>
      refine ⟨?_, ?_, ?_, ?_, ?_, ?_⟩
      · intro w rb fv ins bad v l hg h; omega
      · intro w rb fv ins bad v l t hg ht hb h; omega
      · intro w rb fv ins bad v l hg hne h; omega
      · intro w rb fv ins bad v l hg h; omega
      · intro w rb fv ins bad v l hg h; omega
      · intro w rb fv bad v l hg h; omega
    | succ n =>
      have hE := fun m (h : m ≤ n) => (ih m (by omega)).2.2.2.1
      have hO := fun m (h : m ≤ n) => (ih m (by omega)).1
      have hF := fun m (h : m ≤ n) => (ih m (by omega)).2.2.1
      have hL := fun m (h : m ≤ n) => (ih m (by omega)).2.2.2.2.1
      have hN := fun m (h : m ≤ n) => (ih m (by omega)).2.2.2.2.2
      have hI := index_step F n hO hE
      exact ⟨operand_step F n hE hI, hI, function_step F n hL, expr_step F n hO hF, lines_step F n hN, line_step F n hE⟩
theorem expr_all (F : List (List UInt8)) (n : Nat) : ExprC F n := (all_any F n).2.2.2.1
theorem lines_all (F : List (List UInt8)) (n : Nat) : LinesC F n := (all_any F n).2.2.2.2.1
/-- slices.Clone of strings. -/
theorem cloneS_any (v : Value) (xs : List ByteArray) (w : World) (hx : Strs w v xs) (hl : xs.length ≤ 8000000) :
    Calls Tryz.prog 85 #[v] w fun e w' => ∃ v', e = .returned v' ∧ w'.ownsRow w.heap.size 9 1 v' xs.length (xs.map .string) ∧ Below w.heap.size w w' := by
  obtain ⟨a, cap, rfl, h1, h2, h3, hc⟩ := hx
  cases a with
  | none =>
    have : xs = [] := List.eq_nil_of_length_eq_zero (by have := h3 rfl; omega)
    subst this
    refine (Tryz.slices_Clone_string_nil 0 cap w).mono ?_
    rintro e w' ⟨rfl, rfl⟩
    exact ⟨_, rfl, World.ownsRow_nil _ _ _ _, Below.refl _ _⟩
  | some ad =>
    by_cases h0 : xs = []
    · subst h0
      refine (Tryz.slices_Clone_string_zero ad cap w).mono ?_
      rintro e w' ⟨v', rfl, h, -, hb⟩
      exact ⟨v', rfl, h, hb⟩
    · obtain ⟨b, o, e, -⟩ := hc 0 (by rw [List.length_map]; exact List.length_pos_iff.2 h0)
      obtain rfl : ad = ⟨b, o, none⟩ := by simpa using e
      refine (Tryz.slices_Clone_string b o xs.length cap xs w (Nat.le_refl _) (by omega) (fun j hj => ?_)).mono ?_
      · obtain ⟨b', o', e', hc'⟩ := hc j (by simpa using hj)
        simp only [Option.some.injEq, Addr.mk.injEq, and_true] at e'
        obtain ⟨rfl, rfl⟩ := e'
        rw [hc', List.getElem_map, List.getD_eq_getElem?_getD, List.getElem?_eq_getElem hj]; rfl
      · rintro e w' ⟨v', rfl, h, -, hb⟩
        rw [List.take_length] at h
        exact ⟨v', rfl, h, hb⟩
theorem expr_nil (F : List (List UInt8)) (n : Nat) (ins : Bool) : exprF F n ins [] = none := by
  cases n with
  | zero => rw [exprF]
  | succ n =>
    rw [exprF]
    cases n with
    | zero => rw [operandF]
    | succ n => rw [operandF]; rfl
theorem Fresh.mkS {base : Nat → Prop} {w : World} {s : Stm} {vs ve vb vc vd : Value} (i1 : Fresh base w (Ints · vs s.expr.val.shape)) (i2 : Fresh base w (Ints · ve s.expr.val.elems)) (i3 : Rng s.expr.val.elems) (j1 : Fresh base w (IsTs · vb s.expr.fn.body)) (j2 : Fresh base w (IsTs · vc s.expr.kids)) (j3 : Fresh base w (IsTs · vd s.body)) :
    Fresh base w (IsS · (.agg #[.int .i64 s.kind, .string (bs s.name), .int .i64 s.expr.kind, .string (bs s.expr.name), .int .i64 s.expr.val.kind, vs, ve, .int .i64 s.expr.fn.kind, .int .i64 s.expr.fn.f, .int .i64 s.expr.fn.g, .string (bs s.expr.fn.name), vb, vc, vd]) s) :=
  fun w' h' => ⟨vs, ve, vb, vc, vd, rfl, i1 w' h', i2 w' h', i3, j1 w' h', j2 w' h', j3 w' h'⟩
theorem Fresh.stm {base : Nat → Prop} {w : World} {v : Value} {s : Stm} (h : Fresh base w (IsS · v s)) :
    ∃ vs ve vb vc vd, v = .agg #[.int .i64 s.kind, .string (bs s.name), .int .i64 s.expr.kind, .string (bs s.expr.name), .int .i64 s.expr.val.kind, vs, ve, .int .i64 s.expr.fn.kind, .int .i64 s.expr.fn.f, .int .i64 s.expr.fn.g, .string (bs s.expr.fn.name), vb, vc, vd] ∧
      Fresh base w (Ints · vs s.expr.val.shape) ∧ Fresh base w (Ints · ve s.expr.val.elems) ∧ Rng s.expr.val.elems ∧ Fresh base w (IsTs · vb s.expr.fn.body) ∧ Fresh base w (IsTs · vc s.expr.kids) ∧ Fresh base w (IsTs · vd s.body) := by
  obtain ⟨vs, ve, vb, vc, vd, e, i1, i2, i3, j1, j2, j3⟩ := h.self
  have key : ∀ w', SoftF base w w' → Ints w' vs s.expr.val.shape ∧ Ints w' ve s.expr.val.elems ∧ IsTs w' vb s.expr.fn.body ∧ IsTs w' vc s.expr.kids ∧ IsTs w' vd s.body := fun w' h' => by
    obtain ⟨vs', ve', vb', vc', vd', e', k1, k2, k3, l1, l2, l3⟩ := h w' h'
    rw [e] at e'
    simp only [Value.agg.injEq, Array.mk.injEq, List.cons.injEq, true_and, and_true] at e'
    obtain ⟨rfl, rfl, rfl, rfl, rfl⟩ := e'
    exact ⟨k1, k2, l1, l2, l3⟩
  exact ⟨vs, ve, vb, vc, vd, e, fun w' h' => (key w' h').1, fun w' h' => (key w' h').2.1, i3, fun w' h' => (key w' h').2.2.1, fun w' h' => (key w' h').2.2.2.1, fun w' h' => (key w' h').2.2.2.2⟩
/-- What is answered of a statement. -/
def StmA (w w' : World) (rb : Nat) (fv : Value) (law : Option Stm) (e : Ending) : Prop :=
  ∃ bad' xv x, e = .returned xv ∧ Ans w w' rb fv false bad' ∧ Fresh (Up w.heap.size) w' (IsS · xv x) ∧ Res false bad' law x
set_option maxRecDepth 100000 in
set_option maxHeartbeats 8000000 in
theorem statement_any (F : List (List UInt8)) (hF : F.length ≤ 1000) (w : World) (rb : Nat) (fv v : Value) (l : List Tok) (hg : Giv F w rb fv false false v l) :
    Calls Tryz.prog 34 #[.pointer (some ⟨rb, 0, none⟩), v] w fun e w' => StmA w w' rb fv (stmtF F l) e := by
  have hlt := hg.pr.lt
  obtain ⟨a, c, rfl⟩ := toks_parts hg.tk
  obtain ⟨law, hlaw⟩ : ∃ law, stmtF F l = law := ⟨_, rfl⟩
  have hlawE : law = stmtF F l := hlaw.symm
  rw [hlaw]
  unfold stmtF at hlawE
  have HlawE := hid hlawE
  clear hlaw hlawE
  have hA := fun o => (Below.refl _ w).alloc (Nat.le_refl _) o
  have hN0 := fun o => heap_alloc_new w o
  have hset := fun V (hb : Below w.heap.size w V) => set_any _ l V (hg.tk.below hb)
  go_enter Tryz.func34, Tryz.ntmps34
  go_wp2_with fail
  refine (hset _ (hA _)).mono ?_
  rintro e w2 ⟨⟨su, rfl, hsu⟩, b2⟩
  have hB2 := (hA _).trans (b2.mono (hA _).size)
  have hR2 := (b2.block w.heap.size (by simp)).trans (hN0 _)
  have hsz2 : w.heap.size < w2.heap.size := (Array.getElem?_eq_some_iff.1 hR2).1
  have hp2 := hg.pr.below hB2
  have htk2 := hg.tk.below hB2
  clear hset hA hN0
  rcases hsu with ⟨ss, sr, srv, hss, rfl, hsr⟩ | ⟨hss, sa, sn, scc, rfl⟩
  · -- a name is set
    have hlaw1 := HlawE.out
    rw [hss] at hlaw1
    simp only at hlaw1
    obtain ⟨st, -, -, -, hsne⟩ := set_head hss
    obtain ⟨sd1, sd2', sd3'⟩ := set_dyck hg.dy hss
    have sd2 : sr.length + 2 ≤ l.length := by omega
    have hsub : sr ⊆ l := by rw [sd3']; exact (List.drop_sublist _ _).subset
    clear sd2' sd3' HlawE
    obtain ⟨sa, sc, rfl⟩ := toks_parts hsr
    have hb0 : bs ss ≠ ⟨#[]⟩ := fun e => hsne (bs_inj (a := ss) (b := []) e)
    have hb1 := str_ne hb0
    have hb4 : (⟨#[]⟩ : ByteArray).toList = [] := by simp
    rw [hb4] at hb1
    have hb2 : ¬ (bs ss).toList = [] := by simpa using hb1
    clear hb4
    have hle := hg.le
    have hfuel : fuel l = 8 * l.length + 16 := rfl
    cases hlr : sr.getLast? with
    | none =>
      rw [hlr] at hlaw1
      simp only at hlaw1
      have hnil : sr = [] := List.getLast?_eq_none_iff.1 hlr
      subst hnil
      have hln := hid (show law = (exprF F (fuel l) false []).map fun x => (⟨2, ss, x, .nil⟩ : Stm) by rw [expr_nil, hlaw1]; rfl)
      clear hlaw1 hlr
      rw [List.length_nil]
      have hwn : IntKind.i64.wrap (((0 : Nat) : Int) - 1) = -1 := by decide
      have hwn2 : IntKind.i64.wrap ((0 : Int) - 1) = -1 := by decide
      have hcall := expr_all F (fuel l) w2 rb fv false false _ _ (⟨hp2, Strs.soft hg.fs (Soft.of_below hB2), hsr.below b2, sd1, hg.sm.sub hsub, by simp, hg.gy.below hB2⟩) (by unfold fuel; simp)
      rw [List.length_nil] at hcall
      go_upto_region 10 with fail
      go_wp2_with fail
      refine hcall.mono ?_
      rintro e w4 ⟨bd1, xv, x, rfl, an, fx, rs⟩
      have hR4 := (an.fr.block w.heap.size hsz2 (by omega)).trans hR2
      have hf4 := (Fr.of_below hB2).trans an.fr
      obtain ⟨xvs, xve, xvb, xvc, rfl, x1, x2, x3, x4, x5⟩ := fx.ex; have xform := And.intro x1.self.parts (And.intro x2.self.parts (And.intro x4.self.parts x5.self.parts)); obtain ⟨⟨xa, xc, rfl, -⟩, ⟨xe, xec, rfl, -⟩, ⟨xb, xbc, rfl, -⟩, ⟨xk, xkc, rfl, -⟩⟩ := xform
      clear hcall
      go_wp2_with (refine wpList_store_row rfl 38 _ _ rfl w.heap.size _ rfl rfl 38 _ hR4 (by kernel_rfl) (by kernel_rfl) (by kernel_rfl) ?_; go_simp)
      refine bodyPost_ret (results_cell_row rfl _ _ w.heap.size _ _ _ _ rfl (setRow_heap _ w.heap.size _ #[.int .i64 2, .string (bs ss), .int .i64 x.kind, .string (bs x.name), .int .i64 x.val.kind, .slice xa x.val.shape.length xc, .slice xe x.val.elems.length xec, .int .i64 x.fn.kind, .int .i64 x.fn.f, .int .i64 x.fn.g, .string (bs x.fn.name), .slice xb x.fn.body.len xbc, .slice xk x.kids.len xkc, .slice none 0 0] _ _ hR4) Tryz.underlying38 rfl (by kernel_rfl)) rfl ?_
      have fin : ∀ wf, Oth w.heap.size w4 wf → StmA w wf rb fv law (.returned (.agg #[.int .i64 2, .string (bs ss), .int .i64 x.kind, .string (bs x.name), .int .i64 x.val.kind, .slice xa x.val.shape.length xc, .slice xe x.val.elems.length xec, .int .i64 x.fn.kind, .int .i64 x.fn.f, .int .i64 x.fn.g, .string (bs x.fn.name), .slice xb x.fn.body.len xbc, .slice xk x.kids.len xkc, .slice none 0 0])) := fun wf ho => by
        have hw : ∀ k, Up w2.heap.size k → w.heap.size < k := fun k hk => by unfold Up at hk; have := hB2.size; omega
        exact ⟨bd1, _, ⟨2, ss, x, .nil⟩, rfl, ⟨ho.pr an.pr (by omega), ho.fr hf4 (Nat.le_refl _)⟩, ((Fresh.mkS (s := ⟨2, ss, x, .nil⟩) (x1.weak hw) (x2.weak hw) x3 (x4.weak hw) (x5.weak hw) (Fresh.nil _ _)).softF (ho.soft (fun h => Nat.lt_irrefl _ h))).weak (fun k hk => Nat.le_of_lt hk), rs.map hln.out⟩
      exact fin _ ((Oth.refl _ _).row _)
    | some t =>
      rw [hlr] at hlaw1
      simp only at hlaw1
      have hsr2 := hsr.below b2
      obtain ⟨b, o, c', m, tvs, tve, e0, hm, hm1, hm2, ⟨c0, c1, c2, c3, c4⟩, i1, i2, i3⟩ := toks_last hsr2 hlr
      simp only [Value.slice.injEq] at e0
      obtain ⟨rfl, -, rfl⟩ := e0
      obtain ⟨ta, tc, rfl, -⟩ := i1.parts
      obtain ⟨te, tec, rfl, -⟩ := i2.parts
      have hwr : IntKind.i64.wrap (((m + 1 : Nat) : Int) - 1) = (m : Int) := by
        rw [show ((m + 1 : Nat) : Int) - 1 = (m : Int) by omega]; exact IntWalk.i64_in _ (by omega)
      have hwr2 : IntKind.i64.wrap ((m : Int) + 1 - 1) = (m : Int) := by
        rw [show (m : Int) + 1 - 1 = (m : Int) by omega]; exact IntWalk.i64_in _ (by omega)
      have hm0 : (0 : Int) ≤ (m : Int) := by omega
      have hml : (m : Int) < ((m + 1 : Nat) : Int) := by omega
      have hml2 : (m : Int) < (m : Int) + 1 := by omega
      have hmc : (m : Int) ≤ (sc : Int) := by omega
      have hne : sr ≠ [] := by rintro rfl; cases hlr
      have hop := fun V (hb : Below w2.heap.size w2 V) => opened_any' _ sr V (hsr2.below hb) sd1 hne
      have hisR := fun V => is_any t (.slice ta t.val.shape.length tc) (.slice te t.val.elems.length tec) gRC _ rfl V
      have hcl := fun (h : isG t gRC = true) => sd1.closed hlr (wt_rc h)
      obtain ⟨GR, hGR⟩ : ∃ g, isG t gRC = g := ⟨_, rfl⟩
      simp only [hGR] at hisR hlaw1 hcl
      clear hGR
      have hsb : 0 < m → Sub (.slice (some ⟨b, o, none⟩) (m + 1) sc) sr (.slice (some ⟨b, o + 1 * 5, none⟩) (m - 1) (sc - 1)) (sr.dropLast.drop 1) := fun h0 => by
        have h := Sub.seg (a := some ⟨b, o, none⟩) (c := sc) (l := sr) (p := (1, m)) (by simp only; omega) (by simp only; omega)
        have e1 : seg sr (1, m) = sr.dropLast.drop 1 := by unfold seg; rw [cut1 hm]
        have e2 : segV (some ⟨b, o, none⟩) sc (1, m) = .slice (some ⟨b, o + 1 * 5, none⟩) (m - 1) (sc - 1) := by unfold segV; simp only; rw [if_neg (by omega)]; rfl
        rw [e1, e2, hm] at h; exact h
      obtain ⟨T, hT⟩ : ∃ x, (decide (0 < m) && GR && decide (openedF sr = 0)) = x := ⟨_, rfl⟩
      have hl1 : law = if T = true then (linesF (F ++ [ss]) (fuel l) (sr.dropLast.drop 1)).map (fun b => (⟨3, ss, noEx, b⟩ : Stm)) else (exprF F (fuel l) false sr).map (fun x => (⟨2, ss, x, .nil⟩ : Stm)) := by
        rw [hlaw1, ← hT]
        congr 1
        rw [hm]
        simp only [Bool.and_eq_true, decide_eq_true_eq, eq_iff_iff]
        constructor
        · rintro ⟨a, b, c⟩; exact ⟨⟨by omega, b⟩, c⟩
        · rintro ⟨⟨a, b⟩, c⟩; exact ⟨by omega, b, c⟩
      have HT := hid hT.symm
      have Hl1 := hid hl1
      have Hcl := hid hcl
      have Hsb := hid hsb
      have Hm := hid hm
      rw [hm] at hsr hsr2 hop ⊢
      have hgivE : ∀ V, Below w2.heap.size w2 V → Giv F V rb fv false false (.slice (some ⟨b, o, none⟩) (m + 1) sc) sr := fun V hV => ⟨hp2.below hV, Strs.soft hg.fs (Soft.of_below (hB2.trans (hV.mono hB2.size))), hsr2.below hV, sd1, hg.sm.sub hsub, by have := Hm.out; omega, hg.gy.below (hB2.trans (hV.mono hB2.size))⟩
      clear hlaw1 hT hl1 hcl hsb hm hsr b2
      go_upto_region 5 with fail
      go_cut [37] from 68 (fun s37 W => s37 = .bool T ∧ Below w2.heap.size w2 W)
      case first =>
        by_cases hx : 0 < m
        · have hxi : (0 : Int) < (m : Int) := by omega
          go_wp2_with fail
          refine (hisR _).mono ?_
          rintro e w3 ⟨rfl, b3⟩
          cases GR with
          | false =>
            have hv : T = false := by rw [HT.out]; simp
            subst hv
            go_wp2_with fail
            go_meet
            case rel => exact ⟨rfl, b3⟩
          | true =>
            go_wp2_with fail
            refine (hop _ b3).mono ?_
            rintro e w4 ⟨rfl, b4⟩
            have b4' := b3.trans (b4.mono b3.size)
            generalize openedF sr = q at *
            by_cases hq : q = 0
            · subst hq
              have hv : T = true := by rw [HT.out]; simp [hx]
              subst hv
              go_wp2_with fail
              go_meet
              case rel => exact ⟨rfl, b4'⟩
            · have hqi : ((q : Int) == 0) = false := by rw [beq_eq_false_iff_ne]; omega
              have hv : T = false := by rw [HT.out]; simp [hq]
              subst hv
              go_wp2_with fail
              go_meet
              case rel => exact ⟨rfl, b4'⟩
        · have hxi : ¬ (0 : Int) < (m : Int) := by omega
          have hv : T = false := by rw [HT.out]; simp [hx]
          subst hv
          go_wp2_with fail
          go_meet
          case rel => exact ⟨rfl, Below.refl _ _⟩
      case rest =>
        obtain ⟨rfl, bc⟩ := hcut
        have hBc := hB2.trans (bc.mono hB2.size)
        have hRc := (bc.block w.heap.size hsz2).trans hR2
        have hszc : w.heap.size < wc.heap.size := (Array.getElem?_eq_some_iff.1 hRc).1
        clear c0 c1 c2 c3 c4 hop hisR
        cases T with
        | false =>
          have hln := hid (Hl1.out.trans (if_neg (by simp)))
          have hcall := expr_all F (fuel l) wc rb fv false false _ _ (hgivE wc bc) (by have := Hm.out; unfold fuel; omega)
          go_upto_region 10 with fail
          go_wp2_with fail
          refine hcall.mono ?_
          rintro e w4 ⟨bd1, xv, x, rfl, an, fx, rs⟩
          have hR4 := (an.fr.block w.heap.size hszc (by omega)).trans hRc
          have hf4 := (Fr.of_below hBc).trans an.fr
          obtain ⟨xvs, xve, xvb, xvc, rfl, x1, x2, x3, x4, x5⟩ := fx.ex; have xform := And.intro x1.self.parts (And.intro x2.self.parts (And.intro x4.self.parts x5.self.parts)); obtain ⟨⟨xa, xc, rfl, -⟩, ⟨xe, xec, rfl, -⟩, ⟨xb, xbc, rfl, -⟩, ⟨xk, xkc, rfl, -⟩⟩ := xform
          clear hcall
          go_wp2_with (refine wpList_store_row rfl 38 _ _ rfl w.heap.size _ rfl rfl 38 _ hR4 (by kernel_rfl) (by kernel_rfl) (by kernel_rfl) ?_; go_simp)
          refine bodyPost_ret (results_cell_row rfl _ _ w.heap.size _ _ _ _ rfl (setRow_heap _ w.heap.size _ #[.int .i64 2, .string (bs ss), .int .i64 x.kind, .string (bs x.name), .int .i64 x.val.kind, .slice xa x.val.shape.length xc, .slice xe x.val.elems.length xec, .int .i64 x.fn.kind, .int .i64 x.fn.f, .int .i64 x.fn.g, .string (bs x.fn.name), .slice xb x.fn.body.len xbc, .slice xk x.kids.len xkc, .slice none 0 0] _ _ hR4) Tryz.underlying38 rfl (by kernel_rfl)) rfl ?_
          have fin : ∀ wf, Oth w.heap.size w4 wf → StmA w wf rb fv law (.returned (.agg #[.int .i64 2, .string (bs ss), .int .i64 x.kind, .string (bs x.name), .int .i64 x.val.kind, .slice xa x.val.shape.length xc, .slice xe x.val.elems.length xec, .int .i64 x.fn.kind, .int .i64 x.fn.f, .int .i64 x.fn.g, .string (bs x.fn.name), .slice xb x.fn.body.len xbc, .slice xk x.kids.len xkc, .slice none 0 0])) := fun wf ho => by
            have hw : ∀ k, Up wc.heap.size k → w.heap.size < k := fun k hk => by unfold Up at hk; have := hBc.size; omega
            exact ⟨bd1, _, ⟨2, ss, x, .nil⟩, rfl, ⟨ho.pr an.pr (by omega), ho.fr hf4 (Nat.le_refl _)⟩, ((Fresh.mkS (s := ⟨2, ss, x, .nil⟩) (x1.weak hw) (x2.weak hw) x3 (x4.weak hw) (x5.weak hw) (Fresh.nil _ _)).softF (ho.soft (fun h => Nat.lt_irrefl _ h))).weak (fun k hk => Nat.le_of_lt hk), rs.map hln.out⟩
          exact fin _ ((Oth.refl _ _).row _)
        | true =>
          have hln := hid (Hl1.out.trans (if_pos rfl))
          obtain ⟨⟨hx, hgr⟩, hq⟩ : (0 < m ∧ GR = true) ∧ openedF sr = 0 := by have := HT.out.symm; simpa using this
          have hdy : Dyck (sr.dropLast.drop 1) := by have := (Hcl.out hgr).2.1; rw [hq] at this; exact this
          have hsb := Hsb.out hx
          have hin : sr.dropLast.drop 1 ⊆ sr := fun z hz => (List.dropLast_sublist _).subset ((List.drop_sublist _ _).subset hz)
          have hil : (sr.dropLast.drop 1).length + 1 ≤ m := by rw [List.length_drop, List.length_dropLast, Hm.out]; omega
          have hMl := Hm.out
          obtain ⟨i0, hi, hz0, hz1, hz2⟩ := info_parts (show (Tryz.prog.info? 9).map (fun i => (i.zero, i.size, i.bytes)) = some (some (.string ⟨#[]⟩), 1, 16) by kernel_rfl)
          have hpc := hp2.below bc
          obtain ⟨p0, p1, p2, f0, f1, f2⟩ := hpc.cells
          have hclone := cloneS_any fv (F.map bs) wc (Strs.soft hg.fs (Soft.of_below hBc)) (by simp; omega)
          rw [List.length_map] at hclone
          clear hMl
          go_upto_region 6 with fail
          go_wp2_with fail
          refine hclone.mono ?_
          rintro e w3 ⟨kv, rfl, hown, b3⟩
          obtain ⟨ka, kc, rfl⟩ := own_slice hown
          have hz3 := b3.size
          clear hclone p0 p1 p2 f0 f1 f2
          go_upto_region 7 with (at_builtin; go_must (refine wpList_append_own_at _ rfl _ _ 22 rfl wc.heap.size 9 i0 (.string ⟨#[]⟩) 1 16 Tryz.underlying22 hi hz0 hz1 hz2 rfl (by decide) _ _ _ rfl (hown.alloc _) ⟨w3.heap.size, 0, none⟩ 1 1 [.string (bs ss)] rfl rfl (row_new w3 _ 9) (by simp [Value.oneCell']) (by simp [maxLen]; omega) (by omega) (by simp; omega) ?_); intro v' w5 hown' hgrow _ hat; obtain ⟨g', cap', rfl⟩ := ownsRow_succ hown')
          have hB5 : Below wc.heap.size wc w5 := (b3.alloc b3.size _).grown hgrow (by simp; omega) (fun k e => (hown.lt k e).1)
          have hst5 : Strs w5 (.slice (some ⟨g', 0, none⟩) (F.length + 1) cap') ((F ++ [ss]).map bs) := by
            have h := hown'
            rw [List.map_map] at h
            refine Strs.of_owns (base := wc.heap.size) (e := 9) ?_
            rw [List.length_map, List.length_append, List.map_append, List.map_append, List.map_map]
            exact h
          have hO6 := heap_alloc_new w5 (.cells #[.slice (some ⟨g', 0, none⟩) (F.length + 1) cap', .bool false, .bool false] 75)
          have hb6 := (Below.refl _ w5).alloc (Nat.le_refl _) (.cells #[.slice (some ⟨g', 0, none⟩) (F.length + 1) cap', .bool false, .bool false] 75)
          have hz6 : w5.heap.size < (w5.alloc (.cells #[.slice (some ⟨g', 0, none⟩) (F.length + 1) cap', .bool false, .bool false] 75)).heap.size := by simp
          generalize w5.alloc (.cells #[.slice (some ⟨g', 0, none⟩) (F.length + 1) cap', .bool false, .bool false] 75) = w6 at *
          have hB6 := hB5.trans (hb6.mono hB5.size)
          have hBw := hBc.trans (hB6.mono hBc.size)
          have hgiv : Giv (F ++ [ss]) w6 w5.heap.size (.slice (some ⟨g', 0, none⟩) (F.length + 1) cap') false false (.slice (some ⟨b, o + 1 * 5, none⟩) (m - 1) (sc - 1)) (sr.dropLast.drop 1) :=
            ⟨hO6, hst5.below hb6, hsb _ ((hsr2.below bc).below hB6), hdy, hg.sm.sub (fun z hz => hsub (hin hz)), by have := Hm.out; omega, hg.gy.below hBw⟩
          have hcall := lines_all (F ++ [ss]) (fuel l) w6 w5.heap.size _ false false _ _ hgiv (by have := Hm.out; unfold fuel; omega)
          have hm1c : (m : Int) ≤ (sc : Int) := by omega
          have h1m : (1 : Int) ≤ (m : Int) := by omega
          have hc1 : ¬ sc = 1 := by omega
          have hR6 := (hB6.block _ hszc).trans hRc
          have hp6 := hpc.below hB6
          have hwc5 := hB5.size
          clear hown hown' hgrow hat b3 hB5 hst5 hb6 hgiv hz3
          go_wp2_with fail
          refine hcall.mono ?_
          rintro e w7 ⟨bd1, xv, x, rfl, an, fx, rs⟩
          obtain ⟨xa, xc, rfl, -⟩ := fx.self.parts
          have hR7 := (an.fr.block w.heap.size (by omega) (by omega)).trans hR6
          have hp7 : PR w7 rb fv false false := (an.fr.block rb hp6.lt (by omega)).trans hp6
          have hz7 := an.fr.size
          have hF7 : Fr rb w w7 := ⟨an.fr.os.trans hBw.os, an.fr.tape.trans hBw.tape, an.fr.output.trans hBw.output, Nat.le_trans hBw.size an.fr.size, fun k hk hn => (an.fr.block k (Nat.lt_of_lt_of_le hk hBw.size) (by omega)).trans (hBw.block k hk)⟩
          have hb8 := (Below.refl _ w7).alloc (Nat.le_refl _) (.cells #[.int .i64 3, .string (bs ss), .int .i64 0, .string ⟨#[]⟩, .int .i64 0, .slice none 0 0, .slice none 0 0, .int .i64 0, .int .i64 0, .int .i64 0, .string ⟨#[]⟩, .slice none 0 0, .slice none 0 0, .slice xa x.len xc] 38)
          have hS8 := heap_alloc_new w7 (.cells #[.int .i64 3, .string (bs ss), .int .i64 0, .string ⟨#[]⟩, .int .i64 0, .slice none 0 0, .slice none 0 0, .int .i64 0, .int .i64 0, .int .i64 0, .string ⟨#[]⟩, .slice none 0 0, .slice none 0 0, .slice xa x.len xc] 38)
          clear hcall hR6 hO6
          go_upto_region 8 with fail
          generalize w7.alloc (.cells #[.int .i64 3, .string (bs ss), .int .i64 0, .string ⟨#[]⟩, .int .i64 0, .slice none 0 0, .slice none 0 0, .int .i64 0, .int .i64 0, .int .i64 0, .string ⟨#[]⟩, .slice none 0 0, .slice none 0 0, .slice xa x.len xc] 38) = w8 at *
          have hR8 := (hb8.block _ (Array.getElem?_eq_some_iff.1 hR7).1).trans hR7
          have hp8 := hp7.below hb8
          have ho8 := an.pr.below hb8
          have hF8 := hF7.trans (Fr.of_below hb8)
          obtain ⟨p0, p1, p2, f0, f1, f2⟩ := hp8.cells
          obtain ⟨y0, y1, y2, z0, z1, z2⟩ := ho8.cells
          have hS9 := (Below.heap_setCell w8 ⟨rb, 2, none⟩ (.bool bd1) w7.heap.size (by simp; omega)).trans hS8
          have hR9 := (Below.heap_setCell w8 ⟨rb, 2, none⟩ (.bool bd1) w.heap.size (by simp; omega)).trans hR8
          have fin : ∀ wf, Oth w.heap.size (w8.setCell ⟨rb, 2, none⟩ (.bool bd1)) wf → StmA w wf rb fv law (.returned (.agg #[.int .i64 3, .string (bs ss), .int .i64 0, .string ⟨#[]⟩, .int .i64 0, .slice none 0 0, .slice none 0 0, .int .i64 0, .int .i64 0, .int .i64 0, .string ⟨#[]⟩, .slice none 0 0, .slice none 0 0, .slice xa x.len xc])) := fun wf ho => by
            have hw : ∀ k, Up w6.heap.size k → w.heap.size < k ∧ k ≠ rb := fun k hk => by unfold Up at hk; omega
            have fb : Fresh (fun k => w.heap.size < k ∧ k ≠ rb) (w8.setCell ⟨rb, 2, none⟩ (.bool bd1)) (IsTs · (.slice xa x.len xc) x) := ((fx.weak hw).soft (Soft.of_below hb8)).softF ((SoftF.refl _ w8).put rb 2 (.bool bd1) (fun h => h.2 rfl))
            exact ⟨bd1, _, ⟨3, ss, noEx, x⟩, rfl, ⟨ho.pr (hp8.set bd1) (by omega), ho.fr (hF8.set _) (Nat.le_refl _)⟩, ((Fresh.mkS (s := ⟨3, ss, noEx, x⟩) (Fresh.ints0 _ _) (Fresh.ints0 _ _) (fun i hi => by simp [noEx, noArr] at hi) (Fresh.nil _ _) (Fresh.nil _ _) (fb.weak (fun k hk => hk.1))).softF (ho.soft (fun h => Nat.lt_irrefl _ h))).weak (fun k hk => Nat.le_of_lt hk), rs.map hln.out⟩
          have Fin := hid fin
          clear fin hR7 hp7 hF7 hS8 hR8
          go_wp2_with (first
            | (refine wpList_load_rowE rfl 38 _ rfl w7.heap.size rfl 38 _ _ _ hS9 Tryz.underlying38 rfl (by kernel_rfl) ?_; go_simp)
            | (refine wpList_store_row rfl 38 _ _ rfl w.heap.size _ rfl rfl 38 _ hR9 (by kernel_rfl) (by kernel_rfl) (by kernel_rfl) ?_; go_simp))
          refine bodyPost_ret (results_cell_row rfl _ _ w.heap.size _ _ _ _ rfl (setRow_heap _ w.heap.size _ #[.int .i64 3, .string (bs ss), .int .i64 0, .string ⟨#[]⟩, .int .i64 0, .slice none 0 0, .slice none 0 0, .int .i64 0, .int .i64 0, .int .i64 0, .string ⟨#[]⟩, .slice none 0 0, .slice none 0 0, .slice xa x.len xc] _ _ hR9) Tryz.underlying38 rfl (by kernel_rfl)) rfl ?_
          exact Fin.out _ ((Oth.refl _ _).row _)
  · -- a value
    have hlaw1 := HlawE.out
    rw [hss] at hlaw1
    simp only at hlaw1
    have hln := hid hlaw1
    clear hlaw1
    rw [show bs [] = ⟨#[]⟩ from rfl]
    go_upto_region 3 with fail
    have hcall := expr_all F (fuel l) w2 rb fv false false _ _ (⟨hp2, Strs.soft hg.fs (Soft.of_below hB2), htk2, hg.dy, hg.sm, hg.le, hg.gy.below hB2⟩) (by unfold fuel; omega)
    go_wp2_with fail
    refine hcall.mono ?_
    rintro e w4 ⟨bd1, xv, x, rfl, an, fx, rs⟩
    obtain ⟨xvs, xve, xvb, xvc, rfl, x1, x2, x3, x4, x5⟩ := fx.ex; have xform := And.intro x1.self.parts (And.intro x2.self.parts (And.intro x4.self.parts x5.self.parts)); obtain ⟨⟨xa, xc, rfl, -⟩, ⟨xe, xec, rfl, -⟩, ⟨xb, xbc, rfl, -⟩, ⟨xk, xkc, rfl, -⟩⟩ := xform
    have hR4 := (an.fr.block w.heap.size hsz2 (by omega)).trans hR2
    have hf4 := (Fr.of_below hB2).trans an.fr
    clear hcall
    go_wp2_with (refine wpList_store_row rfl 38 _ _ rfl w.heap.size _ rfl rfl 38 _ hR4 (by kernel_rfl) (by kernel_rfl) (by kernel_rfl) ?_; go_simp)
    refine bodyPost_ret (results_cell_row rfl _ _ w.heap.size _ _ _ _ rfl (setRow_heap _ w.heap.size _ #[.int .i64 1, .string ⟨#[]⟩, .int .i64 x.kind, .string (bs x.name), .int .i64 x.val.kind, .slice xa x.val.shape.length xc, .slice xe x.val.elems.length xec, .int .i64 x.fn.kind, .int .i64 x.fn.f, .int .i64 x.fn.g, .string (bs x.fn.name), .slice xb x.fn.body.len xbc, .slice xk x.kids.len xkc, .slice none 0 0] _ _ hR4) Tryz.underlying38 rfl (by kernel_rfl)) rfl ?_
    have fin : ∀ wf, Oth w.heap.size w4 wf → StmA w wf rb fv law (.returned (.agg #[.int .i64 1, .string ⟨#[]⟩, .int .i64 x.kind, .string (bs x.name), .int .i64 x.val.kind, .slice xa x.val.shape.length xc, .slice xe x.val.elems.length xec, .int .i64 x.fn.kind, .int .i64 x.fn.f, .int .i64 x.fn.g, .string (bs x.fn.name), .slice xb x.fn.body.len xbc, .slice xk x.kids.len xkc, .slice none 0 0])) := fun wf ho => by
      have hw : ∀ k, Up w2.heap.size k → w.heap.size < k := fun k hk => by unfold Up at hk; omega
      exact ⟨bd1, _, ⟨1, [], x, .nil⟩, rfl, ⟨ho.pr an.pr (by omega), ho.fr hf4 (Nat.le_refl _)⟩, ((Fresh.mkS (s := ⟨1, [], x, .nil⟩) (x1.weak hw) (x2.weak hw) x3 (x4.weak hw) (x5.weak hw) (Fresh.nil _ _)).softF (ho.soft (fun h => Nat.lt_irrefl _ h))).weak (fun k hk => Nat.le_of_lt hk), rs.map hln.out⟩
    exact fin _ ((Oth.refl _ _).row _)
end Go.Proofs.YthlingdlehdlhaaGreatDoor.Par

namespace Go.Proofs.YthlingdlehdlhaaGreatDoor.Par
open Go.RowKit Go.Shelf
set_option linter.unusedVariables false
set_option linter.unusedSimpArgs false

/-- A list of tokens' tree, or the error. -/
def stateOf (F : List (List UInt8)) (l : List Tok) : Stm × Int :=
  if (matchedF l).2 = false then (noStm, 170) else if 50 < (matchedF l).1 then (noStm, 9) else match stmtF F l with | none => (noStm, 170) | some x => (x, 0)
theorem stateOf_ok (F : List (List UInt8)) (l : List Tok) : (stateOf F l).1.expr.ok = true ∧ (stateOf F l).1.body.ok false = true := by
  have h0 : noStm.expr.ok = true ∧ noStm.body.ok false = true := by decide
  unfold stateOf
  split
  · exact h0
  · split
    · exact h0
    · split
      · exact h0
      · rename_i x h; exact stmt_ok F l x h
theorem noStm_fresh (base : Nat → Prop) (w : World) : Fresh base w (IsS · (.agg #[.int .i64 0, .string ⟨#[]⟩, .int .i64 0, .string ⟨#[]⟩, .int .i64 0, .slice none 0 0, .slice none 0 0, .int .i64 0, .int .i64 0, .int .i64 0, .string ⟨#[]⟩, .slice none 0 0, .slice none 0 0, .slice none 0 0]) noStm) :=
  Fresh.mkS (s := noStm) (Fresh.ints0 _ _) (Fresh.ints0 _ _) (fun i hi => by simp [noStm, noEx, noArr] at hi) (Fresh.nil _ _) (Fresh.nil _ _) (Fresh.nil _ _)
/-- What is answered: a tree of new memory, and the error's number. -/
def StateA (w w' : World) (p : Stm × Int) (e : Ending) : Prop :=
  (∃ xv, e = .returned (.tuple #[xv, .int .i64 p.2]) ∧ Fresh (Up w.heap.size) w' (IsS · xv p.1)) ∧ Below w.heap.size w w'
theorem state_zero {w wf : World} {p : Stm × Int} {n : Int} (hp : p = (noStm, n)) (hb : Below w.heap.size w wf) : StateA w wf p (.returned (.tuple #[.agg #[.int .i64 0, .string ⟨#[]⟩, .int .i64 0, .string ⟨#[]⟩, .int .i64 0, .slice none 0 0, .slice none 0 0, .int .i64 0, .int .i64 0, .int .i64 0, .string ⟨#[]⟩, .slice none 0 0, .slice none 0 0, .slice none 0 0], .int .i64 n])) := by
  subst hp; exact ⟨⟨_, rfl, noStm_fresh _ _⟩, hb⟩
set_option maxRecDepth 100000 in
set_option maxHeartbeats 8000000 in
theorem pStatement_any (F : List (List UInt8)) (hF : F.length ≤ 1000) (v fv : Value) (l : List Tok) (w : World) (htk : IsToks w v l) (hfs : Strs w fv (F.map bs)) (hsm : Small l) (hle : l.length ≤ 8000000) (hgy : Gly w) :
    Calls Tryz.prog 7 #[v, fv] w fun e w' => StateA w w' (stateOf F l) e := by
  obtain ⟨a, c, rfl⟩ := toks_parts htk
  obtain ⟨fa, fc, hfv, -⟩ := id hfs
  rw [List.length_map] at hfv
  subst hfv
  obtain ⟨p, hp⟩ : ∃ p, stateOf F l = p := ⟨_, rfl⟩
  have hpE : p = stateOf F l := hp.symm
  rw [hp]
  unfold stateOf at hpE
  have hdy := fun (h : matchedF l = ((matchedF l).1, true)) => match_dyck h
  have hmat := fun V (hb : Below w.heap.size w V) => matched_any _ l V (htk.below hb) hle
  obtain ⟨d, hd⟩ : ∃ d, (matchedF l).1 = d := ⟨_, rfl⟩
  obtain ⟨f, hf⟩ : ∃ f, (matchedF l).2 = f := ⟨_, rfl⟩
  have hdy2 : f = true → Dyck l := fun h => by
    refine match_dyck (d := (matchedF l).1) ?_
    rw [← h, ← hf]
  simp only [hd, hf] at hpE hmat
  have HpE := hid hpE
  clear hd hf hpE hp hdy
  have hA := fun o => (Below.refl _ w).alloc (Nat.le_refl _) o
  have hN0 := fun o => heap_alloc_new w o
  go_enter Tryz.func7, Tryz.ntmps7
  go_wp2_with fail
  refine (hmat _ (hA _)).mono ?_
  rintro e w2 ⟨rfl, b2⟩
  have hB2 := (hA _).trans (b2.mono (hA _).size)
  have hR2 := (b2.block w.heap.size (by simp)).trans (hN0 _)
  have hsz2 : w.heap.size < w2.heap.size := (Array.getElem?_eq_some_iff.1 hR2).1
  clear hmat hA hN0
  cases f with
  | false =>
    have hp1 := hid (HpE.out.trans (if_pos rfl))
    clear HpE
    go_wp2_with (refine wpList_store_row rfl 38 _ _ rfl w.heap.size _ rfl rfl 38 _ hR2 (by kernel_rfl) (by kernel_rfl) (by kernel_rfl) ?_; go_simp)
    refine bodyPost_ret (results_row_tmp rfl _ _ w.heap.size _ _ _ _ rfl (setRow_heap w2 w.heap.size _ #[.int .i64 0, .string ⟨#[]⟩, .int .i64 0, .string ⟨#[]⟩, .int .i64 0, .slice none 0 0, .slice none 0 0, .int .i64 0, .int .i64 0, .int .i64 0, .string ⟨#[]⟩, .slice none 0 0, .slice none 0 0, .slice none 0 0] _ _ hR2) Tryz.underlying38 rfl (by kernel_rfl)) rfl ?_
    exact state_zero hp1.out (((Oth.refl _ _).row _).below hB2 (Nat.le_refl _))
  | true =>
    have hp1 := hid (HpE.out.trans (if_neg (by simp)))
    clear HpE
    by_cases h50 : 50 < d
    · have hp2 := hid (hp1.out.trans (if_pos h50))
      have h50' : decide (50 < d) = true := by simpa using h50
      clear hp1
      go_wp2_with (refine wpList_store_row rfl 38 _ _ rfl w.heap.size _ rfl rfl 38 _ hR2 (by kernel_rfl) (by kernel_rfl) (by kernel_rfl) ?_; go_simp)
      refine bodyPost_ret (results_row_tmp rfl _ _ w.heap.size _ _ _ _ rfl (setRow_heap w2 w.heap.size _ #[.int .i64 0, .string ⟨#[]⟩, .int .i64 0, .string ⟨#[]⟩, .int .i64 0, .slice none 0 0, .slice none 0 0, .int .i64 0, .int .i64 0, .int .i64 0, .string ⟨#[]⟩, .slice none 0 0, .slice none 0 0, .slice none 0 0] _ _ hR2) Tryz.underlying38 rfl (by kernel_rfl)) rfl ?_
      exact state_zero hp2.out (((Oth.refl _ _).row _).below hB2 (Nat.le_refl _))
    · have hp2 := hid (hp1.out.trans (if_neg h50))
      have h50' : decide (50 < d) = false := by simpa using h50
      clear hp1
      have hO3 := heap_alloc_new w2 (.cells #[.slice fa F.length fc, .bool false, .bool false] 75)
      have hb3 := (Below.refl _ w2).alloc (Nat.le_refl _) (.cells #[.slice fa F.length fc, .bool false, .bool false] 75)
      go_upto_region 7 with fail
      generalize w2.alloc (.cells #[.slice fa F.length fc, .bool false, .bool false] 75) = w3 at *
      have hB3 := hB2.trans (hb3.mono hB2.size)
      have hR3 := (hb3.block _ hsz2).trans hR2
      have hcall := statement_any F hF w3 w2.heap.size _ _ l ⟨hO3, Strs.soft hfs (Soft.of_below hB3), htk.below hB3, hdy2 (by simp), hsm, hle, hgy.below hB3⟩
      obtain ⟨law, hlaw⟩ : ∃ q, stmtF F l = q := ⟨_, rfl⟩
      have hp3 := hp2.out
      rw [hlaw] at hcall hp3
      have Hp3 := hid hp3
      have hz3 := hb3.size
      have hsz3 : w2.heap.size < w3.heap.size := (Array.getElem?_eq_some_iff.1 hO3).1
      clear hlaw hp3 hp2 hdy2
      go_wp2_with fail
      refine hcall.mono ?_
      rintro e w4 ⟨bd, xv, x, rfl, an, fx, rs⟩
      obtain ⟨xvs, xve, xvb, xvc, xvd, rfl, x1, x2, x3, x4, x5, x6⟩ := fx.stm; have xform := And.intro x1.self.parts (And.intro x2.self.parts (And.intro x4.self.parts (And.intro x5.self.parts x6.self.parts))); obtain ⟨⟨xa, xc, rfl, -⟩, ⟨xe, xec, rfl, -⟩, ⟨xb, xbc, rfl, -⟩, ⟨xk, xkc, rfl, -⟩, ⟨xd, xdc, rfl, -⟩⟩ := xform
      have hR4 := (an.fr.block w.heap.size (by omega) (by omega)).trans hR3
      have hB4 : Below w.heap.size w w4 := ⟨an.fr.os.trans hB3.os, an.fr.tape.trans hB3.tape, an.fr.output.trans hB3.output, Nat.le_trans hB3.size an.fr.size, fun k hk => (an.fr.block k (by omega) (by omega)).trans (hB3.block k hk)⟩
      have hb5 := (Below.refl _ w4).alloc (Nat.le_refl _) (.cells #[.int .i64 x.kind, .string (bs x.name), .int .i64 x.expr.kind, .string (bs x.expr.name), .int .i64 x.expr.val.kind, .slice xa x.expr.val.shape.length xc, .slice xe x.expr.val.elems.length xec, .int .i64 x.expr.fn.kind, .int .i64 x.expr.fn.f, .int .i64 x.expr.fn.g, .string (bs x.expr.fn.name), .slice xb x.expr.fn.body.len xbc, .slice xk x.expr.kids.len xkc, .slice xd x.body.len xdc] 38)
      have hS5 := heap_alloc_new w4 (.cells #[.int .i64 x.kind, .string (bs x.name), .int .i64 x.expr.kind, .string (bs x.expr.name), .int .i64 x.expr.val.kind, .slice xa x.expr.val.shape.length xc, .slice xe x.expr.val.elems.length xec, .int .i64 x.expr.fn.kind, .int .i64 x.expr.fn.f, .int .i64 x.expr.fn.g, .string (bs x.expr.fn.name), .slice xb x.expr.fn.body.len xbc, .slice xk x.expr.kids.len xkc, .slice xd x.body.len xdc] 38)
      clear hcall
      go_upto_region 8 with fail
      generalize w4.alloc (.cells #[.int .i64 x.kind, .string (bs x.name), .int .i64 x.expr.kind, .string (bs x.expr.name), .int .i64 x.expr.val.kind, .slice xa x.expr.val.shape.length xc, .slice xe x.expr.val.elems.length xec, .int .i64 x.expr.fn.kind, .int .i64 x.expr.fn.f, .int .i64 x.expr.fn.g, .string (bs x.expr.fn.name), .slice xb x.expr.fn.body.len xbc, .slice xk x.expr.kids.len xkc, .slice xd x.body.len xdc] 38) = w5 at *
      have hB5 := hB4.trans (hb5.mono hB4.size)
      have hR5 := (hb5.block _ (Array.getElem?_eq_some_iff.1 hR4).1).trans hR4
      obtain ⟨y0, y1, y2, z0, z1, z2⟩ := (an.pr.below hb5).cells
      cases bd with
      | true =>
        have hn : law = none := by
          rcases rs.bad with h | h
          · cases h
          · exact h
        have hp4 := hid (show p = (noStm, 170) by rw [Hp3.out, hn])
        clear Hp3 rs hn
        go_wp2_with (refine wpList_store_row rfl 38 _ _ rfl w.heap.size _ rfl rfl 38 _ hR5 (by kernel_rfl) (by kernel_rfl) (by kernel_rfl) ?_; go_simp)
        refine bodyPost_ret (results_row_tmp rfl _ _ w.heap.size _ _ _ _ rfl (setRow_heap w5 w.heap.size _ #[.int .i64 0, .string ⟨#[]⟩, .int .i64 0, .string ⟨#[]⟩, .int .i64 0, .slice none 0 0, .slice none 0 0, .int .i64 0, .int .i64 0, .int .i64 0, .string ⟨#[]⟩, .slice none 0 0, .slice none 0 0, .slice none 0 0] _ _ hR5) Tryz.underlying38 rfl (by kernel_rfl)) rfl ?_
        exact state_zero hp4.out (((Oth.refl _ _).row _).below hB5 (Nat.le_refl _))
      | false =>
        have hn : law = some x := rs.good.2
        have hp4 := hid (show p = (x, 0) by rw [Hp3.out, hn])
        clear Hp3 rs hn
        have fin : ∀ wf, Oth w.heap.size w5 wf → StateA w wf p (.returned (.tuple #[.agg #[.int .i64 x.kind, .string (bs x.name), .int .i64 x.expr.kind, .string (bs x.expr.name), .int .i64 x.expr.val.kind, .slice xa x.expr.val.shape.length xc, .slice xe x.expr.val.elems.length xec, .int .i64 x.expr.fn.kind, .int .i64 x.expr.fn.f, .int .i64 x.expr.fn.g, .string (bs x.expr.fn.name), .slice xb x.expr.fn.body.len xbc, .slice xk x.expr.kids.len xkc, .slice xd x.body.len xdc], .int .i64 0])) := fun wf ho => by
          have hw : ∀ k, Up w3.heap.size k → w.heap.size < k := fun k hk => by unfold Up at hk; omega
          have hs5 := Soft.of_below hb5
          rw [hp4.out]
          exact ⟨⟨_, rfl, ((Fresh.mkS (s := x) ((x1.weak hw).soft hs5) ((x2.weak hw).soft hs5) x3 ((x4.weak hw).soft hs5) ((x5.weak hw).soft hs5) ((x6.weak hw).soft hs5)).softF (ho.soft (fun h => Nat.lt_irrefl _ h))).weak (fun k hk => Nat.le_of_lt hk)⟩, ho.below hB5 (Nat.le_refl _)⟩
        have Fin := hid fin
        clear fin
        go_wp2_with (first
          | (refine wpList_load_rowE rfl 38 _ rfl w4.heap.size rfl 38 _ _ _ hS5 Tryz.underlying38 rfl (by kernel_rfl) ?_; go_simp)
          | (refine wpList_store_row rfl 38 _ _ rfl w.heap.size _ rfl rfl 38 _ hR5 (by kernel_rfl) (by kernel_rfl) (by kernel_rfl) ?_; go_simp))
        refine bodyPost_ret (results_row_tmp rfl _ _ w.heap.size _ _ _ _ rfl (setRow_heap _ w.heap.size _ #[.int .i64 x.kind, .string (bs x.name), .int .i64 x.expr.kind, .string (bs x.expr.name), .int .i64 x.expr.val.kind, .slice xa x.expr.val.shape.length xc, .slice xe x.expr.val.elems.length xec, .int .i64 x.expr.fn.kind, .int .i64 x.expr.fn.f, .int .i64 x.expr.fn.g, .string (bs x.expr.fn.name), .slice xb x.expr.fn.body.len xbc, .slice xk x.expr.kids.len xkc, .slice xd x.body.len xdc] _ _ hR5) Tryz.underlying38 rfl (by kernel_rfl)) rfl ?_
        exact Fin.out _ ((Oth.refl _ _).row _)
theorem chain_good : ∀ T : List Tok, Chain T → ∀ t ∈ T, Good t
  | [], _, t, ht => by cases ht
  | u :: r, h, t, ht => by
    obtain ⟨h1, -, h3⟩ := h
    rcases List.mem_cons.1 ht with rfl | ht
    · exact h1
    · exact chain_good r h3 t ht
theorem chain_small {l : List Tok} (h : Chain l) : Small l := fun t ht => by
  have hg := chain_good l h t ht
  rcases hg with ⟨k, tx, hc, hr⟩ | ⟨k, hn, hv⟩ | ⟨k, hg, hv⟩
  · have h1 := (canV_parts hc).2.2.2.2
    unfold canV at hc
    simp only [Bool.and_eq_true, Bool.or_eq_true, decide_eq_true_eq] at hc
    exact ⟨by omega, by omega⟩
  · rw [hv]; exact ⟨by decide, by decide⟩
  · rw [hv]; exact ⟨by decide, by decide⟩
end Go.Proofs.YthlingdlehdlhaaGreatDoor.Par

namespace Go.Proofs.YthlingdlehdlhaaGreatDoor.Par
open Go.RowKit Go.Shelf
set_option linter.unusedVariables false
set_option linter.unusedSimpArgs false

end Go.Proofs.YthlingdlehdlhaaGreatDoor.Par
