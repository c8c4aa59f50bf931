/- parse: operands, walked. -/
import Derived.Test.YthlingdlehdlhaaGreatDoorPC
import Derived.Deep.Cut
namespace Go.Proofs.YthlingdlehdlhaaGreatDoor.Par
open Go.RowKit Go.Shelf
set_option linter.unusedVariables false
set_option linter.unusedSimpArgs false

def IndexC (F : List (List UInt8)) (n : Nat) : Prop := ∀ (w : World) (rb : Nat) (fv : Value) (ins bad : Bool) (v : Value) (l : List Tok) (t : Tok), Giv F w rb fv ins bad v l → l.getLast? = some t → isG t gRB = true → 8 * l.length + 1 ≤ n →
  Calls Tryz.prog 156 #[.pointer (some ⟨rb, 0, none⟩), v] w fun e w' => OperA w w' rb fv ins bad v l (operandF F n ins l) e
theorem noEx_fresh (base : Nat → Prop) (w : World) : Fresh base w (IsE · (.agg #[.int .i64 0, .string ⟨#[]⟩, .int .i64 0, .slice none 0 0, .slice none 0 0, .int .i64 0, .int .i64 0, .int .i64 0, .string ⟨#[]⟩, .slice none 0 0, .slice none 0 0]) noEx) :=
  Fresh.mkEx (x := noEx) (Fresh.ints0 _ _) (Fresh.ints0 _ _) (fun i hi => by simp [noEx, noArr] at hi) (Fresh.nil _ _) (Fresh.nil _ _)
theorem op_none {F : List (List UInt8)} {n : Nat} {ins : Bool} {l : List Tok} (h : endsF F l = false) : operandF F n ins l = none := by
  cases n with
  | zero => rw [operandF]
  | succ n =>
    rw [operandF]
    cases ht : l.getLast? with
    | none => rfl
    | some t =>
      have he : endsT F t = false := by unfold endsF at h; rw [ht] at h; exact h
      unfold endsT at he
      simp only [Bool.or_eq_false_iff, Bool.and_eq_false_iff, decide_eq_false_iff_not, Bool.not_eq_false'] at he
      obtain ⟨⟨⟨⟨⟨h1, h2⟩, h3⟩, h4⟩, h5⟩, h6⟩ := he
      simp only [if_neg h1, h3, h4, h5, h6, Bool.false_eq_true, if_false, and_false]
      by_cases k2 : t.kind = 2
      · rcases h2 with h2 | h2
        · exact absurd k2 h2
        · rw [if_pos k2, if_pos h2]
      · rw [if_neg k2]
theorem ends_some {F : List (List UInt8)} {l : List Tok} (h : endsF F l = true) : ∃ t, l.getLast? = some t := by
  unfold endsF at h
  split at h
  · cases h
  · exact ⟨_, by assumption⟩
theorem heap_drew (w : World) (k : Nat) : w.drew.heap[k]? = w.heap[k]? := rfl
/-- Ahead of the result's row: what a failing leaves. -/
theorem oper_none {w wf : World} {rb : Nat} {fv : Value} {ins bad : Bool} {v : Value} {l : List Tok} {law : Option (Ex × List Tok)} (hl : law = none) (hp : PR wf rb fv ins true) (hf : Fr rb w wf) :
    OperA w wf rb fv ins bad v l law (.returned (.tuple #[.agg #[.int .i64 0, .string ⟨#[]⟩, .int .i64 0, .slice none 0 0, .slice none 0 0, .int .i64 0, .int .i64 0, .int .i64 0, .string ⟨#[]⟩, .slice none 0 0, .slice none 0 0], .slice none 0 0])) :=
  ⟨true, _, _, noEx, [], rfl, ⟨hp, hf⟩, noEx_fresh _ _, Sub.nil _ _, Rest.nil _, Res.none hl bad _⟩
set_option maxRecDepth 100000 in
set_option maxHeartbeats 8000000 in
theorem operand_step (F : List (List UInt8)) (n : Nat) (hE : ∀ m, m ≤ n → ExprC F m) (hI : IndexC F (n + 1)) : OperC F (n + 1) := by
  intro w rb fv ins bad v l hg hfu
  have hlt := hg.pr.lt
  obtain ⟨a, c, rfl⟩ := toks_parts hg.tk
  obtain ⟨law, hlaw⟩ : ∃ law, operandF F (n + 1) ins l = law := ⟨_, rfl⟩

  have hA := fun o => (Below.refl _ w).alloc (Nat.le_refl _) o
  have hN0 := fun o => heap_alloc_new w o
  obtain ⟨E, hE0⟩ : ∃ b, endsF F l = b := ⟨_, rfl⟩
  have hends := fun V (hb : Below w.heap.size w V) => ends_any V rb fv ins bad F (hg.pr.below hb) (Strs.soft hg.fs (Soft.of_below hb)) _ l (hg.tk.below hb)
  rw [hE0] at hends
  cases E with
  | false =>
    have hnone := op_none (n := n + 1) (ins := ins) hE0
    rw [hlaw] at hnone ⊢
    have Hnone := hid hnone
    clear hlaw hnone
    go_enter Tryz.func127, Tryz.ntmps127
    go_wp2_with fail
    refine (hends _ (hA _)).mono ?_
    rintro e w1 ⟨rfl, b1⟩
    have hB1 := (hA _).trans (b1.mono (hA _).size)
    have hR1 := (b1.block w.heap.size (by simp)).trans (hN0 _)
    have hsz1 : w.heap.size < w1.heap.size := (Array.getElem?_eq_some_iff.1 hR1).1
    have hfail := fail_any w1 rb fv ins bad (hg.pr.below hB1)
    clear hends hA hN0
    go_wp2_with fail
    refine hfail.mono ?_
    rintro e w2 ⟨rfl, hp2, hf2⟩
    have hR2 := (hf2.block w.heap.size hsz1 (by omega)).trans hR1
    have hF2 := (Fr.of_below hB1).trans hf2
    clear hfail hR1
    unfold exZero
    go_wp2_with (refine wpList_store_row rfl 36 _ _ rfl w.heap.size _ rfl rfl 36 _ hR2 (by kernel_rfl) (by kernel_rfl) (by kernel_rfl) ?_; go_simp)
    refine bodyPost_ret (results_row_tmp rfl _ _ w.heap.size _ _ _ _ rfl (setRow_heap w2 w.heap.size _ #[.int .i64 0, .string ⟨#[]⟩, .int .i64 0, .slice none 0 0, .slice none 0 0, .int .i64 0, .int .i64 0, .int .i64 0, .string ⟨#[]⟩, .slice none 0 0, .slice none 0 0] _ _ hR2) Tryz.underlying36 rfl (by kernel_rfl)) rfl ?_
    exact oper_none Hnone.out (((Oth.refl _ _).row _).pr hp2 (by omega)) (((Oth.refl _ _).row _).fr hF2 (Nat.le_refl _))
  | true =>
    obtain ⟨t, ht⟩ := ends_some hE0
    have hl0 := hg.tk
    obtain ⟨b, o, c', m, vs, ve, e0, hm, hm1, hm2, ⟨c0, c1, c2, c3, c4⟩, i1, i2, i3⟩ := toks_last hl0 ht
    simp only [Value.slice.injEq] at e0
    obtain ⟨rfl, -, rfl⟩ := e0
    obtain ⟨sa, sc, rfl, -⟩ := i1.parts
    obtain ⟨ea, ec, rfl, -⟩ := i2.parts
    have hsm := hg.sm t (List.mem_of_getLast? ht)
    have hcm : (m : Int) + 1 ≤ (c : Int) := by omega
    have hcm2 : (m : Int) ≤ (c : Int) := by omega
    have hm0 : (0 : Int) ≤ (m : Int) := by omega
    have hwr : IntKind.i64.wrap (((m + 1 : Nat) : Int) - 1) = (m : Int) := by
      have := hg.le
      rw [show ((m + 1 : Nat) : Int) - 1 = (m : Int) by omega]; exact IntWalk.i64_in _ (by omega)
    have hwr2 : IntKind.i64.wrap ((m : Int) + 1 - 1) = (m : Int) := by
      have := hg.le
      rw [show (m : Int) + 1 - 1 = (m : Int) by omega]; exact IntWalk.i64_in _ (by omega)
    have hml : (m : Int) < ((m + 1 : Nat) : Int) := by omega
    -- what is left, by cutting the last token
    have hinit : wt t = 0 → Rest l l.dropLast := fun hw => Rest.of_pre (Pre.init hg.dy ht hw)
    have hsub : ∀ rv, rv = .slice (some ⟨b, o, none⟩) m c → Sub (.slice (some ⟨b, o, none⟩) l.length c) l rv l.dropLast := fun rv hrv => by
      subst hrv
      have h := Sub.seg (a := some ⟨b, o, none⟩) (c := c) (l := l) (p := (0, m)) (Nat.zero_le _) (by omega)
      have e1 : seg l (0, m) = l.dropLast := by unfold seg; rw [List.drop_zero, drop_last (by omega)]; congr 1; omega
      have e2 : segV (some ⟨b, o, none⟩) c (0, m) = .slice (some ⟨b, o, none⟩) m c := by unfold segV; simp
      rw [e1, e2] at h; exact h
    have Hm := hid hm
    rw [hm] at hg hends hsub ⊢
    clear hm hl0
    have Hinit := hid hinit
    have Hsub := hid hsub
    have hlawE : law = operandF F (n + 1) ins l := hlaw.symm
    rw [operandF, ht] at hlawE
    simp only at hlawE
    have HlawE := hid hlawE
    rw [hlaw]
    have Hlaw := hid hlaw
    have HT := hid (show endsT F t = true by unfold endsF at hE0; rw [ht] at hE0; exact hE0)
    clear hlaw hlawE hinit hsub hE0
    go_enter Tryz.func127, Tryz.ntmps127
    go_wp2_with fail
    refine (hends _ (hA _)).mono ?_
    rintro e w1 ⟨rfl, b1⟩
    have hB1 := (hA _).trans (b1.mono (hA _).size)
    have hR1 := (b1.block w.heap.size (by simp)).trans (hN0 _)
    have hsz1 : w.heap.size < w1.heap.size := (Array.getElem?_eq_some_iff.1 hR1).1
    replace c0 := (hB1.cell (World.block_lt_of_cell? w _ c0)).trans c0
    replace c1 := (hB1.cell (World.block_lt_of_cell? w _ c1)).trans c1
    replace c2 := (hB1.cell (World.block_lt_of_cell? w _ c2)).trans c2
    replace c3 := (hB1.cell (World.block_lt_of_cell? w _ c3)).trans c3
    replace c4 := (hB1.cell (World.block_lt_of_cell? w _ c4)).trans c4
    clear hends hA hN0
    go_upto_region 5 with fail
    have hB2 := hB1.alloc hB1.size (.cells #[.int .i64 t.kind, .string (bs t.txt), .int .i64 t.val.kind, .slice sa t.val.shape.length sc, .slice ea t.val.elems.length ec] 48)
    have hTB := heap_alloc_new w1 (.cells #[.int .i64 t.kind, .string (bs t.txt), .int .i64 t.val.kind, .slice sa t.val.shape.length sc, .slice ea t.val.elems.length ec] 48)
    have hR2 := (heap_alloc_old w1 (.cells #[.int .i64 t.kind, .string (bs t.txt), .int .i64 t.val.kind, .slice sa t.val.shape.length sc, .slice ea t.val.elems.length ec] 48) hsz1).trans hR1
    have hsz2 : w1.heap.size < (w1.alloc (.cells #[.int .i64 t.kind, .string (bs t.txt), .int .i64 t.val.kind, .slice sa t.val.shape.length sc, .slice ea t.val.elems.length ec] 48)).heap.size := by simp
    generalize w1.alloc (.cells #[.int .i64 t.kind, .string (bs t.txt), .int .i64 t.val.kind, .slice sa t.val.shape.length sc, .slice ea t.val.elems.length ec] 48) = w2 at *
    clear c0 c1 c2 c3 c4 b1 hR1
    obtain ⟨⟨d0, d1, d2, d3, d4⟩, -⟩ := fn_facts hTB
    have hp2 := hg.pr.below hB2
    have hs2 := Soft.of_below hB2
    have hnr : w.heap.size ≠ rb := by omega
    have hn1 : w.heap.size ≠ w1.heap.size := by omega
    have g0 := Below.refl w2.heap.size w2
    by_cases k1 : t.kind = 1
    · have t1 : (t.kind == 1) = true := by simp [k1]
      have hlaw1 := hid (HlawE.out.trans (if_pos k1))
      have hrest := Hinit.out (wt_kind t (by omega))
      have hIA : IsArr w2 (.agg #[.int .i64 t.val.kind, .slice sa t.val.shape.length sc, .slice ea t.val.elems.length ec]) t.val := ⟨_, _, rfl, i1.below hB2, i2.below hB2, i3⟩
      have rC : ∀ V, Below w2.heap.size w2 V → Calls Tryz.prog 120 #[.agg #[.int .i64 t.val.kind, .slice sa t.val.shape.length sc, .slice ea t.val.elems.length ec]] V fun e w' => ∃ v', e = .returned v' ∧ Copied V w' v' t.val ∧ Below w2.heap.size w2 w' ∧ V.heap.size ≤ w'.heap.size := fun V hV =>
        (copy_any _ t.val V (hIA.below hV) hsm.1 hsm.2).mono fun e w' ⟨v', h1, h2, h3⟩ => ⟨v', h1, h2, hV.trans (h3.mono hV.size), h3.size⟩
      have keep : ∀ V, Below w2.heap.size w2 V → V.cell? ⟨w1.heap.size, 2, none⟩ = some (.int .i64 t.val.kind) ∧ V.cell? ⟨w1.heap.size, 3, none⟩ = some (.slice sa t.val.shape.length sc) ∧ V.cell? ⟨w1.heap.size, 4, none⟩ = some (.slice ea t.val.elems.length ec) := fun V hV =>
        ⟨(hV.cell (World.block_lt_of_cell? w2 _ d2)).trans d2, (hV.cell (World.block_lt_of_cell? w2 _ d3)).trans d3, (hV.cell (World.block_lt_of_cell? w2 _ d4)).trans d4⟩
      have keepO : ∀ V W, Below w2.heap.size w2 V → Oth w.heap.size V W → W.cell? ⟨w1.heap.size, 2, none⟩ = some (.int .i64 t.val.kind) ∧ W.cell? ⟨w1.heap.size, 3, none⟩ = some (.slice sa t.val.shape.length sc) ∧ W.cell? ⟨w1.heap.size, 4, none⟩ = some (.slice ea t.val.elems.length ec) := fun V W hV ho => by
        obtain ⟨a1, a2, a3⟩ := keep V hV
        exact ⟨(World.cell?_of_block (w := V) (ho.block w1.heap.size (by omega))).trans a1, (World.cell?_of_block (w := V) (ho.block w1.heap.size (by omega))).trans a2, (World.cell?_of_block (w := V) (ho.block w1.heap.size (by omega))).trans a3⟩
      have K0 := keep _ g0.drew
      have hRk : ∀ V, Below w2.heap.size w2 V → V.heap[w.heap.size]? = some (.cells #[.int .i64 0, .string ⟨#[]⟩, .int .i64 0, .slice none 0 0, .slice none 0 0, .int .i64 0, .int .i64 0, .int .i64 0, .string ⟨#[]⟩, .slice none 0 0, .slice none 0 0] 36) := fun V hV => (hV.block _ (Array.getElem?_eq_some_iff.1 hR2).1).trans hR2
      clear hIA d2 d3 d4
      go_upto_region 6 with fail
      go_region_held3 (fun w' => w'.cell? ⟨w1.heap.size, 2, none⟩ = some (.int .i64 t.val.kind) ∧ w'.cell? ⟨w1.heap.size, 3, none⟩ = some (.slice sa t.val.shape.length sc) ∧ w'.cell? ⟨w1.heap.size, 4, none⟩ = some (.slice ea t.val.elems.length ec))
        (first | with_reducible exact K0 | with_reducible exact keep _ g1 | (refine keepO v1 _ g1 ?_; (repeat (with_reducible refine Oth.put ?_ _ _)); with_reducible exact Oth.refl _ _) | fail)
        (first | (go_at_call 120; refine (rC _ g0.drew).mono ?_; rintro e v1 ⟨u1, rfl, ⟨cvs, cve, cm, rfl, q1, q2, q3, q4⟩, g1, g2⟩; obtain ⟨ca, cc, rfl⟩ := own_slice q2; obtain ⟨da, dc, rfl⟩ := own_slice q4; have hR3 := hRk _ g1; obtain ⟨⟨r0, r1, r2, r3, r4, r5, r6, r7, r8, r9, r10⟩, ⟨z0, z1, z2, z3, z4, z5, z6, z7, z8, z9, z10⟩⟩ := ex_facts hR3) | fail)
      go_wp2_with fail
      refine bodyPost_ret (results_row_tmp rfl _ _ w.heap.size _ _ _ _ rfl (ex_set hR3 (.int .i64 1) (.string ⟨#[]⟩) (.int .i64 t.val.kind) (.slice ca t.val.shape.length cc) (.slice da t.val.elems.length dc) (.int .i64 0) (.int .i64 0) (.int .i64 0) (.string ⟨#[]⟩) (.slice none 0 0) (.slice none 0 0)) Tryz.underlying36 rfl (by kernel_rfl)) rfl ?_
      have fin : ∀ wf, Oth w.heap.size v1 wf → OperA w wf rb fv ins bad (.slice (some ⟨b, o, none⟩) (m + 1) c) l law (.returned (.tuple #[.agg #[.int .i64 1, .string ⟨#[]⟩, .int .i64 t.val.kind, .slice ca t.val.shape.length cc, .slice da t.val.elems.length dc, .int .i64 0, .int .i64 0, .int .i64 0, .string ⟨#[]⟩, .slice none 0 0, .slice none 0 0], .slice (some ⟨b, o, none⟩) m c])) := fun wf ho => by
        have f1 : Fresh (fun k => w.heap.size < k) v1 (Ints · (.slice ca t.val.shape.length cc) t.val.shape) := Fresh.ints q2 (fun k hk => by have := g0.drew.size; simp at *; omega) (fun w' h' => Ints.of_owns h')
        have f2 : Fresh (fun k => w.heap.size < k) v1 (Ints · (.slice da t.val.elems.length dc) t.val.elems) := Fresh.ints q4 (fun k hk => by have := g0.drew.size; simp at *; omega) (fun w' h' => Ints.of_owns h')
        have hE1 := Fresh.mkEx (x := ⟨1, [], t.val, noFn, .nil⟩) f1 f2 i3 (Fresh.nil _ _) (Fresh.nil _ _)
        exact ⟨bad, _, _, ⟨1, [], t.val, noFn, .nil⟩, l.dropLast, rfl, ⟨ho.pr (hp2.below g1) (by omega), ho.fr (Fr.of_below (hB2.trans (g1.mono hB2.size))) (Nat.le_refl _)⟩, (hE1.softF (ho.soft (fun h => Nat.lt_irrefl _ h))).weak (fun k hk => Nat.le_of_lt hk), Hsub.out _ rfl, hrest, Res.some hlaw1.out bad⟩
      refine fin _ ?_
      repeat (with_reducible refine Oth.put ?_ _ _)
      exact Oth.refl _ _
    · have t1 : (t.kind == 1) = false := by simpa using k1
      by_cases k2 : t.kind = 2
      · have t2 : (t.kind == 2) = true := by simp [k2]
        have hnf : ¬ isFun F t = true := fun h => by
          have := HT.out
          unfold endsT isG at this
          simp [k2, h] at this
        have hlaw2 := hid (((HlawE.out.trans (if_neg k1)).trans (if_pos k2)).trans (if_neg hnf))
        have hrest := Hinit.out (wt_kind t (by omega))
        obtain ⟨⟨r0, r1, r2, r3, r4, r5, r6, r7, r8, r9, r10⟩, ⟨z0, z1, z2, z3, z4, z5, z6, z7, z8, z9, z10⟩⟩ := ex_facts hR2
        go_upto_region 8 with fail
        go_region
        go_wp2_with fail
        refine bodyPost_ret (results_row_tmp rfl _ _ w.heap.size _ _ _ _ rfl ((heap_drew _ _).trans (ex_set (w := w2) hR2 (.int .i64 2) (.string (bs t.txt)) (.int .i64 0) (.slice none 0 0) (.slice none 0 0) (.int .i64 0) (.int .i64 0) (.int .i64 0) (.string ⟨#[]⟩) (.slice none 0 0) (.slice none 0 0))) Tryz.underlying36 rfl (by kernel_rfl)) rfl ?_
        have fin : ∀ wf, Oth w.heap.size w2 wf → OperA w wf rb fv ins bad (.slice (some ⟨b, o, none⟩) (m + 1) c) l law (.returned (.tuple #[.agg #[.int .i64 2, .string (bs t.txt), .int .i64 0, .slice none 0 0, .slice none 0 0, .int .i64 0, .int .i64 0, .int .i64 0, .string ⟨#[]⟩, .slice none 0 0, .slice none 0 0], .slice (some ⟨b, o, none⟩) m c])) := fun wf ho =>
          ⟨bad, _, _, ⟨2, t.txt, noArr, noFn, .nil⟩, l.dropLast, rfl, ⟨ho.pr (hg.pr.below hB2) (by omega), ho.fr (Fr.of_below hB2) (Nat.le_refl _)⟩, Fresh.mkEx (x := ⟨2, t.txt, noArr, noFn, .nil⟩) (Fresh.ints0 _ _) (Fresh.ints0 _ _) (fun i hi => by simp [noArr] at hi) (Fresh.nil _ _) (Fresh.nil _ _), Hsub.out _ rfl, hrest, Res.some hlaw2.out bad⟩
        refine fin _ ?_
        refine Oth.drew ?_
        repeat (with_reducible refine Oth.put ?_ _ _)
        exact Oth.refl _ _
      · have t2 : (t.kind == 2) = false := by simpa using k2
        have hlaw3 := hid ((HlawE.out.trans (if_neg k1)).trans (if_neg k2))
        obtain ⟨G1, hG1⟩ : ∃ b, isG t gRP = b := ⟨_, rfl⟩
        obtain ⟨G2, hG2⟩ : ∃ b, isG t gRB = b := ⟨_, rfl⟩
        obtain ⟨G3, hG3⟩ : ∃ b, isG t gAlpha = b := ⟨_, rfl⟩
        have his1 := fun V => is_any t (.slice sa t.val.shape.length sc) (.slice ea t.val.elems.length ec) gRP _ rfl V
        have his2 := fun V => is_any t (.slice sa t.val.shape.length sc) (.slice ea t.val.elems.length ec) gRB _ rfl V
        have his3 := fun V => is_any t (.slice sa t.val.shape.length sc) (.slice ea t.val.elems.length ec) gAlpha _ rfl V
        rw [hG1] at his1
        rw [hG2] at his2
        rw [hG3] at his3
        have HG1 := hid hG1
        have HG2 := hid hG2
        have HG3 := hid hG3
        clear hG1 hG2 hG3
        go_upto_region 9 with fail
        go_wp2_with fail
        refine (his1 _).mono ?_
        rintro e w3 ⟨rfl, b3⟩
        have hB3 := hB2.trans (b3.mono hB2.size)
        have hTB3 := (b3.block _ hsz2).trans hTB
        have hR3 := (b3.block _ (Array.getElem?_eq_some_iff.1 hR2).1).trans hR2
        have hsz3 : w1.heap.size < w3.heap.size := (Array.getElem?_eq_some_iff.1 hTB3).1
        clear hTB hR2 hp2 hs2 g0 d0 d1 d2 d3 d4 b3 his1
        obtain ⟨⟨d0, d1, d2, d3, d4⟩, -⟩ := fn_facts hTB3
        cases G1 with
        | true =>
          have hm := Hm.out
          have hlaw4 := hid (hlaw3.out.trans (if_pos HG1.out))
          obtain ⟨k5, k6, k7⟩ := hg.dy.closed ht (wt_rp HG1.out)
          have hrest := Rest.of_pre (Pre.closed hg.dy ht (wt_rp HG1.out))
          have hne : l ≠ [] := by rintro rfl; cases ht
          have hop := opened_any' _ l w3 (hg.tk.below hB3) hg.dy hne
          have hsb1 : Sub (.slice (some ⟨b, o, none⟩) (m + 1) c) l (.slice (some ⟨b, o + (openedF l + 1) * 5, none⟩) (m - (openedF l + 1)) (c - (openedF l + 1))) (l.dropLast.drop (openedF l + 1)) := by
            have h := Sub.seg (a := some ⟨b, o, none⟩) (c := c) (l := l) (p := (openedF l + 1, m)) (by simp only; omega) (by simp only; omega)
            have e1 : seg l (openedF l + 1, m) = l.dropLast.drop (openedF l + 1) := by unfold seg; rw [drop_last (by omega)]; simp only; rw [hm]; rfl
            have e2 : segV (some ⟨b, o, none⟩) c (openedF l + 1, m) = .slice (some ⟨b, o + (openedF l + 1) * 5, none⟩) (m - (openedF l + 1)) (c - (openedF l + 1)) := by unfold segV; simp only; rw [if_neg (by omega)]; rfl
            rw [e1, e2, hm] at h; exact h
          have hsb2 : Sub (.slice (some ⟨b, o, none⟩) (m + 1) c) l (.slice (some ⟨b, o, none⟩) (openedF l) c) (l.take (openedF l)) := by
            have h := Sub.seg (a := some ⟨b, o, none⟩) (c := c) (l := l) (p := (0, openedF l)) (Nat.zero_le _) (by simp only; omega)
            have e1 : seg l (0, openedF l) = l.take (openedF l) := by unfold seg; rfl
            have e2 : segV (some ⟨b, o, none⟩) c (0, openedF l) = .slice (some ⟨b, o, none⟩) (openedF l) c := by unfold segV; simp
            rw [e1, e2, hm] at h; exact h
          have hil := inner_len l (openedF l)
          have his := inner_sub l (openedF l + 1)
          generalize openedF l = q at *
          go_wp2_with fail
          refine hop.mono ?_
          rintro e w4 ⟨rfl, b4⟩
          have hB4 := hB3.trans (b4.mono hB3.size)
          have hR4 := (b4.block _ (Array.getElem?_eq_some_iff.1 hR3).1).trans hR3
          have hwq : IntKind.i64.wrap ((q : Int) + 1) = (q : Int) + 1 := by have := hg.le; have := Hm.out; exact IntWalk.i64_in _ (by omega)
          have hq0 : (0 : Int) ≤ (q : Int) + 1 := by omega
          have hq1 : (q : Int) + 1 ≤ (m : Int) := by omega
          have hq2 : (0 : Int) ≤ (q : Int) := by omega
          have hq3 : (q : Int) ≤ (c : Int) := by omega
          have hcq : ¬ c = q + 1 := by omega
          have g0 := Below.refl w4.heap.size w4
          have rC : ∀ V, Below w4.heap.size w4 V → Calls Tryz.prog 82 #[.pointer (some ⟨rb, 0, none⟩), .slice (some ⟨b, o + (q + 1) * 5, none⟩) (m - (q + 1)) (c - (q + 1))] V fun e w' => ExprA V w' rb fv ins bad (exprF F n ins (l.dropLast.drop (q + 1))) e := fun V hV => by
            have hBV := hB4.trans (hV.mono hB4.size)
            exact hE n (Nat.le_refl _) V rb fv ins bad _ _ ⟨hg.pr.below hBV, Strs.soft hg.fs (Soft.of_below hBV), hsb1 V (hg.tk.below hBV), k6, hg.sm.sub his, by have := hg.le; have := Hm.out; omega, hg.gy.below hBV⟩ (by have := Hm.out; omega)
          have Hsb2 := hid hsb2
          clear hm hop hsb1 hsb2 his2 his3 d0 d1 d2 d3 d4
          go_upto_region 11 with fail
          go_region_held3 (fun w' => True)
            (exact trivial)
            (first | (go_at_call 82; refine (rC _ g0.drew).mono ?_; rintro e v1 ⟨bd1, xv, x, rfl, an, fx, rs⟩; obtain ⟨vs, ve, vb, vc, rfl, j1, j2, j3, j4, j5⟩ := fx.ex; have hform := And.intro j1.self.parts (And.intro j2.self.parts (And.intro j4.self.parts j5.self.parts)); obtain ⟨⟨xa, xc, rfl, -⟩, ⟨xe, xec, rfl, -⟩, ⟨xb, xbc, rfl, -⟩, ⟨xk, xkc, rfl, -⟩⟩ := hform; have hR5 := (an.fr.block w.heap.size (Array.getElem?_eq_some_iff.1 hR4).1 (by omega)).trans hR4; obtain ⟨⟨r0, r1, r2, r3, r4, r5, r6, r7, r8, r9, r10⟩, ⟨z0, z1, z2, z3, z4, z5, z6, z7, z8, z9, z10⟩⟩ := ex_facts hR5) | fail)
          go_wp2_with fail
          refine bodyPost_ret (results_row_tmp rfl _ _ w.heap.size _ _ _ _ rfl (ex_set hR5 (.int .i64 x.kind) (.string (bs x.name)) (.int .i64 x.val.kind) (.slice xa x.val.shape.length xc) (.slice xe x.val.elems.length xec) (.int .i64 x.fn.kind) (.int .i64 x.fn.f) (.int .i64 x.fn.g) (.string (bs x.fn.name)) (.slice xb x.fn.body.len xbc) (.slice xk x.kids.len xkc)) Tryz.underlying36 rfl (by kernel_rfl)) rfl ?_
          have fin : ∀ wf, Oth w.heap.size v1 wf → OperA w wf rb fv ins bad (.slice (some ⟨b, o, none⟩) (m + 1) c) l law (.returned (.tuple #[.agg #[.int .i64 x.kind, .string (bs x.name), .int .i64 x.val.kind, .slice xa x.val.shape.length xc, .slice xe x.val.elems.length xec, .int .i64 x.fn.kind, .int .i64 x.fn.f, .int .i64 x.fn.g, .string (bs x.fn.name), .slice xb x.fn.body.len xbc, .slice xk x.kids.len xkc], .slice (some ⟨b, o, none⟩) q c])) := fun wf ho =>
            ⟨bd1, _, _, x, l.take q, rfl, ⟨ho.pr an.pr (by omega), ho.fr ((Fr.of_below hB4.drew).trans an.fr) (Nat.le_refl _)⟩, (fx.softF (ho.soft (fun h => by unfold Up at h; have := hB4.drew.size; have h2 := (Array.getElem?_eq_some_iff.1 hR4).1; simp at h; omega))).weak (fun k hk => by unfold Up at hk ⊢; have := hB4.drew.size; simp at *; omega), Hsb2.out, hrest, rs.map (hlaw4.out.trans (by cases exprF F n ins (l.dropLast.drop (q + 1)) <;> rfl))⟩
          refine fin _ ?_
          repeat (with_reducible refine Oth.put ?_ _ _)
          exact Oth.refl _ _
        | false =>
          have hlaw4 := hid (hlaw3.out.trans (if_neg (by rw [HG1.out]; simp)))
          go_upto_region 12 with fail
          go_wp2_with fail
          refine (his2 _).mono ?_
          rintro e w4 ⟨rfl, b4⟩
          have hB4 := hB3.trans (b4.mono hB3.size)
          have hTB4 := (b4.block _ hsz3).trans hTB3
          have hR4 := (b4.block _ (Array.getElem?_eq_some_iff.1 hR3).1).trans hR3
          have hsz4 : w1.heap.size < w4.heap.size := (Array.getElem?_eq_some_iff.1 hTB4).1
          clear hTB3 hR3 d0 d1 d2 d3 d4 b4 his2
          obtain ⟨⟨d0, d1, d2, d3, d4⟩, -⟩ := fn_facts hTB4
          have hp4 := hg.pr.below hB4
          obtain ⟨p0, p1, p2, e0, e1, e2⟩ := hp4.cells
          cases G2 with
          | true =>
            have hindex := hI w4 rb fv ins bad _ l t ⟨hp4, Strs.soft hg.fs (Soft.of_below hB4), hg.tk.below hB4, hg.dy, hg.sm, hg.le, hg.gy.below hB4⟩ ht HG2.out hfu
            rw [Hlaw.out] at hindex
            go_upto_region 13 with fail
            go_wp2_with fail
            refine hindex.mono ?_
            rintro e w5 ⟨bd1, xv, rv, x, r, rfl, an, fx, sb, rs, res⟩
            obtain ⟨vs, ve, vb, vc, rfl, j1, j2, j3, j4, j5⟩ := fx.ex
            have hform := And.intro j1.self.parts (And.intro j2.self.parts (And.intro j4.self.parts j5.self.parts))
            obtain ⟨⟨xa, xc, rfl, -⟩, ⟨xe, xec, rfl, -⟩, ⟨xb, xbc, rfl, -⟩, ⟨xk, xkc, rfl, -⟩⟩ := hform
            obtain ⟨ra, rc, rfl⟩ := toks_parts (sb _ (hg.tk.below hB4))
            have hR5 := (an.fr.block w.heap.size (Array.getElem?_eq_some_iff.1 hR4).1 (by omega)).trans hR4
            clear hindex his3
            go_wp2_with (refine wpList_store_row rfl 36 _ _ rfl w.heap.size _ rfl rfl 36 _ hR5 (by kernel_rfl) (by kernel_rfl) (by kernel_rfl) ?_; go_simp)
            refine bodyPost_ret (results_row_tmp rfl _ _ w.heap.size _ _ _ _ rfl (setRow_heap w5 w.heap.size _ #[.int .i64 x.kind, .string (bs x.name), .int .i64 x.val.kind, .slice xa x.val.shape.length xc, .slice xe x.val.elems.length xec, .int .i64 x.fn.kind, .int .i64 x.fn.f, .int .i64 x.fn.g, .string (bs x.fn.name), .slice xb x.fn.body.len xbc, .slice xk x.kids.len xkc] _ _ hR5) Tryz.underlying36 rfl (by kernel_rfl)) rfl ?_
            have fin : ∀ wf, Oth w.heap.size w5 wf → OperA w wf rb fv ins bad (.slice (some ⟨b, o, none⟩) (m + 1) c) l law (.returned (.tuple #[.agg #[.int .i64 x.kind, .string (bs x.name), .int .i64 x.val.kind, .slice xa x.val.shape.length xc, .slice xe x.val.elems.length xec, .int .i64 x.fn.kind, .int .i64 x.fn.f, .int .i64 x.fn.g, .string (bs x.fn.name), .slice xb x.fn.body.len xbc, .slice xk x.kids.len xkc], .slice ra r.length rc])) := fun wf ho =>
              ⟨bd1, _, _, x, r, rfl, ⟨ho.pr an.pr (by omega), ho.fr ((Fr.of_below hB4).trans an.fr) (Nat.le_refl _)⟩, (fx.softF (ho.soft (fun h => by unfold Up at h; have h2 := (Array.getElem?_eq_some_iff.1 hR4).1; omega))).weak (fun k hk => by unfold Up at hk ⊢; have := hB4.size; omega), sb, rs, res⟩
            exact fin _ ((Oth.refl _ _).row _)
          | false =>
            have hlaw5 := hid (hlaw4.out.trans (if_neg (by rw [HG2.out]; simp)))
            cases ins with
            | false =>
              have hnone := hid (hlaw5.out.trans ((if_neg (by simp)).trans (if_neg (by simp))))
              have hfail := fail_any w4 rb fv false bad hp4
              go_upto_region 15 with fail
              go_wp2_with fail
              refine hfail.mono ?_
              rintro e w5 ⟨rfl, hp5, hf5⟩
              have hR5 := (hf5.block w.heap.size (Array.getElem?_eq_some_iff.1 hR4).1 (by omega)).trans hR4
              have hF5 := (Fr.of_below hB4).trans hf5
              clear hfail hR4
              unfold exZero
              go_wp2_with (refine wpList_store_row rfl 36 _ _ rfl w.heap.size _ rfl rfl 36 _ hR5 (by kernel_rfl) (by kernel_rfl) (by kernel_rfl) ?_; go_simp)
              refine bodyPost_ret (results_row_tmp rfl _ _ w.heap.size _ _ _ _ rfl (setRow_heap w5 w.heap.size _ #[.int .i64 0, .string ⟨#[]⟩, .int .i64 0, .slice none 0 0, .slice none 0 0, .int .i64 0, .int .i64 0, .int .i64 0, .string ⟨#[]⟩, .slice none 0 0, .slice none 0 0] _ _ hR5) Tryz.underlying36 rfl (by kernel_rfl)) rfl ?_
              exact oper_none hnone.out (((Oth.refl _ _).row _).pr hp5 (by omega)) (((Oth.refl _ _).row _).fr hF5 (Nat.le_refl _))
            | true =>
              go_upto_region 16 with fail
              go_wp2_with fail
              refine (his3 _).mono ?_
              rintro e w5 ⟨rfl, b5⟩
              have hB5 := hB4.trans (b5.mono hB4.size)
              have hR5 := (b5.block _ (Array.getElem?_eq_some_iff.1 hR4).1).trans hR4
              clear his3 hTB4 d0 d1 d2 d3 d4 p0 p1 p2 e0 e1 e2 hp4 hR4
              cases G3 with
              | true =>
                have hlaw6 := hid (hlaw5.out.trans (if_pos (by simp [HG3.out])))
                have hrest := Hinit.out (wt_alpha HG3.out)
                go_upto_region 17 with fail
                obtain ⟨⟨r0, r1, r2, r3, r4, r5, r6, r7, r8, r9, r10⟩, ⟨z0, z1, z2, z3, z4, z5, z6, z7, z8, z9, z10⟩⟩ := ex_facts hR5
                go_region
                go_wp2_with fail
                refine bodyPost_ret (results_row_tmp rfl _ _ w.heap.size _ _ _ _ rfl ((heap_drew _ _).trans (ex_set (w := w5) hR5 (.int .i64 3) (.string ⟨#[]⟩) (.int .i64 0) (.slice none 0 0) (.slice none 0 0) (.int .i64 0) (.int .i64 0) (.int .i64 0) (.string ⟨#[]⟩) (.slice none 0 0) (.slice none 0 0))) Tryz.underlying36 rfl (by kernel_rfl)) rfl ?_
                have fin : ∀ wf, Oth w.heap.size w5 wf → OperA w wf rb fv true bad (.slice (some ⟨b, o, none⟩) (m + 1) c) l law (.returned (.tuple #[.agg #[.int .i64 3, .string ⟨#[]⟩, .int .i64 0, .slice none 0 0, .slice none 0 0, .int .i64 0, .int .i64 0, .int .i64 0, .string ⟨#[]⟩, .slice none 0 0, .slice none 0 0], .slice (some ⟨b, o, none⟩) m c])) := fun wf ho =>
                  ⟨bad, _, _, ⟨3, [], noArr, noFn, .nil⟩, l.dropLast, rfl, ⟨ho.pr (hg.pr.below hB5) (by omega), ho.fr (Fr.of_below hB5) (Nat.le_refl _)⟩, Fresh.mkEx (x := ⟨3, [], noArr, noFn, .nil⟩) (Fresh.ints0 _ _) (Fresh.ints0 _ _) (fun i hi => by simp [noArr] at hi) (Fresh.nil _ _) (Fresh.nil _ _), Hsub.out _ rfl, hrest, Res.some hlaw6.out bad⟩
                refine fin _ ?_
                refine Oth.drew ?_
                repeat (with_reducible refine Oth.put ?_ _ _)
                exact Oth.refl _ _
              | false =>
                have hom : isG t gOmega = true := by
                  have := HT.out
                  unfold endsT at this
                  rw [HG1.out, HG2.out, HG3.out] at this
                  simpa [k1, k2] using this
                have hlaw6 := hid ((hlaw5.out.trans (if_neg (by rw [HG3.out]; simp))).trans (if_pos (by simp [hom])))
                have hrest := Hinit.out (wt_omega hom)
                go_upto_region 18 with fail
                obtain ⟨⟨r0, r1, r2, r3, r4, r5, r6, r7, r8, r9, r10⟩, ⟨z0, z1, z2, z3, z4, z5, z6, z7, z8, z9, z10⟩⟩ := ex_facts hR5
                go_region
                go_wp2_with fail
                refine bodyPost_ret (results_row_tmp rfl _ _ w.heap.size _ _ _ _ rfl ((heap_drew _ _).trans (ex_set (w := w5) hR5 (.int .i64 4) (.string ⟨#[]⟩) (.int .i64 0) (.slice none 0 0) (.slice none 0 0) (.int .i64 0) (.int .i64 0) (.int .i64 0) (.string ⟨#[]⟩) (.slice none 0 0) (.slice none 0 0))) Tryz.underlying36 rfl (by kernel_rfl)) rfl ?_
                have fin : ∀ wf, Oth w.heap.size w5 wf → OperA w wf rb fv true bad (.slice (some ⟨b, o, none⟩) (m + 1) c) l law (.returned (.tuple #[.agg #[.int .i64 4, .string ⟨#[]⟩, .int .i64 0, .slice none 0 0, .slice none 0 0, .int .i64 0, .int .i64 0, .int .i64 0, .string ⟨#[]⟩, .slice none 0 0, .slice none 0 0], .slice (some ⟨b, o, none⟩) m c])) := fun wf ho =>
                  ⟨bad, _, _, ⟨4, [], noArr, noFn, .nil⟩, l.dropLast, rfl, ⟨ho.pr (hg.pr.below hB5) (by omega), ho.fr (Fr.of_below hB5) (Nat.le_refl _)⟩, Fresh.mkEx (x := ⟨4, [], noArr, noFn, .nil⟩) (Fresh.ints0 _ _) (Fresh.ints0 _ _) (fun i hi => by simp [noArr] at hi) (Fresh.nil _ _) (Fresh.nil _ _), Hsub.out _ rfl, hrest, Res.some hlaw6.out bad⟩
                refine fin _ ?_
                refine Oth.drew ?_
                repeat (with_reducible refine Oth.put ?_ _ _)
                exact Oth.refl _ _
end Go.Proofs.YthlingdlehdlhaaGreatDoor.Par
