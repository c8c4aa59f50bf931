/- parse.Show: a tree's text. -/
import Derived.Test.YtijfnnjgcgmnaaaGreatDoorPShowT
import Derived.Deep.Cut
namespace Go.Proofs.YtijfnnjgcgmnaaaGreatDoor.Par
open Go.RowKit Go.Shelf
set_option linter.unusedVariables false
set_option linter.unusedSimpArgs false

theorem text_all : ∀ k, TextC k
  | 0 => fun x va w hz => by unfold Ex.sz at hz; omega
  | k + 1 => text_step k (text_all k)
set_option maxRecDepth 100000 in
set_option maxHeartbeats 8000000 in
theorem pShow_any (s : Stm) (va : Value) (w : World) (hok : s.expr.ok = true) (hokb : s.body.ok false = true) (hwf : WfS s) (hx : IsS w va s) (hgy : Gly w) (hlen : (textS s).length ≤ 400000) : Calls Tryz.prog 23 #[va] w fun e w' => SayA w (textS s) e w' := by
  obtain ⟨vs, ve, vb, vc, vd, rfl, i1, i2, i3, j1, j2, j3⟩ := hx
  obtain ⟨xa, xc, rfl, -⟩ := i1.parts
  obtain ⟨xe, xec, rfl, -⟩ := i2.parts
  obtain ⟨xb, xbc, rfl, -⟩ := j1.parts
  obtain ⟨xk, xkc, rfl, -⟩ := j2.parts
  obtain ⟨xd, xdc, rfl, -⟩ := j3.parts
  have hX0 := heap_alloc_new w (.cells #[.int .i64 s.kind, .string (bs s.name), .int .i64 s.expr.kind, .string (bs s.expr.name), .int .i64 s.expr.val.kind, .slice xa s.expr.val.shape.length xc, .slice xe s.expr.val.elems.length xec, .int .i64 s.expr.fn.kind, .int .i64 s.expr.fn.f, .int .i64 s.expr.fn.g, .string (bs s.expr.fn.name), .slice xb s.expr.fn.body.len xbc, .slice xk s.expr.kids.len xkc, .slice xd s.body.len xdc] 36)
  have hB0 := (Below.refl _ w).alloc (Nat.le_refl _) (.cells #[.int .i64 s.kind, .string (bs s.name), .int .i64 s.expr.kind, .string (bs s.expr.name), .int .i64 s.expr.val.kind, .slice xa s.expr.val.shape.length xc, .slice xe s.expr.val.elems.length xec, .int .i64 s.expr.fn.kind, .int .i64 s.expr.fn.f, .int .i64 s.expr.fn.g, .string (bs s.expr.fn.name), .slice xb s.expr.fn.body.len xbc, .slice xk s.expr.kids.len xkc, .slice xd s.body.len xdc] 36)
  have Fin : ∀ V v T, Row V w.heap.size v T → T = textS s → Below w.heap.size w V → SayA w (textS s) (.returned v) V := fun V v T h e b => by subst e; exact ⟨⟨v, rfl, h⟩, b⟩
  have hIE := fun V (hV : Below w.heap.size w V) => (show IsE V (.agg #[.int .i64 s.expr.kind, .string (bs s.expr.name), .int .i64 s.expr.val.kind, .slice xa s.expr.val.shape.length xc, .slice xe s.expr.val.elems.length xec, .int .i64 s.expr.fn.kind, .int .i64 s.expr.fn.f, .int .i64 s.expr.fn.g, .string (bs s.expr.fn.name), .slice xb s.expr.fn.body.len xbc, .slice xk s.expr.kids.len xkc]) s.expr from ⟨_, _, _, _, rfl, i1.below hV, i2.below hV, i3, j1.below hV, j2.below hV⟩)
  have hIT := fun V (hV : Below w.heap.size w V) => j3.below hV
  have hGy := fun V (hV : Below w.heap.size w V) => hgy.below hV
  clear i1 i2 j1 j2 j3 hgy
  go_enter Tryz.func23, Tryz.ntmps23
  go_upto_region 1 with fail
  generalize w.alloc (.cells #[.int .i64 s.kind, .string (bs s.name), .int .i64 s.expr.kind, .string (bs s.expr.name), .int .i64 s.expr.val.kind, .slice xa s.expr.val.shape.length xc, .slice xe s.expr.val.elems.length xec, .int .i64 s.expr.fn.kind, .int .i64 s.expr.fn.f, .int .i64 s.expr.fn.g, .string (bs s.expr.fn.name), .slice xb s.expr.fn.body.len xbc, .slice xk s.expr.kids.len xkc, .slice xd s.body.len xdc] 36) = w1 at *
  obtain ⟨c0, c1, c2, c3, c4, c5, c6, c7, c8, c9, c10, c11, c12, c13⟩ := st_facts hX0
  go_wp2_with fail
  refine (tnamed_any _ _).mono ?_
  rintro e w2 ⟨rfl, b2⟩
  go_wp2_with fail
  refine (tglyph_any _ _).mono ?_
  rintro e w3 ⟨rfl, b3⟩
  have hH := heap_alloc_new w3 (.cells #[.int .i64 2, .string (bs s.name), .int .i64 0, .slice none 0 0, .slice none 0 0, .int .i64 3, .string ⟨#[226, 134, 144]⟩, .int .i64 0, .slice none 0 0, .slice none 0 0] 88)
  have hb4 := (Below.refl _ w3).alloc (Nat.le_refl _) (.cells #[.int .i64 2, .string (bs s.name), .int .i64 0, .slice none 0 0, .slice none 0 0, .int .i64 3, .string ⟨#[226, 134, 144]⟩, .int .i64 0, .slice none 0 0, .slice none 0 0] 88)
  clear c0 c1 c2 c3 c4 c5 c6 c7 c8 c9 c10 c11 c12 c13
  go_upto_region 2 with fail
  generalize w3.alloc (.cells #[.int .i64 2, .string (bs s.name), .int .i64 0, .slice none 0 0, .slice none 0 0, .int .i64 3, .string ⟨#[226, 134, 144]⟩, .int .i64 0, .slice none 0 0, .slice none 0 0] 88) = w4 at *
  have b14 := b2.trans ((b3.trans (hb4.mono b3.size)).mono b2.size)
  have hX4 := (b14.block _ (Array.getElem?_eq_some_iff.1 hX0).1).trans hX0
  have hB4 := hB0.trans (b14.mono hB0.size)
  have hWz := hB4.size
  have hz3 : w.heap.size ≤ w3.heap.size := by have := hB0.size; have := b2.size; have := b3.size; omega
  have rH : Row w4 w.heap.size (.slice (some ⟨w3.heap.size, 0, none⟩) 2 2) [nm s.name, gl gGets] := Row.lit (us := [glC 2 (bs s.name), glC 3 ⟨#[226, 134, 144]⟩]) (T := [nm s.name, gl gGets]) hH hz3 ⟨own_nm _ _ _, own_gl _ _ gGets, trivial⟩ 2 rfl (by simp)
  have hie := hIE w4 hB4
  have hit := hIT w4 hB4
  have hgy4 := hGy w4 hB4
  generalize w3.heap.size = H at *
  clear hX0 hB0 hb4 b2 b3 b14 hH hIE hIT hGy hz3
  obtain ⟨c0, c1, c2, c3, c4, c5, c6, c7, c8, c9, c10, c11, c12, c13⟩ := st_facts hX4
  clear hX4
  by_cases h3 : s.kind = 3
  · have t3 : (s.kind == 3) = true := by simp [h3]
    have htx : textS s = nm s.name :: gl gGets :: encl (gl gLC) (gl gRC) (joinG gDia ((showT s.body).map Prod.fst)) := by unfold textS; rw [if_pos h3]
    have hl2 : (joinG gDia ((showT s.body).map Prod.fst)).length + 4 ≤ 400000 := by rw [htx, List.length_cons, List.length_cons, encl_len] at hlen; omega
    have Hc := hid (tlines_step _ (text_all s.body.sz) s.body _ w4 (Nat.le_refl _) hokb hwf.2 hit hgy4 (by omega))
    have HT := hid htx
    generalize joinG gDia ((showT s.body).map Prod.fst) = JT at *
    clear htx h3 hlen hie hit
    go_wp2_with fail
    refine Hc.out.mono ?_
    rintro e w5 ⟨⟨v5, rfl, r5⟩, b5⟩
    have hB5 := hB4.trans (b5.mono hWz)
    have hl3 : JT.length ≤ 999998 := by omega
    have Hw := hid (pwithin_row w.heap.size gLC gRC ⟨#[123]⟩ ⟨#[125]⟩ rfl rfl v5 JT w5 (r5.mono hWz) hl3 hB5.size)
    have rH5 := rH.below b5
    clear c0 c1 c2 c3 c4 c5 c6 c7 c8 c9 c10 c11 c12 c13 Hc rH r5
    go_wp2_with fail
    refine Hw.out.mono ?_
    rintro e w6 ⟨⟨v6, rfl, r6⟩, b6⟩
    have hB6 := hB5.trans (b6.mono hB5.size)
    have rH6 := rH5.below b6
    have hN : [nm s.name, gl gGets].length + (encl (gl gLC) (gl gRC) JT).length ≤ 1000000 := by rw [encl_len]; show 2 + _ ≤ _; omega
    clear Hw rH5 b5 b6
    go_wp2_with (at_builtin; go_must (refine append_row rfl _ _ rfl w.heap.size _ _ _ _ rfl rfl rH6 r6 hN hB6.size ?_); intro v7 w7 r7 b7)
    go_ret
    exact Fin _ _ _ r7 HT.out.symm (hB6.trans (rH6.grown b7 hB6.size))
  · have t3 : (s.kind == 3) = false := by simpa using h3
    by_cases h2 : s.kind = 2
    · have t2 : (s.kind == 2) = true := by simp [h2]
      have htx : textS s = nm s.name :: gl gGets :: textE s.expr := by unfold textS; rw [if_neg h3, if_pos h2]
      have hl2 : (textE s.expr).length + 2 ≤ 400000 := by rw [htx, List.length_cons, List.length_cons] at hlen; omega
      have Hc := hid (text_all s.expr.sz s.expr _ w4 (Nat.le_refl _) hok hwf.1 hie hgy4 (by omega))
      have HT := hid htx
      generalize textE s.expr = JT at *
      clear htx h3 h2 hlen hie hit
      go_wp2_with fail
      refine Hc.out.mono ?_
      rintro e w5 ⟨⟨v5, rfl, r5⟩, b5⟩
      have hB5 := hB4.trans (b5.mono hWz)
      have rH5 := rH.below b5
      have r5' := r5.mono hWz
      have hN : [nm s.name, gl gGets].length + JT.length ≤ 1000000 := by show 2 + _ ≤ _; omega
      clear c0 c1 c2 c3 c4 c5 c6 c7 c8 c9 c10 c11 c12 c13 Hc rH r5 b5
      go_wp2_with (at_builtin; go_must (refine append_row rfl _ _ rfl w.heap.size _ _ _ _ rfl rfl rH5 r5' hN hB5.size ?_); intro v7 w7 r7 b7)
      go_ret
      exact Fin _ _ _ r7 HT.out.symm (hB5.trans (rH5.grown b7 hB5.size))
    · have t2 : (s.kind == 2) = false := by simpa using h2
      have htx : textS s = textE s.expr := by unfold textS; rw [if_neg h3, if_neg h2]
      have Hc := hid (text_all s.expr.sz s.expr _ w4 (Nat.le_refl _) hok hwf.1 hie hgy4 (by rw [htx] at hlen; omega))
      have HT := hid htx
      generalize textE s.expr = JT at *
      clear htx h3 h2 hlen hie hit
      go_wp2_with fail
      refine Hc.out.mono ?_
      rintro e w5 ⟨⟨v5, rfl, r5⟩, b5⟩
      have hB5 := hB4.trans (b5.mono hWz)
      clear c0 c1 c2 c3 c4 c5 c6 c7 c8 c9 c10 c11 c12 c13 Hc
      go_wp2_with fail
      go_ret
      exact Fin _ _ _ (r5.mono hWz) HT.out.symm hB5
end Go.Proofs.YtijfnnjgcgmnaaaGreatDoor.Par
