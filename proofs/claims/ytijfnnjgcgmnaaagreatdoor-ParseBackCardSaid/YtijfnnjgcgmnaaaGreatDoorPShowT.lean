/- parse: a tree's text: an expression, also as one operand. -/
import Derived.Test.YtijfnnjgcgmnaaaGreatDoorPShowL
import Derived.Deep.Cut
namespace Go.Proofs.YtijfnnjgcgmnaaaGreatDoor.Par
open Go.RowKit Go.Shelf
set_option linter.unusedVariables false
set_option linter.unusedSimpArgs false

def ClosedC (k : Nat) : Prop := ∀ (x : Ex) (va : Value) (w : World), x.sz ≤ k → x.ok = true → WfE x → IsE w va x → Gly w → (closedE x).length ≤ 500000 → Calls Tryz.prog 73 #[va] w fun e w' => SayA w (closedE x) e w'
set_option maxRecDepth 100000 in
set_option maxHeartbeats 8000000 in
theorem closed_step (kk : Nat) (hC : TextC kk) : ClosedC kk := by
  intro x va w hz hok hwf hx hgy hlen
  obtain ⟨vs, ve, vb, vc, rfl, i1, i2, i3, j1, j2⟩ := hx
  obtain ⟨xa, xc, rfl, -⟩ := i1.parts
  obtain ⟨xe, xec, rfl, -⟩ := i2.parts
  obtain ⟨xb, xbc, rfl, -⟩ := j1.parts
  obtain ⟨xk, xkc, rfl, -⟩ := j2.parts
  have hX0 := heap_alloc_new w (.cells #[.int .i64 x.kind, .string (bs x.name), .int .i64 x.val.kind, .slice xa x.val.shape.length xc, .slice xe x.val.elems.length xec, .int .i64 x.fn.kind, .int .i64 x.fn.f, .int .i64 x.fn.g, .string (bs x.fn.name), .slice xb x.fn.body.len xbc, .slice xk x.kids.len xkc] 34)
  have hB0 := (Below.refl _ w).alloc (Nat.le_refl _) (.cells #[.int .i64 x.kind, .string (bs x.name), .int .i64 x.val.kind, .slice xa x.val.shape.length xc, .slice xe x.val.elems.length xec, .int .i64 x.fn.kind, .int .i64 x.fn.f, .int .i64 x.fn.g, .string (bs x.fn.name), .slice xb x.fn.body.len xbc, .slice xk x.kids.len xkc] 34)
  have hIE : IsE (w.alloc (.cells #[.int .i64 x.kind, .string (bs x.name), .int .i64 x.val.kind, .slice xa x.val.shape.length xc, .slice xe x.val.elems.length xec, .int .i64 x.fn.kind, .int .i64 x.fn.f, .int .i64 x.fn.g, .string (bs x.fn.name), .slice xb x.fn.body.len xbc, .slice xk x.kids.len xkc] 34)) (.agg #[.int .i64 x.kind, .string (bs x.name), .int .i64 x.val.kind, .slice xa x.val.shape.length xc, .slice xe x.val.elems.length xec, .int .i64 x.fn.kind, .int .i64 x.fn.f, .int .i64 x.fn.g, .string (bs x.fn.name), .slice xb x.fn.body.len xbc, .slice xk x.kids.len xkc]) x := ⟨_, _, _, _, rfl, i1.below hB0, i2.below hB0, i3, j1.below hB0, j2.below hB0⟩
  have Fin : ∀ V v T, Row V w.heap.size v T → T = closedE x → Below w.heap.size w V → SayA w (closedE x) (.returned v) V := fun V v T h e b => by subst e; exact ⟨⟨v, rfl, h⟩, b⟩
  have hle := closed_le x
  clear i1 i2 i3 j1 j2
  go_enter Tryz.func73, Tryz.ntmps73
  go_upto_region 1 with fail
  generalize w.alloc (.cells #[.int .i64 x.kind, .string (bs x.name), .int .i64 x.val.kind, .slice xa x.val.shape.length xc, .slice xe x.val.elems.length xec, .int .i64 x.fn.kind, .int .i64 x.fn.f, .int .i64 x.fn.g, .string (bs x.fn.name), .slice xb x.fn.body.len xbc, .slice xk x.kids.len xkc] 34) = w1 at *
  have hct := hC x _ w1 hz hok hwf hIE (hgy.below hB0) (by omega)
  obtain ⟨T, hT⟩ : ∃ T, textE x = T := ⟨_, rfl⟩
  rw [hT] at hct hle
  have Hct := hid hct
  have HT := hid hT
  obtain ⟨c0, c1, c2, c3, c4, c5, c6, c7, c8, c9, c10⟩ := (ex_facts hX0).1
  have hz1 := hB0.size
  clear hct hT hIE
  by_cases h5 : x.kind = 5
  · have t5 : (x.kind == 5) = true := by simp [h5]
    have HE := hid (show closedE x = encl (gl gLP) (gl gRP) T by unfold closedE; rw [if_pos (.inl h5), HT.out]; rfl)
    clear h5
    go_wp2_with fail
    refine Hct.out.mono ?_
    rintro e w2 ⟨⟨v2, rfl, r2⟩, b2⟩
    have hB2 := hB0.trans (b2.mono hz1)
    have hlen2 : T.length ≤ 999998 := by omega
    have Hw := hid (pwithin_row w.heap.size gLP gRP ⟨#[40]⟩ ⟨#[41]⟩ rfl rfl v2 T w2 (r2.mono hz1) hlen2 hB2.size)
    go_wp2_with fail
    refine Hw.out.mono ?_
    rintro e w3 ⟨⟨v3, rfl, r3⟩, b3⟩
    go_wp2_with fail
    go_ret
    exact Fin _ _ _ r3 HE.out.symm (hB2.trans (b3.mono hB2.size))
  · have t5 : (x.kind == 5) = false := by simpa using h5
    by_cases h6 : x.kind = 6
    · have t6 : (x.kind == 6) = true := by simp [h6]
      have HE := hid (show closedE x = encl (gl gLP) (gl gRP) T by unfold closedE; rw [if_pos (.inr h6), HT.out]; rfl)
      clear h5 h6
      go_wp2_with fail
      refine Hct.out.mono ?_
      rintro e w2 ⟨⟨v2, rfl, r2⟩, b2⟩
      have hB2 := hB0.trans (b2.mono hz1)
      have hlen2 : T.length ≤ 999998 := by omega
      have Hw := hid (pwithin_row w.heap.size gLP gRP ⟨#[40]⟩ ⟨#[41]⟩ rfl rfl v2 T w2 (r2.mono hz1) hlen2 hB2.size)
      go_wp2_with fail
      refine Hw.out.mono ?_
      rintro e w3 ⟨⟨v3, rfl, r3⟩, b3⟩
      go_wp2_with fail
      go_ret
      exact Fin _ _ _ r3 HE.out.symm (hB2.trans (b3.mono hB2.size))
    · have t6 : (x.kind == 6) = false := by simpa using h6
      have HE := hid (show closedE x = T by unfold closedE; rw [if_neg (by omega), HT.out])
      clear h5 h6
      go_wp2_with fail
      refine Hct.out.mono ?_
      rintro e w2 ⟨⟨v2, rfl, r2⟩, b2⟩
      go_wp2_with fail
      go_ret
      exact Fin _ _ _ (r2.mono hz1) HE.out.symm (hB0.trans (b2.mono hz1))
theorem textE_of (x : Ex) (hok : x.ok = true) (x0 : Ex) (h0 : (exsOf x.kids)[0]? = some x0) : nth (showT x.kids) 0 = (textE x0, closedE x0) := by
  have h2 : x.kids.ok true = true := by unfold Ex.ok at hok; simp only [Bool.and_eq_true] at hok; exact hok.2
  unfold nth
  rw [show_exs x.kids h2, List.getElem?_map, h0]; rfl
theorem textE_of1 (x : Ex) (hok : x.ok = true) (x1 : Ex) (h1 : (exsOf x.kids)[1]? = some x1) : nth (showT x.kids) 1 = (textE x1, closedE x1) := by
  have h2 : x.kids.ok true = true := by unfold Ex.ok at hok; simp only [Bool.and_eq_true] at hok; exact hok.2
  unfold nth
  rw [show_exs x.kids h2, List.getElem?_map, h1]; rfl
set_option maxRecDepth 100000 in
set_option maxHeartbeats 16000000 in
theorem text_step (kk : Nat) (hC : TextC kk) : TextC (kk + 1) := by
  have hF := fun_step kk (tlines_step kk hC)
  have hCl := closed_step kk hC
  intro x va w hz hok hwf hx hgy hlen
  obtain ⟨vs, ve, vb, vc, rfl, i1, i2, i3, j1, j2⟩ := hx
  obtain ⟨xa, xc, rfl, -⟩ := i1.parts
  obtain ⟨xe, xec, rfl, -⟩ := i2.parts
  obtain ⟨xb, xbc, rfl, -⟩ := j1.parts
  obtain ⟨xk, xkc, hxk, -, hxc⟩ := id j2.parts
  have hzz : x.fn.body.sz ≤ kk ∧ x.kids.sz ≤ kk := by unfold Ex.sz at hz; omega
  have hokk : x.fn.body.ok false = true ∧ x.kids.ok true = true := by unfold Ex.ok at hok; simpa only [Bool.and_eq_true] using hok
  have hX0 := heap_alloc_new w (.cells #[.int .i64 x.kind, .string (bs x.name), .int .i64 x.val.kind, .slice xa x.val.shape.length xc, .slice xe x.val.elems.length xec, .int .i64 x.fn.kind, .int .i64 x.fn.f, .int .i64 x.fn.g, .string (bs x.fn.name), .slice xb x.fn.body.len xbc, vc] 34)
  have hB0 := (Below.refl _ w).alloc (Nat.le_refl _) (.cells #[.int .i64 x.kind, .string (bs x.name), .int .i64 x.val.kind, .slice xa x.val.shape.length xc, .slice xe x.val.elems.length xec, .int .i64 x.fn.kind, .int .i64 x.fn.f, .int .i64 x.fn.g, .string (bs x.fn.name), .slice xb x.fn.body.len xbc, vc] 34)
  have Fin : ∀ V v T, Row V w.heap.size v T → T = textE x → Below w.heap.size w V → SayA w (textE x) (.returned v) V := fun V v T h e b => by subst e; exact ⟨⟨v, rfl, h⟩, b⟩
  have Hel := hid (exs_len x.kids hokk.2)
  have hfacts : ∀ z ∈ exsOf x.kids, z.ok = true ∧ WfE z ∧ z.sz ≤ kk := fun z hz2 => ⟨exs_ok _ hokk.2 z hz2, wf_exs _ hwf.2.1 z hz2, Nat.le_trans (exs_sz x.kids z hz2) hzz.2⟩
  subst hxk
  go_enter Tryz.func48, Tryz.ntmps48
  go_upto_region 1 with fail
  generalize w.alloc (.cells #[.int .i64 x.kind, .string (bs x.name), .int .i64 x.val.kind, .slice xa x.val.shape.length xc, .slice xe x.val.elems.length xec, .int .i64 x.fn.kind, .int .i64 x.fn.f, .int .i64 x.fn.g, .string (bs x.fn.name), .slice xb x.fn.body.len xbc, .slice xk x.kids.len xkc] 34) = w1 at *
  have hWz := hB0.size
  have hgy1 := hgy.below hB0
  have ka := i1.below hB0
  have ke := i2.below hB0
  have kb_ := j1.below hB0
  have kk_ := j2.below hB0
  clear i1 i2 j1 j2 hgy hz
  obtain ⟨c0, c1, c2, c3, c4, c5, c6, c7, c8, c9, c10⟩ := (ex_facts hX0).1
  obtain ⟨wf1, wf2, wf5, wf6, wf7, ws1, ws2⟩ := hwf
  have hFc := fun V (hV : Below w1.heap.size w1 V) (hl : (textF x.fn).length ≤ 500000) => hF x.fn (.agg #[.int .i64 x.fn.kind, .int .i64 x.fn.f, .int .i64 x.fn.g, .string (bs x.fn.name), .slice xb x.fn.body.len xbc]) V hzz.1 hokk.1 wf1 ⟨_, rfl, kb_.below hV⟩ (hgy1.below hV) hl
  have hEx := fun V (hV : Below w1.heap.size w1 V) => (hV.block w.heap.size (Array.getElem?_eq_some_iff.1 hX0).1).trans hX0
  clear hF
  by_cases h1 : x.kind = 1
  · have t1 : (x.kind == 1) = true := by simp [h1]
    have htx : textE x = [vl x.val] := by unfold textE exT; rw [if_pos h1]
    have HT := hid htx
    have hcp := copy_any (.agg #[.int .i64 x.val.kind, .slice xa x.val.shape.length xc, .slice xe x.val.elems.length xec]) x.val w1 ⟨_, _, rfl, ka, ke, i3⟩ ws1 ws2
    clear h1 htx hfacts hCl hFc hEx
    go_wp2_with fail
    refine hcp.mono ?_
    rintro e w2 ⟨u1, rfl, ⟨cvs, cve, cm, rfl, q1, q2, q3, q4⟩, b2⟩
    obtain ⟨ca, cc, rfl⟩ := own_slice q2
    obtain ⟨da, dc, rfl⟩ := own_slice q4
    have hN := heap_alloc_new w2 (.cells #[.int .i64 1, .string ⟨#[]⟩, .int .i64 x.val.kind, .slice ca x.val.shape.length cc, .slice da x.val.elems.length dc] 88)
    have hb := b2.alloc b2.size (.cells #[.int .i64 1, .string ⟨#[]⟩, .int .i64 x.val.kind, .slice ca x.val.shape.length cc, .slice da x.val.elems.length dc] 88)
    have hb2 := (Below.refl _ w2).alloc (Nat.le_refl _) (.cells #[.int .i64 1, .string ⟨#[]⟩, .int .i64 x.val.kind, .slice ca x.val.shape.length cc, .slice da x.val.elems.length dc] 88)
    have hz2 := b2.size
    clear hcp
    go_wp2_with fail
    go_ret
    exact Fin _ _ _ (Row.lit (us := [[.int .i64 1, .string ⟨#[]⟩, .int .i64 x.val.kind, .slice ca x.val.shape.length cc, .slice da x.val.elems.length dc]]) (T := [vl x.val]) hN (by omega) ⟨⟨_, _, rfl, own_below (own_weak q2 hWz) hb2, own_below (own_weak q4 (by omega)) hb2, i3⟩, trivial⟩ 1 rfl (by simp)) HT.out.symm (hB0.trans (hb.mono hWz))
  have t1 : (x.kind == 1) = false := by simpa using h1
  by_cases h2 : x.kind = 2
  · have t2 : (x.kind == 2) = true := by simp [h2]
    have htx : textE x = [nm x.name] := by unfold textE exT; rw [if_neg h1]; rw [if_pos h2]
    have HT := hid htx
    clear h1 h2 htx hfacts hCl hFc hEx
    go_wp2_with fail
    refine (tnamed_any _ _).mono ?_
    rintro e w2 ⟨rfl, b2⟩
    have hN := heap_alloc_new w2 (.cells #[.int .i64 2, .string (bs x.name), .int .i64 0, .slice none 0 0, .slice none 0 0] 88)
    have hb := b2.alloc b2.size (.cells #[.int .i64 2, .string (bs x.name), .int .i64 0, .slice none 0 0, .slice none 0 0] 88)
    have hz2 := b2.size
    go_wp2_with fail
    go_ret
    exact Fin _ _ _ (Row.nm1 x.name hN (by omega)) HT.out.symm (hB0.trans (hb.mono hWz))
  have t2 : (x.kind == 2) = false := by simpa using h2
  by_cases h3 : x.kind = 3
  · have t3 : (x.kind == 3) = true := by simp [h3]
    have htx : textE x = [gl gAlpha] := by unfold textE exT; rw [if_neg h1]; rw [if_neg h2]; rw [if_pos h3]
    have HT := hid htx
    clear h1 h2 h3 htx hfacts hCl hFc hEx
    go_wp2_with fail
    refine (tglyph_any _ _).mono ?_
    rintro e w2 ⟨rfl, b2⟩
    have hN := heap_alloc_new w2 (.cells #[.int .i64 3, .string ⟨#[226, 141, 186]⟩, .int .i64 0, .slice none 0 0, .slice none 0 0] 88)
    have hb := b2.alloc b2.size (.cells #[.int .i64 3, .string ⟨#[226, 141, 186]⟩, .int .i64 0, .slice none 0 0, .slice none 0 0] 88)
    have hz2 := b2.size
    go_wp2_with fail
    go_ret
    exact Fin _ _ _ (Row.gl1 gAlpha hN (by omega)) HT.out.symm (hB0.trans (hb.mono hWz))
  have t3 : (x.kind == 3) = false := by simpa using h3
  by_cases h4 : x.kind = 4
  · have t4 : (x.kind == 4) = true := by simp [h4]
    have htx : textE x = [gl gOmega] := by unfold textE exT; rw [if_neg h1]; rw [if_neg h2]; rw [if_neg h3]; rw [if_pos h4]
    have HT := hid htx
    clear h1 h2 h3 h4 htx hfacts hCl hFc hEx
    go_wp2_with fail
    refine (tglyph_any _ _).mono ?_
    rintro e w2 ⟨rfl, b2⟩
    have hN := heap_alloc_new w2 (.cells #[.int .i64 3, .string ⟨#[226, 141, 181]⟩, .int .i64 0, .slice none 0 0, .slice none 0 0] 88)
    have hb := b2.alloc b2.size (.cells #[.int .i64 3, .string ⟨#[226, 141, 181]⟩, .int .i64 0, .slice none 0 0, .slice none 0 0] 88)
    have hz2 := b2.size
    go_wp2_with fail
    go_ret
    exact Fin _ _ _ (Row.gl1 gOmega hN (by omega)) HT.out.symm (hB0.trans (hb.mono hWz))
  have t4 : (x.kind == 4) = false := by simpa using h4
  by_cases h5 : x.kind = 5
  · have t5 : (x.kind == 5) = true := by simp [h5]
    have htx : textE x = textF x.fn ++ (nth (showT x.kids) 0).1 := by unfold textE exT; rw [if_neg h1]; rw [if_neg h2]; rw [if_neg h3]; rw [if_neg h4]; rw [if_pos h5]
    have hn0 := wf5 h5
    obtain ⟨kb, ko, kc, ek, hkc, hkids⟩ := kid_at kk_ hokk.2 (by omega)
    injection ek with e1 e2 e3
    subst e1
    subst xkc
    have hel := Hel.out
    obtain ⟨x0, hx0⟩ : ∃ x0, (exsOf x.kids)[0]? = some x0 := ⟨_, List.getElem?_eq_getElem (by omega)⟩
    obtain ⟨hox0, hwx0, hzx0⟩ := hfacts x0 (List.mem_of_getElem? hx0)
    obtain ⟨ya, yc, ye, yec, yb, ybc, yk, ykc, hk0, ix0⟩ := hkids 0 x0 hx0
    rw [Nat.zero_mul, Nat.add_zero] at hk0
    have hKid : ∀ V, Below w1.heap.size w1 V → ExAt V kb ko x0.kind x0.name x0.val.kind (.slice ya x0.val.shape.length yc) (.slice ye x0.val.elems.length yec) x0.fn.kind x0.fn.f x0.fn.g x0.fn.name (.slice yb x0.fn.body.len ybc) (.slice yk x0.kids.len ykc) := fun V hV => hk0.below hV
    have hIE : ∀ V, Below w1.heap.size w1 V → IsE V (.agg #[.int .i64 x0.kind, .string (bs x0.name), .int .i64 x0.val.kind, .slice ya x0.val.shape.length yc, .slice ye x0.val.elems.length yec, .int .i64 x0.fn.kind, .int .i64 x0.fn.f, .int .i64 x0.fn.g, .string (bs x0.fn.name), .slice yb x0.fn.body.len ybc, .slice yk x0.kids.len ykc]) x0 := fun V hV => ix0.below hV
    rw [textE_of x hok x0 hx0] at htx
    have hl5 : (textF x.fn).length + (textE x0).length ≤ 500000 := by rw [htx, List.length_append] at hlen; exact hlen
    have hn1i : (0 : Int) < (x.kids.len : Int) := by omega
    have hn1' : 0 < x.kids.len := by omega
    have cF := fun V (hV : Below w1.heap.size w1 V) => hFc V hV (by omega)
    have cX := fun V (hV : Below w1.heap.size w1 V) => hC x0 _ V hzx0 hox0 hwx0 (hIE V hV) (hgy1.below hV) (by omega)
    have HT := hid htx
    generalize textF x.fn = TF at *
    generalize textE x0 = E0 at *
    clear h1 h2 h3 h4 h5 hel Hel htx hfacts hCl hFc hIE hkids hk0 ix0 hn0 hlen
    go_upto_region 11 with fail
    have hsl := slA_inj (b := 31) (l := 2) (n := 9) (by decide)
    have hst : ∀ qq ∈ [isV (.pointer (some ⟨w.heap.size, 5, none⟩)), isV (.agg #[.int .i64 x.fn.kind, .int .i64 x.fn.f, .int .i64 x.fn.g, .string (bs x.fn.name), .slice xb x.fn.body.len xbc]), isA, isV (.pointer (some ⟨w.heap.size, 10, none⟩)), isV (.slice (some ⟨kb, ko, none⟩) x.kids.len kc), isV (.pointer (some ⟨kb, ko, none⟩)), isV (.agg #[.int .i64 x0.kind, .string (bs x0.name), .int .i64 x0.val.kind, .slice ya x0.val.shape.length yc, .slice ye x0.val.elems.length yec, .int .i64 x0.fn.kind, .int .i64 x0.fn.f, .int .i64 x0.fn.g, .string (bs x0.fn.name), .slice yb x0.fn.body.len ybc, .slice yk x0.kids.len ykc]), isA], Fixed qq := fixed_cons (fixedV _) (fixed_cons (fixedV _) (fixed_cons (fixedA) (fixed_cons (fixedV _) (fixed_cons (fixedV _) (fixed_cons (fixedV _) (fixed_cons (fixedV _) (fixed_cons (fixedA) (fixed_nil))))))))
    have hst2 : ∀ qq ∈ [isA, isA, isR w1.heap.size TF, isA, isA, isA, isA, isR w1.heap.size E0], Steady qq := steady_cons (steadyA) (steady_cons (steadyA) (steady_cons (steadyR _ _) (steady_cons (steadyA) (steady_cons (steadyA) (steady_cons (steadyA) (steady_cons (steadyA) (steady_cons (steadyR _ _) (steady_nil))))))))
    refine region_vals [31, 32, 33, 34, 35, 36, 37, 38, 39, 2] (by decide) _ (RX w1 w1.heap.size (slA 31 2 9) [isV (.pointer (some ⟨w.heap.size, 5, none⟩)), isV (.agg #[.int .i64 x.fn.kind, .int .i64 x.fn.f, .int .i64 x.fn.g, .string (bs x.fn.name), .slice xb x.fn.body.len xbc]), isA, isV (.pointer (some ⟨w.heap.size, 10, none⟩)), isV (.slice (some ⟨kb, ko, none⟩) x.kids.len kc), isV (.pointer (some ⟨kb, ko, none⟩)), isV (.agg #[.int .i64 x0.kind, .string (bs x0.name), .int .i64 x0.val.kind, .slice ya x0.val.shape.length yc, .slice ye x0.val.elems.length yec, .int .i64 x0.fn.kind, .int .i64 x0.fn.f, .int .i64 x0.fn.g, .string (bs x0.fn.name), .slice yb x0.fn.body.len ybc, .slice yk x0.kids.len ykc]), isA] [isA, isA, isR w1.heap.size TF, isA, isA, isA, isA, isR w1.heap.size E0] 8 (TF ++ E0)) (fun k => if k = 2 then .slice none 0 0 else undef) (by kernel_rfl) (by kernel_rfl) rfl (by kernel_rfl) (by kernel_rfl) RX.start ?_ ?_
    · intro i hi d vs V A hfar hv hd hdep hJ
      have hi2 : i < 10 := hi
      have hgr := hJ.gr
      have hle : w1.heap.size ≤ V.heap.size := hgr.size
      have p1 : A.tmps[1]? = some (.pointer (some ⟨w.heap.size, 0, none⟩)) := (hfar 1 (by decide)).trans rfl
      clear hfar hi
      rcases (by omega : i = 0 ∨ i = 1 ∨ i = 2 ∨ i = 3 ∨ i = 4 ∨ i = 5 ∨ i = 6 ∨ i = 7 ∨ i = 8 ∨ i = 9) with rfl | rfl | rfl | rfl | rfl | rfl | rfl | rfl | rfl | rfl
      · refine step_free rfl rfl (fun K' hK => ?_)
        clear hv hdep
        go_simp
        exact hK _ _ ⟨_, .inr ⟨31, _, by decide, rfl, rfl⟩, hJ.step hst hst2 hsl 0 (by decide) _ _ rfl rfl (Below.refl _ _) _ (rfl) (trivial)⟩
      · have e0 : vs 31 = .pointer (some ⟨w.heap.size, 5, none⟩) := hJ.val 0 _ rfl (hdep 0 (by decide))
        have a31 : A.tmps[31]? = some (vs 31) := hv 31 (by decide)
        rw [e0] at a31
        refine step_free rfl rfl (fun K' hK => ?_)
        clear hv hdep
        obtain ⟨d0, d1, d2, d3, d4, d5, d6, d7, d8, d9, d10⟩ := (ex_facts (hEx V hgr)).1
        go_simp
        exact hK _ _ ⟨_, .inr ⟨32, _, by decide, rfl, rfl⟩, hJ.step hst hst2 hsl 1 (by decide) _ _ rfl rfl (Below.refl _ _) _ (rfl) (trivial)⟩
      · have e1 : vs 32 = .agg #[.int .i64 x.fn.kind, .int .i64 x.fn.f, .int .i64 x.fn.g, .string (bs x.fn.name), .slice xb x.fn.body.len xbc] := hJ.val 1 _ rfl (hdep 1 (by decide))
        have a32 : A.tmps[32]? = some (vs 32) := hv 32 (by decide)
        rw [e1] at a32
        refine step_free rfl rfl (fun K' hK => ?_)
        clear hv hdep
        go_simp
        go_at_call 72
        refine (cF V hgr).mono ?_
        rintro e W ⟨⟨u, rfl, ru⟩, b⟩
        exact hK _ _ ⟨_, .inr ⟨33, _, by decide, rfl, rfl⟩, hJ.step hst hst2 hsl 2 (by decide) _ _ rfl rfl b _ (trivial) (ru.mono hle)⟩
      · refine step_free rfl rfl (fun K' hK => ?_)
        clear hv hdep
        go_simp
        exact hK _ _ ⟨_, .inr ⟨34, _, by decide, rfl, rfl⟩, hJ.step hst hst2 hsl 3 (by decide) _ _ rfl rfl (Below.refl _ _) _ (rfl) (trivial)⟩
      · have e3 : vs 34 = .pointer (some ⟨w.heap.size, 10, none⟩) := hJ.val 3 _ rfl (hdep 3 (by decide))
        have a34 : A.tmps[34]? = some (vs 34) := hv 34 (by decide)
        rw [e3] at a34
        refine step_free rfl rfl (fun K' hK => ?_)
        clear hv hdep
        obtain ⟨d0, d1, d2, d3, d4, d5, d6, d7, d8, d9, d10⟩ := (ex_facts (hEx V hgr)).1
        go_simp
        exact hK _ _ ⟨_, .inr ⟨35, _, by decide, rfl, rfl⟩, hJ.step hst hst2 hsl 4 (by decide) _ _ rfl rfl (Below.refl _ _) _ (rfl) (trivial)⟩
      · have e4 : vs 35 = .slice (some ⟨kb, ko, none⟩) x.kids.len kc := hJ.val 4 _ rfl (hdep 4 (by decide))
        have a35 : A.tmps[35]? = some (vs 35) := hv 35 (by decide)
        rw [e4] at a35
        refine step_free rfl rfl (fun K' hK => ?_)
        clear hv hdep
        go_simp
        exact hK _ _ ⟨_, .inr ⟨36, _, by decide, rfl, rfl⟩, hJ.step hst hst2 hsl 5 (by decide) _ _ rfl rfl (Below.refl _ _) _ (rfl) (trivial)⟩
      · have e5 : vs 36 = .pointer (some ⟨kb, ko, none⟩) := hJ.val 5 _ rfl (hdep 5 (by decide))
        have a36 : A.tmps[36]? = some (vs 36) := hv 36 (by decide)
        rw [e5] at a36
        refine step_free rfl rfl (fun K' hK => ?_)
        clear hv hdep
        obtain ⟨d0, d1, d2, d3, d4, d5, d6, d7, d8, d9, d10⟩ := hKid V hgr
        go_simp
        exact hK _ _ ⟨_, .inr ⟨37, _, by decide, rfl, rfl⟩, hJ.step hst hst2 hsl 6 (by decide) _ _ rfl rfl (Below.refl _ _) _ (rfl) (trivial)⟩
      · have e6 : vs 37 = .agg #[.int .i64 x0.kind, .string (bs x0.name), .int .i64 x0.val.kind, .slice ya x0.val.shape.length yc, .slice ye x0.val.elems.length yec, .int .i64 x0.fn.kind, .int .i64 x0.fn.f, .int .i64 x0.fn.g, .string (bs x0.fn.name), .slice yb x0.fn.body.len ybc, .slice yk x0.kids.len ykc] := hJ.val 6 _ rfl (hdep 6 (by decide))
        have a37 : A.tmps[37]? = some (vs 37) := hv 37 (by decide)
        rw [e6] at a37
        refine step_free rfl rfl (fun K' hK => ?_)
        clear hv hdep
        go_simp
        go_at_call 48
        refine (cX V hgr).mono ?_
        rintro e W ⟨⟨u, rfl, ru⟩, b⟩
        exact hK _ _ ⟨_, .inr ⟨38, _, by decide, rfl, rfl⟩, hJ.step hst hst2 hsl 7 (by decide) _ _ rfl rfl b _ (trivial) (ru.mono hle)⟩
      · have e2 : Row V w1.heap.size (vs 33) TF := hJ.val2 hd 2 _ rfl (hdep 2 (by decide))
        have e7 : Row V w1.heap.size (vs 38) E0 := hJ.val2 hd 7 _ rfl (hdep 7 (by decide))
        have a33 : A.tmps[33]? = some (vs 33) := hv 33 (by decide)
        have a38 : A.tmps[38]? = some (vs 38) := hv 38 (by decide)
        refine step_free rfl rfl (fun K' hK => ?_)
        clear hv hdep
        refine append_row_wp _ _ rfl w1.heap.size (vs 33) (vs 38) TF E0 (eval_at a33) (eval_at a38) e2 e7 (by omega) hle (fun v' w' r' g' => ?_)
        exact hK _ _ ⟨upd vs 39 v', .inr ⟨39, v', by decide, rfl, rfl⟩, hJ.cut hst hsl (Nat.le_refl 8) hd (hgr.trans (e2.grown g' hle)) v' r'⟩
      · have o8 := hdep 8 (by decide)
        have a39 : A.tmps[39]? = some (vs 39) := hv 39 (by decide)
        refine step_free rfl rfl (fun K' hK => ?_)
        clear hv hdep
        go_simp
        exact hK _ _ ⟨upd vs 2 (vs 39), .inr ⟨2, vs 39, by decide, rfl, rfl⟩, hJ.last hsl (Nat.le_refl 8) o8⟩
    · intro d vs V hall hJ
      have h2 : Row V w1.heap.size (vs 2) (TF ++ E0) := (hJ.fin (hall 9 (show 9 < 10 by decide))).2
      have hBV := hJ.gr
      clear hall hJ hst hst2 hsl
      simp only [puts, List.foldl_cons, List.foldl_nil, Act.put, List.setIfInBounds_toArray, List.set_cons_zero, List.set_cons_succ, Nat.reduceAdd]
      generalize vs 2 = r at *
      go_wp2_with fail
      go_ret
      exact Fin _ _ _ (h2.mono hWz) HT.out.symm (hB0.trans (hBV.mono hWz))
  have t5 : (x.kind == 5) = false := by simpa using h5
  by_cases h6 : x.kind = 6
  · have t6 : (x.kind == 6) = true := by simp [h6]
    have htx : textE x = (nth (showT x.kids) 0).2 ++ textF x.fn ++ (nth (showT x.kids) 1).1 := by unfold textE exT; rw [if_neg h1]; rw [if_neg h2]; rw [if_neg h3]; rw [if_neg h4]; rw [if_neg h5]; rw [if_pos h6]
    have hn0 := wf6 h6
    obtain ⟨kb, ko, kc, ek, hkc, hkids⟩ := kid_at kk_ hokk.2 (by omega)
    injection ek with e1 e2 e3
    subst e1
    subst xkc
    have hel := Hel.out
    obtain ⟨x0, hx0⟩ : ∃ x0, (exsOf x.kids)[0]? = some x0 := ⟨_, List.getElem?_eq_getElem (by omega)⟩
    obtain ⟨hox0, hwx0, hzx0⟩ := hfacts x0 (List.mem_of_getElem? hx0)
    obtain ⟨ya, yc, ye, yec, yb, ybc, yk, ykc, hk0, ix0⟩ := hkids 0 x0 hx0
    rw [Nat.zero_mul, Nat.add_zero] at hk0
    have hKid : ∀ V, Below w1.heap.size w1 V → ExAt V kb ko x0.kind x0.name x0.val.kind (.slice ya x0.val.shape.length yc) (.slice ye x0.val.elems.length yec) x0.fn.kind x0.fn.f x0.fn.g x0.fn.name (.slice yb x0.fn.body.len ybc) (.slice yk x0.kids.len ykc) := fun V hV => hk0.below hV
    have hIE : ∀ V, Below w1.heap.size w1 V → IsE V (.agg #[.int .i64 x0.kind, .string (bs x0.name), .int .i64 x0.val.kind, .slice ya x0.val.shape.length yc, .slice ye x0.val.elems.length yec, .int .i64 x0.fn.kind, .int .i64 x0.fn.f, .int .i64 x0.fn.g, .string (bs x0.fn.name), .slice yb x0.fn.body.len ybc, .slice yk x0.kids.len ykc]) x0 := fun V hV => ix0.below hV
    obtain ⟨x1, hx1⟩ : ∃ x1, (exsOf x.kids)[1]? = some x1 := ⟨_, List.getElem?_eq_getElem (by omega)⟩
    obtain ⟨hox1, hwx1, hzx1⟩ := hfacts x1 (List.mem_of_getElem? hx1)
    obtain ⟨za, zc, ze, zec, zb, zbc, zk, zkc, hk1, ix1⟩ := hkids 1 x1 hx1
    rw [Nat.one_mul] at hk1
    have hKid1 : ∀ V, Below w1.heap.size w1 V → ExAt V kb (ko + 11) x1.kind x1.name x1.val.kind (.slice za x1.val.shape.length zc) (.slice ze x1.val.elems.length zec) x1.fn.kind x1.fn.f x1.fn.g x1.fn.name (.slice zb x1.fn.body.len zbc) (.slice zk x1.kids.len zkc) := fun V hV => hk1.below hV
    have hIE1 : ∀ V, Below w1.heap.size w1 V → IsE V (.agg #[.int .i64 x1.kind, .string (bs x1.name), .int .i64 x1.val.kind, .slice za x1.val.shape.length zc, .slice ze x1.val.elems.length zec, .int .i64 x1.fn.kind, .int .i64 x1.fn.f, .int .i64 x1.fn.g, .string (bs x1.fn.name), .slice zb x1.fn.body.len zbc, .slice zk x1.kids.len zkc]) x1 := fun V hV => ix1.below hV
    rw [textE_of x hok x0 hx0, textE_of1 x hok x1 hx1] at htx
    have hl6 : (closedE x0).length + (textF x.fn).length + (textE x1).length ≤ 500000 := by rw [htx, List.length_append, List.length_append] at hlen; exact hlen
    have hn1i : (0 : Int) < (x.kids.len : Int) := by omega
    have hn1' : 0 < x.kids.len := by omega
    have hn2i : (1 : Int) < (x.kids.len : Int) := by omega
    have hn2' : 1 < x.kids.len := by omega
    have cF := fun V (hV : Below w1.heap.size w1 V) => hFc V hV (by omega)
    have cX := fun V (hV : Below w1.heap.size w1 V) => hCl x0 _ V hzx0 hox0 hwx0 (hIE V hV) (hgy1.below hV) (by omega)
    have cY := fun V (hV : Below w1.heap.size w1 V) => hC x1 _ V hzx1 hox1 hwx1 (hIE1 V hV) (hgy1.below hV) (by omega)
    have HT := hid (show [closedE x0, textF x.fn, textE x1].flatten = textE x by rw [htx]; simp)
    generalize textF x.fn = TF at *
    generalize closedE x0 = C0 at *
    generalize textE x1 = E1 at *
    clear h1 h2 h3 h4 h5 h6 hel Hel htx hfacts hCl hFc hIE hIE1 hkids hk0 hk1 ix0 ix1 hn0 hlen
    go_upto_region 13 with fail
    have hsl := slA_inj (b := 42) (l := 2) (n := 15) (by decide)
    have hst : ∀ qq ∈ [isV (.pointer (some ⟨w.heap.size, 10, none⟩)), isV (.slice (some ⟨kb, ko, none⟩) x.kids.len kc), isV (.pointer (some ⟨kb, ko, none⟩)), isV (.agg #[.int .i64 x0.kind, .string (bs x0.name), .int .i64 x0.val.kind, .slice ya x0.val.shape.length yc, .slice ye x0.val.elems.length yec, .int .i64 x0.fn.kind, .int .i64 x0.fn.f, .int .i64 x0.fn.g, .string (bs x0.fn.name), .slice yb x0.fn.body.len ybc, .slice yk x0.kids.len ykc]), isR w.heap.size C0, isV (.pointer (some ⟨w.heap.size, 5, none⟩)), isV (.agg #[.int .i64 x.fn.kind, .int .i64 x.fn.f, .int .i64 x.fn.g, .string (bs x.fn.name), .slice xb x.fn.body.len xbc]), isR w.heap.size TF, isV (.pointer (some ⟨w.heap.size, 10, none⟩)), isV (.slice (some ⟨kb, ko, none⟩) x.kids.len kc), isV (.pointer (some ⟨kb, ko + 11, none⟩)), isV (.agg #[.int .i64 x1.kind, .string (bs x1.name), .int .i64 x1.val.kind, .slice za x1.val.shape.length zc, .slice ze x1.val.elems.length zec, .int .i64 x1.fn.kind, .int .i64 x1.fn.f, .int .i64 x1.fn.g, .string (bs x1.fn.name), .slice zb x1.fn.body.len zbc, .slice zk x1.kids.len zkc]), isR w.heap.size E1, isRs w.heap.size [C0, TF, E1], isR w.heap.size [C0, TF, E1].flatten, isR w.heap.size [C0, TF, E1].flatten], Steady qq := steady_cons (steadyV _) (steady_cons (steadyV _) (steady_cons (steadyV _) (steady_cons (steadyV _) (steady_cons (steadyR _ _) (steady_cons (steadyV _) (steady_cons (steadyV _) (steady_cons (steadyR _ _) (steady_cons (steadyV _) (steady_cons (steadyV _) (steady_cons (steadyV _) (steady_cons (steadyV _) (steady_cons (steadyR _ _) (steady_cons (steadyRs _ _) (steady_cons (steadyR _ _) (steady_cons (steadyR _ _) (steady_nil))))))))))))))))
    refine region_vals [42, 43, 44, 45, 46, 47, 48, 49, 50, 51, 52, 53, 54, 55, 56, 2] (by decide) _ (RP w1 15 (.slice none 0 0) (slA 42 2 15) [isV (.pointer (some ⟨w.heap.size, 10, none⟩)), isV (.slice (some ⟨kb, ko, none⟩) x.kids.len kc), isV (.pointer (some ⟨kb, ko, none⟩)), isV (.agg #[.int .i64 x0.kind, .string (bs x0.name), .int .i64 x0.val.kind, .slice ya x0.val.shape.length yc, .slice ye x0.val.elems.length yec, .int .i64 x0.fn.kind, .int .i64 x0.fn.f, .int .i64 x0.fn.g, .string (bs x0.fn.name), .slice yb x0.fn.body.len ybc, .slice yk x0.kids.len ykc]), isR w.heap.size C0, isV (.pointer (some ⟨w.heap.size, 5, none⟩)), isV (.agg #[.int .i64 x.fn.kind, .int .i64 x.fn.f, .int .i64 x.fn.g, .string (bs x.fn.name), .slice xb x.fn.body.len xbc]), isR w.heap.size TF, isV (.pointer (some ⟨w.heap.size, 10, none⟩)), isV (.slice (some ⟨kb, ko, none⟩) x.kids.len kc), isV (.pointer (some ⟨kb, ko + 11, none⟩)), isV (.agg #[.int .i64 x1.kind, .string (bs x1.name), .int .i64 x1.val.kind, .slice za x1.val.shape.length zc, .slice ze x1.val.elems.length zec, .int .i64 x1.fn.kind, .int .i64 x1.fn.f, .int .i64 x1.fn.g, .string (bs x1.fn.name), .slice zb x1.fn.body.len zbc, .slice zk x1.kids.len zkc]), isR w.heap.size E1, isRs w.heap.size [C0, TF, E1], isR w.heap.size [C0, TF, E1].flatten, isR w.heap.size [C0, TF, E1].flatten]) (fun k => if k = 2 then .slice none 0 0 else undef) (by kernel_rfl) (by kernel_rfl) rfl (by kernel_rfl) (by kernel_rfl) (RP.start rfl) ?_ ?_
    · intro i hi d vs V A hfar hv hd hdep hJ
      have hi2 : i < 16 := hi
      have hgr := hJ.gr
      have hle : w.heap.size ≤ V.heap.size := Nat.le_trans hWz hgr.size
      have p1 : A.tmps[1]? = some (.pointer (some ⟨w.heap.size, 0, none⟩)) := (hfar 1 (by decide)).trans rfl
      clear hfar hi
      rcases (by omega : i = 0 ∨ i = 1 ∨ i = 2 ∨ i = 3 ∨ i = 4 ∨ i = 5 ∨ i = 6 ∨ i = 7 ∨ i = 8 ∨ i = 9 ∨ i = 10 ∨ i = 11 ∨ i = 12 ∨ i = 13 ∨ i = 14 ∨ i = 15) with rfl | rfl | rfl | rfl | rfl | rfl | rfl | rfl | rfl | rfl | rfl | rfl | rfl | rfl | rfl | rfl
      · refine step_free rfl rfl (fun K' hK => ?_)
        clear hv hdep
        go_simp
        exact hK _ _ ⟨_, .inr ⟨42, _, by decide, rfl, rfl⟩, hJ.step hst hsl 0 _ rfl (fun h => absurd h (by decide)) (Below.refl _ _) _ (rfl)⟩
      · have e0 : vs 42 = .pointer (some ⟨w.heap.size, 10, none⟩) := hJ.val 0 _ rfl (hdep 0 (by decide))
        have a42 : A.tmps[42]? = some (vs 42) := hv 42 (by decide)
        rw [e0] at a42
        refine step_free rfl rfl (fun K' hK => ?_)
        clear hv hdep
        obtain ⟨d0, d1, d2, d3, d4, d5, d6, d7, d8, d9, d10⟩ := (ex_facts (hEx V hgr)).1
        go_simp
        exact hK _ _ ⟨_, .inr ⟨43, _, by decide, rfl, rfl⟩, hJ.step hst hsl 1 _ rfl (fun h => absurd h (by decide)) (Below.refl _ _) _ (rfl)⟩
      · have e1 : vs 43 = .slice (some ⟨kb, ko, none⟩) x.kids.len kc := hJ.val 1 _ rfl (hdep 1 (by decide))
        have a43 : A.tmps[43]? = some (vs 43) := hv 43 (by decide)
        rw [e1] at a43
        refine step_free rfl rfl (fun K' hK => ?_)
        clear hv hdep
        go_simp
        exact hK _ _ ⟨_, .inr ⟨44, _, by decide, rfl, rfl⟩, hJ.step hst hsl 2 _ rfl (fun h => absurd h (by decide)) (Below.refl _ _) _ (rfl)⟩
      · have e2 : vs 44 = .pointer (some ⟨kb, ko, none⟩) := hJ.val 2 _ rfl (hdep 2 (by decide))
        have a44 : A.tmps[44]? = some (vs 44) := hv 44 (by decide)
        rw [e2] at a44
        refine step_free rfl rfl (fun K' hK => ?_)
        clear hv hdep
        obtain ⟨d0, d1, d2, d3, d4, d5, d6, d7, d8, d9, d10⟩ := hKid V hgr
        go_simp
        exact hK _ _ ⟨_, .inr ⟨45, _, by decide, rfl, rfl⟩, hJ.step hst hsl 3 _ rfl (fun h => absurd h (by decide)) (Below.refl _ _) _ (rfl)⟩
      · have e3 : vs 45 = .agg #[.int .i64 x0.kind, .string (bs x0.name), .int .i64 x0.val.kind, .slice ya x0.val.shape.length yc, .slice ye x0.val.elems.length yec, .int .i64 x0.fn.kind, .int .i64 x0.fn.f, .int .i64 x0.fn.g, .string (bs x0.fn.name), .slice yb x0.fn.body.len ybc, .slice yk x0.kids.len ykc] := hJ.val 3 _ rfl (hdep 3 (by decide))
        have a45 : A.tmps[45]? = some (vs 45) := hv 45 (by decide)
        rw [e3] at a45
        refine step_free rfl rfl (fun K' hK => ?_)
        clear hv hdep
        go_simp
        go_at_call 73
        refine (cX V hgr).mono ?_
        rintro e W ⟨⟨u, rfl, ru⟩, b⟩
        exact hK _ _ ⟨_, .inr ⟨46, _, by decide, rfl, rfl⟩, hJ.step hst hsl 4 _ rfl (fun h => absurd h (by decide)) b _ (ru.mono hle)⟩
      · refine step_free rfl rfl (fun K' hK => ?_)
        clear hv hdep
        go_simp
        exact hK _ _ ⟨_, .inr ⟨47, _, by decide, rfl, rfl⟩, hJ.step hst hsl 5 _ rfl (fun h => absurd h (by decide)) (Below.refl _ _) _ (rfl)⟩
      · have e5 : vs 47 = .pointer (some ⟨w.heap.size, 5, none⟩) := hJ.val 5 _ rfl (hdep 5 (by decide))
        have a47 : A.tmps[47]? = some (vs 47) := hv 47 (by decide)
        rw [e5] at a47
        refine step_free rfl rfl (fun K' hK => ?_)
        clear hv hdep
        obtain ⟨d0, d1, d2, d3, d4, d5, d6, d7, d8, d9, d10⟩ := (ex_facts (hEx V hgr)).1
        go_simp
        exact hK _ _ ⟨_, .inr ⟨48, _, by decide, rfl, rfl⟩, hJ.step hst hsl 6 _ rfl (fun h => absurd h (by decide)) (Below.refl _ _) _ (rfl)⟩
      · have e6 : vs 48 = .agg #[.int .i64 x.fn.kind, .int .i64 x.fn.f, .int .i64 x.fn.g, .string (bs x.fn.name), .slice xb x.fn.body.len xbc] := hJ.val 6 _ rfl (hdep 6 (by decide))
        have a48 : A.tmps[48]? = some (vs 48) := hv 48 (by decide)
        rw [e6] at a48
        refine step_free rfl rfl (fun K' hK => ?_)
        clear hv hdep
        go_simp
        go_at_call 72
        refine (cF V hgr).mono ?_
        rintro e W ⟨⟨u, rfl, ru⟩, b⟩
        exact hK _ _ ⟨_, .inr ⟨49, _, by decide, rfl, rfl⟩, hJ.step hst hsl 7 _ rfl (fun h => absurd h (by decide)) b _ (ru.mono hle)⟩
      · refine step_free rfl rfl (fun K' hK => ?_)
        clear hv hdep
        go_simp
        exact hK _ _ ⟨_, .inr ⟨50, _, by decide, rfl, rfl⟩, hJ.step hst hsl 8 _ rfl (fun h => absurd h (by decide)) (Below.refl _ _) _ (rfl)⟩
      · have e8 : vs 50 = .pointer (some ⟨w.heap.size, 10, none⟩) := hJ.val 8 _ rfl (hdep 8 (by decide))
        have a50 : A.tmps[50]? = some (vs 50) := hv 50 (by decide)
        rw [e8] at a50
        refine step_free rfl rfl (fun K' hK => ?_)
        clear hv hdep
        obtain ⟨d0, d1, d2, d3, d4, d5, d6, d7, d8, d9, d10⟩ := (ex_facts (hEx V hgr)).1
        go_simp
        exact hK _ _ ⟨_, .inr ⟨51, _, by decide, rfl, rfl⟩, hJ.step hst hsl 9 _ rfl (fun h => absurd h (by decide)) (Below.refl _ _) _ (rfl)⟩
      · have e9 : vs 51 = .slice (some ⟨kb, ko, none⟩) x.kids.len kc := hJ.val 9 _ rfl (hdep 9 (by decide))
        have a51 : A.tmps[51]? = some (vs 51) := hv 51 (by decide)
        rw [e9] at a51
        refine step_free rfl rfl (fun K' hK => ?_)
        clear hv hdep
        go_simp
        exact hK _ _ ⟨_, .inr ⟨52, _, by decide, rfl, rfl⟩, hJ.step hst hsl 10 _ rfl (fun h => absurd h (by decide)) (Below.refl _ _) _ (rfl)⟩
      · have e10 : vs 52 = .pointer (some ⟨kb, ko + 11, none⟩) := hJ.val 10 _ rfl (hdep 10 (by decide))
        have a52 : A.tmps[52]? = some (vs 52) := hv 52 (by decide)
        rw [e10] at a52
        refine step_free rfl rfl (fun K' hK => ?_)
        clear hv hdep
        obtain ⟨d0, d1, d2, d3, d4, d5, d6, d7, d8, d9, d10⟩ := hKid1 V hgr
        go_simp
        exact hK _ _ ⟨_, .inr ⟨53, _, by decide, rfl, rfl⟩, hJ.step hst hsl 11 _ rfl (fun h => absurd h (by decide)) (Below.refl _ _) _ (rfl)⟩
      · have e11 : vs 53 = .agg #[.int .i64 x1.kind, .string (bs x1.name), .int .i64 x1.val.kind, .slice za x1.val.shape.length zc, .slice ze x1.val.elems.length zec, .int .i64 x1.fn.kind, .int .i64 x1.fn.f, .int .i64 x1.fn.g, .string (bs x1.fn.name), .slice zb x1.fn.body.len zbc, .slice zk x1.kids.len zkc] := hJ.val 11 _ rfl (hdep 11 (by decide))
        have a53 : A.tmps[53]? = some (vs 53) := hv 53 (by decide)
        rw [e11] at a53
        refine step_free rfl rfl (fun K' hK => ?_)
        clear hv hdep
        go_simp
        go_at_call 48
        refine (cY V hgr).mono ?_
        rintro e W ⟨⟨u, rfl, ru⟩, b⟩
        exact hK _ _ ⟨_, .inr ⟨54, _, by decide, rfl, rfl⟩, hJ.step hst hsl 12 _ rfl (fun h => absurd h (by decide)) b _ (ru.mono hle)⟩
      · have e4 : Row V w.heap.size (vs 46) C0 := hJ.val 4 _ rfl (hdep 4 (by decide))
        have a46 : A.tmps[46]? = some (vs 46) := hv 46 (by decide)
        obtain ⟨s46a, s46c, q46⟩ := Row.slice e4
        rw [q46] at a46 e4
        have e7 : Row V w.heap.size (vs 49) TF := hJ.val 7 _ rfl (hdep 7 (by decide))
        have a49 : A.tmps[49]? = some (vs 49) := hv 49 (by decide)
        obtain ⟨s49a, s49c, q49⟩ := Row.slice e7
        rw [q49] at a49 e7
        have e12 : Row V w.heap.size (vs 54) E1 := hJ.val 12 _ rfl (hdep 12 (by decide))
        have a54 : A.tmps[54]? = some (vs 54) := hv 54 (by decide)
        obtain ⟨s54a, s54c, q54⟩ := Row.slice e12
        rw [q54] at a54 e12
        refine step_free rfl rfl (fun K' hK => ?_)
        clear hv hdep
        go_simp
        exact hK _ _ ⟨_, .inr ⟨55, _, by decide, rfl, rfl⟩, hJ.step hst hsl 13 _ rfl (fun h => absurd h (by decide)) ((Below.refl _ _).alloc (Nat.le_refl _) _) _ (rows3 (heap_alloc_new V _) (Row.below e4 ((Below.refl _ _).alloc (Nat.le_refl _) _)) (Row.below e7 ((Below.refl _ _).alloc (Nat.le_refl _) _)) (Row.below e12 ((Below.refl _ _).alloc (Nat.le_refl _) _)))⟩
      · have e13 : IsRowsT w.heap.size [C0, TF, E1] (vs 55) V := hJ.val 13 _ rfl (hdep 13 (by decide))
        have a55 : A.tmps[55]? = some (vs 55) := hv 55 (by decide)
        have Hcc := hid (tconcat_row _ _ _ V e13 (by simp only [List.flatten_cons, List.flatten_nil, List.append_nil, List.length_append, List.length_cons, List.length_nil]; omega) (by simp) hle)
        refine step_free rfl rfl (fun K' hK => ?_)
        clear hv hdep
        go_simp
        go_at_call 70
        refine Hcc.out.mono ?_
        rintro e W ⟨⟨u, rfl, ru⟩, b⟩
        exact hK _ _ ⟨_, .inr ⟨56, _, by decide, rfl, rfl⟩, hJ.step hst hsl 14 _ rfl (fun h => absurd h (by decide)) b _ (ru)⟩
      · have e14 : Row V w.heap.size (vs 56) _ := hJ.val 14 _ rfl (hdep 14 (by decide))
        have a56 : A.tmps[56]? = some (vs 56) := hv 56 (by decide)
        have o0 := hdep 0 (by decide)
        refine step_free rfl rfl (fun K' hK => ?_)
        clear hv hdep
        go_simp
        exact hK _ _ ⟨_, .inr ⟨2, _, by decide, rfl, rfl⟩, hJ.step hst hsl 15 _ rfl (fun _ => .inl o0) (Below.refl _ _) _ (e14)⟩
    · intro d vs V hall hJ
      have h2 := hJ.val 15 _ rfl (hall 15 (show 15 < 16 by decide))
      have h2 : Row V w.heap.size (vs 2) _ := h2
      have hBV := hJ.gr
      clear hall hJ hst hsl
      simp only [puts, List.foldl_cons, List.foldl_nil, Act.put, List.setIfInBounds_toArray, List.set_cons_zero, List.set_cons_succ, Nat.reduceAdd]
      generalize vs 2 = r at *
      go_wp2_with fail
      go_ret
      exact Fin _ _ _ h2 HT.out (hB0.trans (hBV.mono hWz))
  have t6 : (x.kind == 6) = false := by simpa using h6
  by_cases h7 : x.kind = 7
  · have t7 : (x.kind == 7) = true := by simp [h7]
    have htx : textE x = (nth (showT x.kids) 0).2 ++ encl (gl gLB) (gl gRB) (joinG gSemi (((showT x.kids).drop 1).map Prod.fst)) := by unfold textE exT; rw [if_neg h1]; rw [if_neg h2]; rw [if_neg h3]; rw [if_neg h4]; rw [if_neg h5]; rw [if_neg h6]; rw [if_pos h7]
    have hn0 := wf7 h7
    obtain ⟨kb, ko, kc, ek, hkc, hkids⟩ := kid_at kk_ hokk.2 (by omega)
    injection ek with e1 e2 e3
    subst e1
    subst xkc
    have hel := Hel.out
    obtain ⟨x0, hx0⟩ : ∃ x0, (exsOf x.kids)[0]? = some x0 := ⟨_, List.getElem?_eq_getElem (by omega)⟩
    obtain ⟨hox0, hwx0, hzx0⟩ := hfacts x0 (List.mem_of_getElem? hx0)
    obtain ⟨ya, yc, ye, yec, yb, ybc, yk, ykc, hk0, ix0⟩ := hkids 0 x0 hx0
    rw [Nat.zero_mul, Nat.add_zero] at hk0
    have hKid : ∀ V, Below w1.heap.size w1 V → ExAt V kb ko x0.kind x0.name x0.val.kind (.slice ya x0.val.shape.length yc) (.slice ye x0.val.elems.length yec) x0.fn.kind x0.fn.f x0.fn.g x0.fn.name (.slice yb x0.fn.body.len ybc) (.slice yk x0.kids.len ykc) := fun V hV => hk0.below hV
    have hIE : ∀ V, Below w1.heap.size w1 V → IsE V (.agg #[.int .i64 x0.kind, .string (bs x0.name), .int .i64 x0.val.kind, .slice ya x0.val.shape.length yc, .slice ye x0.val.elems.length yec, .int .i64 x0.fn.kind, .int .i64 x0.fn.f, .int .i64 x0.fn.g, .string (bs x0.fn.name), .slice yb x0.fn.body.len ybc, .slice yk x0.kids.len ykc]) x0 := fun V hV => ix0.below hV
    have hdr : ((showT x.kids).drop 1).map Prod.fst = ((exsOf x.kids).drop 1).map textE := by rw [show_exs x.kids hokk.2, ← List.map_drop, List.map_map]; rfl
    rw [textE_of x hok x0 hx0, hdr] at htx
    obtain ⟨XK, hXK⟩ : ∃ l, (exsOf x.kids).drop 1 = l := ⟨_, rfl⟩
    rw [hXK] at htx
    have hget : ∀ j z, XK[j]? = some z → (exsOf x.kids)[j + 1]? = some z := by
      rw [← hXK]
      intro j z h
      rw [List.getElem?_drop, Nat.add_comm] at h; exact h
    have hXl : XK.length + 1 = x.kids.len := by rw [← hXK, List.length_drop]; omega
    have hl7 : (closedE x0).length + ((joinG gSemi (XK.map textE)).length + 2) ≤ 500000 := by rw [htx, List.length_append, encl_len] at hlen; exact hlen
    have hKall : ∀ j z, XK[j]? = some z → z.ok = true ∧ WfE z ∧ z.sz ≤ kk ∧ ∃ za zc ze zec zb zbc zk zkc, ∀ V, Below w1.heap.size w1 V → ExAt V kb (ko + 11 + j * 11) z.kind z.name z.val.kind (.slice za z.val.shape.length zc) (.slice ze z.val.elems.length zec) z.fn.kind z.fn.f z.fn.g z.fn.name (.slice zb z.fn.body.len zbc) (.slice zk z.kids.len zkc) ∧ IsE V (.agg #[.int .i64 z.kind, .string (bs z.name), .int .i64 z.val.kind, .slice za z.val.shape.length zc, .slice ze z.val.elems.length zec, .int .i64 z.fn.kind, .int .i64 z.fn.f, .int .i64 z.fn.g, .string (bs z.fn.name), .slice zb z.fn.body.len zbc, .slice zk z.kids.len zkc]) z := fun j z hj => by
      obtain ⟨f1, f2, f3⟩ := hfacts z (List.mem_of_getElem? (hget j z hj))
      obtain ⟨za, zc, ze, zec, zb, zbc, zk, zkc, g1, g2⟩ := hkids (j + 1) z (hget j z hj)
      rw [show ko + (j + 1) * 11 = ko + 11 + j * 11 by omega] at g1
      exact ⟨f1, f2, f3, za, zc, ze, zec, zb, zbc, zk, zkc, fun V hV => ⟨g1.below hV, g2.below hV⟩⟩
    have Hc := hid (hCl x0 _ w1 hzx0 hox0 hwx0 (hIE w1 (Below.refl _ _)) hgy1 (by omega))
    have HT := hid htx
    have hn1i : (0 : Int) < (x.kids.len : Int) := by omega
    have hn1' : 0 < x.kids.len := by omega
    have hjt := fun k => join_take gSemi (XK.map textE) k
    generalize closedE x0 = C0 at *
    obtain ⟨d0, d1, d2, d3, d4, d5, d6, d7, d8, d9, d10⟩ := hKid w1 (Below.refl _ _)
    clear h1 h2 h3 h4 h5 h6 h7 htx hfacts hCl hFc hIE hkids hk0 ix0 hn0 hlen hdr hXK hget hel Hel hx0 hKid
    go_wp2_with fail
    refine Hc.out.mono ?_
    rintro e w2 ⟨⟨v2, rfl, r2⟩, b2⟩
    clear c0 c1 c2 c3 c4 c5 c6 c7 c8 c9 c10 d0 d1 d2 d3 d4 d5 d6 d7 d8 d9 d10 Hc
    go_wp2_with fail
    refine (tglyph_any _ _).mono ?_
    rintro e w3 ⟨rfl, b3⟩
    have hN4 := heap_alloc_new w3 (.cells #[.int .i64 3, .string ⟨#[91]⟩, .int .i64 0, .slice none 0 0, .slice none 0 0] 88)
    have b4 := (Below.refl _ w3).alloc (Nat.le_refl _) (.cells #[.int .i64 3, .string ⟨#[91]⟩, .int .i64 0, .slice none 0 0, .slice none 0 0] 88)
    have b24 := b3.trans (b4.mono b3.size)
    have hB3 := b2.trans (b3.mono b2.size)
    have hB4 := b2.trans (b24.mono b2.size)
    have rG := Row.gl1 (base := w1.heap.size) gLB hN4 hB3.size
    have r2' := r2.below b24
    have hN2 : C0.length + [gl gLB].length ≤ 1000000 := by simp only [List.length_cons, List.length_nil]; omega
    clear r2 hN4 b3 b4 b24 hB3 b2
    go_upto_region 16 with (at_builtin; go_must (refine append_row rfl _ _ rfl w1.heap.size v2 _ C0 [gl gLB] rfl rfl r2' rG hN2 hB4.size ?_); intro v5 w5 r5 g5)
    have hB5 := hB4.trans (r2'.grown g5 hB4.size)
    clear r2' rG hB4 g5 hN2
    obtain ⟨d0, d1, d2, d3, d4, d5, d6, d7, d8, d9, d10⟩ := (ex_facts (hEx w5 hB5)).1
    have hs1 : (1 : Int) ≤ (x.kids.len : Int) := by omega
    have hs2 : (x.kids.len : Int) ≤ (kc : Int) := by omega
    have Hm1 := hid (show x.kids.len - 1 = XK.length by omega)
    have HX := hid hXl
    have Hkc := hid hkc
    clear hXl hkc hn1i hn1'
    by_cases hk1 : kc = 1
    · subst hk1
      go_wp2_with fail
      rw [Hm1.out]
      have hX0' : XK.length = 0 := by have := HX.out; have := Hkc.out; omega
      have hXb : XK.length < 9223372036854775807 := by have := HX.out; have := Hkc.out; omega
      clear Hm1 HX Hkc d0 d1 d2 d3 d4 d5 d6 d7 d8 d9 d10 hs1 hs2
      go_loopw [3, 71] (fun vo vi wr => ∃ j : Nat, j ≤ XK.length ∧ vi = .int .i64 (j : Nat) ∧ Row wr w1.heap.size vo (C0 ++ [gl gLB] ++ joinG gSemi ((XK.take j).map textE)) ∧ Below w1.heap.size w1 wr) (fun _ vi _ => XK.length - (intOf vi).toNat)
      case atStart => exact ⟨0, Nat.zero_le _, rfl, by rw [List.take_zero, List.map_nil]; show Row _ _ _ (C0 ++ [gl gLB] ++ []); rw [List.append_nil]; exact r5, hB5⟩
      case round =>
        obtain ⟨j, hj, rfl, hrow, hB⟩ := hrel
        by_cases hlt : j < XK.length
        · exfalso; omega
        · obtain rfl : j = XK.length := by omega
          have hji : ¬ (XK.length : Int) < (XK.length : Int) := by omega
          have ht : XK.take XK.length = XK := List.take_length
          rw [ht] at hrow
          have HTT : Hid ((C0 ++ [gl gLB] ++ joinG gSemi (XK.map textE)) ++ [gl gRB] = textE x) := hid (by rw [HT.out]; simp [encl])
          have hlT : (C0 ++ [gl gLB] ++ joinG gSemi (XK.map textE)).length + [gl gRB].length ≤ 1000000 := by simp only [List.length_append, List.length_cons, List.length_nil]; omega
          generalize C0 ++ [gl gLB] ++ joinG gSemi (XK.map textE) = TA at *
          clear ht hKall hjt hl7 HT
          go_wp2_with fail
          refine (tglyph_any _ _).mono ?_
          rintro e w6 ⟨rfl, b6⟩
          have hN6 := heap_alloc_new w6 (.cells #[.int .i64 3, .string ⟨#[93]⟩, .int .i64 0, .slice none 0 0, .slice none 0 0] 88)
          have b7 := b6.alloc b6.size (.cells #[.int .i64 3, .string ⟨#[93]⟩, .int .i64 0, .slice none 0 0, .slice none 0 0] 88)
          have hB6 := hB.trans (b6.mono hB.size)
          have hB7 := hB.trans (b7.mono hB.size)
          have rD := Row.gl1 (base := w1.heap.size) gRB hN6 hB6.size
          have r6 := hrow.below b7
          clear hrow hN6 b6 b7 hB6
          go_wp2_with (at_builtin; go_must (refine append_row rfl _ _ rfl w1.heap.size u3 _ TA [gl gRB] rfl rfl r6 rD hlT hB7.size ?_); intro v8 w8 r8 g8)
          go_ret
          exact Fin _ _ _ (r8.mono hWz) HTT.out (hB0.trans ((hB7.trans (r6.grown g8 hB7.size)).mono hWz))
    · have hk1i : ¬ (kc : Int) = 1 := by omega
      go_wp2_with fail
      rw [Hm1.out]
      have hX0' : True := trivial
      have hXb : XK.length < 9223372036854775807 := by have := HX.out; have := Hkc.out; omega
      clear Hm1 HX Hkc d0 d1 d2 d3 d4 d5 d6 d7 d8 d9 d10 hs1 hs2
      go_loopw [3, 71] (fun vo vi wr => ∃ j : Nat, j ≤ XK.length ∧ vi = .int .i64 (j : Nat) ∧ Row wr w1.heap.size vo (C0 ++ [gl gLB] ++ joinG gSemi ((XK.take j).map textE)) ∧ Below w1.heap.size w1 wr) (fun _ vi _ => XK.length - (intOf vi).toNat)
      case atStart => exact ⟨0, Nat.zero_le _, rfl, by rw [List.take_zero, List.map_nil]; show Row _ _ _ (C0 ++ [gl gLB] ++ []); rw [List.append_nil]; exact r5, hB5⟩
      case round =>
        obtain ⟨j, hj, rfl, hrow, hB⟩ := hrel
        by_cases hlt : j < XK.length
        · have hjX : XK[j]? = some XK[j] := List.getElem?_eq_getElem hlt
          have hTk : XK.take (j + 1) = XK.take j ++ [XK[j]] := take_one XK j _ hjX
          generalize XK[j] = z at *
          obtain ⟨hoz, hwz, hzz', za, zc, ze, zec, zb, zbc, zk, zkc, hkz⟩ := hKall j z hjX
          obtain ⟨⟨d0, d1, d2, d3, d4, d5, d6, d7, d8, d9, d10⟩, -⟩ := hkz wr hB
          have hiz7 := fun {V : World} (hV : Below w1.heap.size w1 V) => (hkz V hV).2
          clear hkz
          have hji : (j : Int) < (XK.length : Int) := by omega
          have hL1 := heap_alloc_new wr (.cells #[.int .i64 z.kind, .string (bs z.name), .int .i64 z.val.kind, .slice za z.val.shape.length zc, .slice ze z.val.elems.length zec, .int .i64 z.fn.kind, .int .i64 z.fn.f, .int .i64 z.fn.g, .string (bs z.fn.name), .slice zb z.fn.body.len zbc, .slice zk z.kids.len zkc] 34)
          have b1 := (Below.refl _ wr).alloc (Nat.le_refl _) (.cells #[.int .i64 z.kind, .string (bs z.name), .int .i64 z.val.kind, .slice za z.val.shape.length zc, .slice ze z.val.elems.length zec, .int .i64 z.fn.kind, .int .i64 z.fn.f, .int .i64 z.fn.g, .string (bs z.fn.name), .slice zb z.fn.body.len zbc, .slice zk z.kids.len zkc] 34)
          have hjl := hjt (j + 1)
          rw [← List.map_take, hTk, List.map_append, List.map_cons, List.map_nil, join_snoc] at hjl
          obtain ⟨TJ, hTJ⟩ : ∃ T, joinG gSemi ((XK.take j).map textE) = T := ⟨_, rfl⟩
          have HW : Hid (C0 ++ [gl gLB] ++ joinG gSemi ((XK.take (j + 1)).map textE) = (C0 ++ [gl gLB] ++ (if (XK.take j).map textE = [] then [] else TJ ++ [gl gSemi])) ++ textE z) := hid (by rw [hTk, List.map_append, List.map_cons, List.map_nil, join_snoc, hTJ]; simp only [List.append_assoc])
          rw [hTJ] at hrow hjl
          have hTJ0 : j = 0 → TJ = [] := fun h => by subst h; rw [← hTJ]; rfl
          have hne : 0 < j → (XK.take j).map textE ≠ [] := fun h e => by
            have := congrArg List.length e
            rw [List.length_map, List.length_take] at this
            simp only [List.length_nil] at this; omega
          have hnil : j = 0 → (XK.take j).map textE = [] := fun h => by subst h; rfl
          obtain ⟨P, hP⟩ : ∃ P, C0 ++ [gl gLB] = P := ⟨_, rfl⟩
          have hPl : P.length + (joinG gSemi (XK.map textE)).length ≤ 500000 := by rw [← hP]; simp only [List.length_append, List.length_cons, List.length_nil]; omega
          rw [hP] at hrow HW
          have HPP := hid hP
          clear hTk hTJ hP hjX hKall
          go_upto_region 19 with fail
          generalize wr.alloc (.cells #[.int .i64 z.kind, .string (bs z.name), .int .i64 z.val.kind, .slice za z.val.shape.length zc, .slice ze z.val.elems.length zec, .int .i64 z.fn.kind, .int .i64 z.fn.f, .int .i64 z.fn.g, .string (bs z.fn.name), .slice zb z.fn.body.len zbc, .slice zk z.kids.len zkc] 34) = w6 at *
          clear d0 d1 d2 d3 d4 d5 d6 d7 d8 d9 d10
          by_cases hj0 : j = 0
          · have hj0i : ¬ (0 : Int) < (j : Int) := by omega
            rw [if_pos (hnil hj0)] at hjl
            have HT0' : Hid ((P ++ TJ) ++ textE z = C0 ++ [gl gLB] ++ joinG gSemi ((XK.take (j + 1)).map textE)) := hid (by rw [HPP.out, HW.out, if_pos (hnil hj0), hTJ0 hj0])
            have hlenT' : (P ++ TJ).length + (textE z).length ≤ 500000 := by rw [hTJ0 hj0]; simp only [List.length_append, List.length_nil] at hjl ⊢; omega
            have r7' := hrow.below b1
            have hB7' := hB.trans (b1.mono hB.size)
            have hL7' := hL1
            clear hTJ0 hne hnil hrow hL1 b1 hjl HW hj0 HPP hPl
            go_upto_region 21 with fail
            have hL7 := hL7'
            have r7 := r7'
            have hB7 := hB7'
            have HT0 := HT0'
            have hlenT := hlenT'
            clear hL7' r7' hB7' HT0' hlenT'
            generalize w6 = w7 at *
            generalize u3 = v7 at *
            generalize P ++ TJ = T0 at *
            have Ht := hid (hC z (.agg #[.int .i64 z.kind, .string (bs z.name), .int .i64 z.val.kind, .slice za z.val.shape.length zc, .slice ze z.val.elems.length zec, .int .i64 z.fn.kind, .int .i64 z.fn.f, .int .i64 z.fn.g, .string (bs z.fn.name), .slice zb z.fn.body.len zbc, .slice zk z.kids.len zkc]) w7 hzz' hoz hwz (hiz7 hB7) (hgy1.below hB7) (by omega))
            have hN : T0.length + (textE z).length ≤ 1000000 := by omega
            generalize textE z = EZ at *
            generalize wr.heap.size = LB at *
            obtain ⟨d0, d1, d2, d3, d4, d5, d6, d7, d8, d9, d10⟩ := (ex_facts hL7).1
            clear hiz7 hlenT hL7
            go_wp2_with fail
            refine Ht.out.mono ?_
            rintro e w8 ⟨⟨v8, rfl, r8⟩, b8⟩
            have hB8 := hB7.trans (b8.mono hB7.size)
            have r7b := r7.below b8
            have r8b := r8.mono hB7.size
            clear Ht d0 d1 d2 d3 d4 d5 d6 d7 d8 d9 d10 b8 r7 r8
            go_wp2_with (at_builtin; go_must (refine append_row rfl _ _ rfl w1.heap.size v7 v8 T0 EZ rfl rfl r7b r8b hN hB8.size ?_); intro v9 w9 r9 g9)
            go_roundw
            case rel => exact ⟨j + 1, by omega, by go_num, by rw [← HT0.out]; exact r9, hB8.trans (r7b.grown g9 hB8.size)⟩
            case measure => simp [intOf]; omega
          · have hj0i : (0 : Int) < (j : Int) := by omega
            rw [if_neg (hne (by omega))] at hjl
            have HT0' : Hid (((P ++ TJ) ++ [gl gSemi]) ++ textE z = C0 ++ [gl gLB] ++ joinG gSemi ((XK.take (j + 1)).map textE)) := hid (by rw [HPP.out, HW.out, if_neg (hne (by omega))]; simp only [List.append_assoc])
            have hlenT' : ((P ++ TJ) ++ [gl gSemi]).length + (textE z).length ≤ 500000 := by simp only [List.length_append] at hjl ⊢; omega
            have hltK := hrow.lt
            clear hTJ0 hne hnil hjl HW hj0 HPP hPl
            go_wp2_with fail
            refine (tglyph_any _ _).mono ?_
            rintro e w3 ⟨rfl, b3⟩
            have hN4 := heap_alloc_new w3 (.cells #[.int .i64 3, .string ⟨#[59]⟩, .int .i64 0, .slice none 0 0, .slice none 0 0] 88)
            have b4 := (Below.refl _ w3).alloc (Nat.le_refl _) (.cells #[.int .i64 3, .string ⟨#[59]⟩, .int .i64 0, .slice none 0 0, .slice none 0 0] 88)
            have b14 := b3.trans (b4.mono b3.size)
            have hB1 := hB.trans (b1.mono hB.size)
            have hB4 := hB1.trans (b14.mono hB1.size)
            have hB3 := hB1.trans (b3.mono hB1.size)
            have rD := Row.gl1 (base := w1.heap.size) gSemi hN4 hB3.size
            have r4 := (hrow.below b1).below b14
            have hL4 := (b14.block _ (Array.getElem?_eq_some_iff.1 hL1).1).trans hL1
            generalize P ++ TJ = PT at *
            have hN2 : PT.length + [gl gSemi].length ≤ 1000000 := by simp only [List.length_append] at hlenT'; omega
            clear hrow hL1 b1 b3 b4 hN4
            go_upto_region 21 with (at_builtin; go_must (refine append_row rfl _ _ rfl w1.heap.size u3 _ PT [gl gSemi] rfl rfl r4 rD hN2 hB4.size ?_); intro v7 w7 r7 hgw)
            have hB7 := hB4.trans (r4.grown hgw hB4.size)
            have hL7 := (hgw.block wr.heap.size (Array.getElem?_eq_some_iff.1 hL4).1 (fun e => by have := (hltK _ e.symm).2; omega)).trans hL4
            have HT0 := HT0'
            have hlenT := hlenT'
            generalize PT ++ [gl gSemi] = T0 at *
            clear r4 rD hL4 hB4 hB3 b14 hB1 hgw hltK HT0' hlenT'
            have Ht := hid (hC z (.agg #[.int .i64 z.kind, .string (bs z.name), .int .i64 z.val.kind, .slice za z.val.shape.length zc, .slice ze z.val.elems.length zec, .int .i64 z.fn.kind, .int .i64 z.fn.f, .int .i64 z.fn.g, .string (bs z.fn.name), .slice zb z.fn.body.len zbc, .slice zk z.kids.len zkc]) w7 hzz' hoz hwz (hiz7 hB7) (hgy1.below hB7) (by omega))
            have hN : T0.length + (textE z).length ≤ 1000000 := by omega
            generalize textE z = EZ at *
            generalize wr.heap.size = LB at *
            obtain ⟨d0, d1, d2, d3, d4, d5, d6, d7, d8, d9, d10⟩ := (ex_facts hL7).1
            clear hiz7 hlenT hL7
            go_wp2_with fail
            refine Ht.out.mono ?_
            rintro e w8 ⟨⟨v8, rfl, r8⟩, b8⟩
            have hB8 := hB7.trans (b8.mono hB7.size)
            have r7b := r7.below b8
            have r8b := r8.mono hB7.size
            clear Ht d0 d1 d2 d3 d4 d5 d6 d7 d8 d9 d10 b8 r7 r8
            go_wp2_with (at_builtin; go_must (refine append_row rfl _ _ rfl w1.heap.size v7 v8 T0 EZ rfl rfl r7b r8b hN hB8.size ?_); intro v9 w9 r9 g9)
            go_roundw
            case rel => exact ⟨j + 1, by omega, by go_num, by rw [← HT0.out]; exact r9, hB8.trans (r7b.grown g9 hB8.size)⟩
            case measure => simp [intOf]; omega
        · obtain rfl : j = XK.length := by omega
          have hji : ¬ (XK.length : Int) < (XK.length : Int) := by omega
          have ht : XK.take XK.length = XK := List.take_length
          rw [ht] at hrow
          have HTT : Hid ((C0 ++ [gl gLB] ++ joinG gSemi (XK.map textE)) ++ [gl gRB] = textE x) := hid (by rw [HT.out]; simp [encl])
          have hlT : (C0 ++ [gl gLB] ++ joinG gSemi (XK.map textE)).length + [gl gRB].length ≤ 1000000 := by simp only [List.length_append, List.length_cons, List.length_nil]; omega
          generalize C0 ++ [gl gLB] ++ joinG gSemi (XK.map textE) = TA at *
          clear ht hKall hjt hl7 HT
          go_wp2_with fail
          refine (tglyph_any _ _).mono ?_
          rintro e w6 ⟨rfl, b6⟩
          have hN6 := heap_alloc_new w6 (.cells #[.int .i64 3, .string ⟨#[93]⟩, .int .i64 0, .slice none 0 0, .slice none 0 0] 88)
          have b7 := b6.alloc b6.size (.cells #[.int .i64 3, .string ⟨#[93]⟩, .int .i64 0, .slice none 0 0, .slice none 0 0] 88)
          have hB6 := hB.trans (b6.mono hB.size)
          have hB7 := hB.trans (b7.mono hB.size)
          have rD := Row.gl1 (base := w1.heap.size) gRB hN6 hB6.size
          have r6 := hrow.below b7
          clear hrow hN6 b6 b7 hB6
          go_wp2_with (at_builtin; go_must (refine append_row rfl _ _ rfl w1.heap.size u3 _ TA [gl gRB] rfl rfl r6 rD hlT hB7.size ?_); intro v8 w8 r8 g8)
          go_ret
          exact Fin _ _ _ (r8.mono hWz) HTT.out (hB0.trans ((hB7.trans (r6.grown g8 hB7.size)).mono hWz))
  have t7 : (x.kind == 7) = false := by simpa using h7
  have HT := hid (show textE x = [] by unfold textE exT; rw [if_neg h1]; rw [if_neg h2]; rw [if_neg h3]; rw [if_neg h4]; rw [if_neg h5]; rw [if_neg h6]; rw [if_neg h7])
  clear h1 h2 h3 h4 h5 h6 h7 hfacts hCl hFc hEx
  go_wp2_with fail
  go_ret
  exact Fin _ _ _ (Row.nil _ _) HT.out.symm hB0
end Go.Proofs.YtijfnnjgcgmnaaaGreatDoor.Par
