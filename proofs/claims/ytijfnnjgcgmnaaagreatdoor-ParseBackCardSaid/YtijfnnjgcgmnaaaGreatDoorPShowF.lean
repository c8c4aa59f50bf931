/- parse: a tree's text: a function. -/
import Derived.Test.YtijfnnjgcgmnaaaGreatDoorPShowB
import Derived.Deep.Cut
namespace Go.Proofs.YtijfnnjgcgmnaaaGreatDoor.Par
open Go.RowKit Go.Shelf
set_option linter.unusedVariables false
set_option linter.unusedSimpArgs false

def slA (b l n k : Nat) : Nat := if k = n then l else b + k
theorem slA_inj {b l n : Nat} (h : l < b) : ∀ i j, slA b l n i = slA b l n j → i = j := by
  intro i j e
  unfold slA at e
  split at e <;> split at e <;> omega
theorem fixed_nil : ∀ f ∈ ([] : List VP), Fixed f := fun f hf => by cases hf
theorem fixed_cons {f : VP} {r : List VP} (h : Fixed f) (hr : ∀ g ∈ r, Fixed g) : ∀ g ∈ f :: r, Fixed g := fun g hg => by
  rcases List.mem_cons.1 hg with rfl | hg
  · exact h
  · exact hr g hg
theorem steady_nil : ∀ f ∈ ([] : List VP), Steady f := fun f hf => by cases hf
theorem steady_cons {f : VP} {r : List VP} (h : Steady f) (hr : ∀ g ∈ r, Steady g) : ∀ g ∈ f :: r, Steady g := fun g hg => by
  rcases List.mem_cons.1 hg with rfl | hg
  · exact h
  · exact hr g hg
set_option maxRecDepth 100000 in
set_option maxHeartbeats 8000000 in
theorem fun_step (k : Nat) (hL : LinesC18 k) : FunC18 k := by
  intro f va w hz hok hwf hx hgy hlen
  obtain ⟨vb, rfl, j1⟩ := hx
  obtain ⟨fb, fbc, rfl, -⟩ := j1.parts
  have hF0 := heap_alloc_new w (.cells #[.int .i64 f.kind, .int .i64 f.f, .int .i64 f.g, .string (bs f.name), .slice fb f.body.len fbc] 31)
  have hB0 := (Below.refl _ w).alloc (Nat.le_refl _) (.cells #[.int .i64 f.kind, .int .i64 f.f, .int .i64 f.g, .string (bs f.name), .slice fb f.body.len fbc] 31)
  have Fin : ∀ V v T, Row V w.heap.size v T → T = textF f → Below w.heap.size w V → SayA w (textF f) (.returned v) V := fun V v T h e b => by subst e; exact ⟨⟨v, rfl, h⟩, b⟩
  go_enter Tryz.func72, Tryz.ntmps72
  go_upto_region 1 with fail
  generalize w.alloc (.cells #[.int .i64 f.kind, .int .i64 f.f, .int .i64 f.g, .string (bs f.name), .slice fb f.body.len fbc] 31) = w1 at *
  obtain ⟨c0, c1, c2, c3, c4⟩ := (fn_facts hF0).1
  have hg1 := pglyph_any f.f w1 (hgy.below hB0)
  obtain ⟨GB, hGB⟩ : ∃ g, bs (glyphF f.f) = g := ⟨_, rfl⟩
  rw [hGB] at hg1
  have ownG : ∀ V base, TokOwn V base (.agg (glC 3 GB).toArray) (gl (glyphF f.f)) := fun V base => by rw [← hGB]; exact own_gl _ _ _
  clear hGB
  go_wp2_with fail
  refine hg1.mono ?_
  rintro e w2 ⟨rfl, b2⟩
  go_wp2_with fail
  refine (tglyph_any _ _).mono ?_
  rintro e w3 ⟨rfl, b3⟩
  have hG3 := heap_alloc_new w3 (.cells #[.int .i64 3, .string GB, .int .i64 0, .slice none 0 0, .slice none 0 0] 88)
  have hb4 := (Below.refl _ w3).alloc (Nat.le_refl _) (.cells #[.int .i64 3, .string GB, .int .i64 0, .slice none 0 0, .slice none 0 0] 88)
  clear hg1 c0 c1 c2 c3 c4
  go_upto_region 2 with fail
  generalize w3.alloc (.cells #[.int .i64 3, .string GB, .int .i64 0, .slice none 0 0, .slice none 0 0] 88) = w4 at *
  have b14 := b2.trans ((b3.trans (hb4.mono b3.size)).mono b2.size)
  have hF4 := (b14.block _ (Array.getElem?_eq_some_iff.1 hF0).1).trans hF0
  have hB4 := hB0.trans (b14.mono hB0.size)
  have hWz := hB4.size
  have hG : ∀ V, Below w4.heap.size w4 V → V.heap[w3.heap.size]? = some (.cells #[.int .i64 3, .string GB, .int .i64 0, .slice none 0 0, .slice none 0 0] 88) := fun V hV => (hV.block _ (Array.getElem?_eq_some_iff.1 hG3).1).trans hG3
  have hF : ∀ V, Below w4.heap.size w4 V → V.heap[w.heap.size]? = some (.cells #[.int .i64 f.kind, .int .i64 f.f, .int .i64 f.g, .string (bs f.name), .slice fb f.body.len fbc] 31) := fun V hV => (hV.block _ (Array.getElem?_eq_some_iff.1 hF4).1).trans hF4
  clear hF0 hB0 b2 b3 hb4 b14 hG3
  obtain ⟨c0, c1, c2, c3, c4⟩ := (fn_facts hF4).1
  generalize w3.heap.size = G at *
  clear hF4
  by_cases h2 : f.kind = 2
  · have t2 : (f.kind == 2) = true := by simp [h2]
    have HT := hid (show textF f = [gl (glyphF f.f), gl gSlash] by unfold textF funT; rw [if_pos h2])
    clear h2
    go_upto_region 4 with fail
    have hsl := slA_inj (b := 12) (l := 2) (n := 3) (by decide)
    have hst : ∀ qq ∈ [isV (.agg #[.int .i64 3, .string GB, .int .i64 0, .slice none 0 0, .slice none 0 0]), isV (.agg #[.int .i64 3, .string ⟨#[47]⟩, .int .i64 0, .slice none 0 0, .slice none 0 0]), isR w.heap.size [gl (glyphF f.f), gl gSlash], isR w.heap.size [gl (glyphF f.f), gl gSlash]], Steady qq := steady_cons (steadyV _) (steady_cons (steadyV _) (steady_cons (steadyR _ _) (steady_cons (steadyR _ _) (steady_nil))))
    refine region_vals [12, 13, 14, 2] (by decide) _ (RP w4 3 (.slice none 0 0) (slA 12 2 3) [isV (.agg #[.int .i64 3, .string GB, .int .i64 0, .slice none 0 0, .slice none 0 0]), isV (.agg #[.int .i64 3, .string ⟨#[47]⟩, .int .i64 0, .slice none 0 0, .slice none 0 0]), isR w.heap.size [gl (glyphF f.f), gl gSlash], isR w.heap.size [gl (glyphF f.f), gl gSlash]]) (fun k => if k = 2 then .slice none 0 0 else undef) (by kernel_rfl) (by kernel_rfl) rfl (by kernel_rfl) (by kernel_rfl) (RP.start rfl) ?_ ?_
    · intro i hi d vs V A hfar hv hd hdep hJ
      have hi2 : i < 4 := hi
      have hgr := hJ.gr
      have hle : w.heap.size ≤ V.heap.size := Nat.le_trans hWz hgr.size
      have p3 : A.tmps[3]? = some (.pointer (some ⟨G, 0, none⟩)) := (hfar 3 (by decide)).trans rfl
      clear hfar hi
      rcases (by omega : i = 0 ∨ i = 1 ∨ i = 2 ∨ i = 3) with rfl | rfl | rfl | rfl
      · refine step_free rfl rfl (fun K' hK => ?_)
        clear hv hdep
        obtain ⟨c0, c1, c2, c3, c4⟩ := (fn_facts (hG V hgr)).1
        go_simp
        exact hK _ _ ⟨_, .inr ⟨12, _, by decide, rfl, rfl⟩, hJ.step hst hsl 0 _ rfl (fun h => absurd h (by decide)) (Below.refl _ _) _ (rfl)⟩
      · refine step_free rfl rfl (fun K' hK => ?_)
        clear hv hdep
        go_simp
        go_at_call 45
        refine (tglyph_any _ _).mono ?_
        rintro e W ⟨rfl, b⟩
        exact hK _ _ ⟨_, .inr ⟨13, _, by decide, rfl, rfl⟩, hJ.step hst hsl 1 _ rfl (fun h => absurd h (by decide)) b _ (rfl)⟩
      · have e0 : vs 12 = .agg #[.int .i64 3, .string GB, .int .i64 0, .slice none 0 0, .slice none 0 0] := hJ.val 0 _ rfl (hdep 0 (by decide))
        have a12 : A.tmps[12]? = some (vs 12) := hv 12 (by decide)
        rw [e0] at a12
        have e1 : vs 13 = .agg #[.int .i64 3, .string ⟨#[47]⟩, .int .i64 0, .slice none 0 0, .slice none 0 0] := hJ.val 1 _ rfl (hdep 1 (by decide))
        have a13 : A.tmps[13]? = some (vs 13) := hv 13 (by decide)
        rw [e1] at a13
        refine step_free rfl rfl (fun K' hK => ?_)
        clear hv hdep
        go_simp
        exact hK _ _ ⟨_, .inr ⟨14, _, by decide, rfl, rfl⟩, hJ.step hst hsl 2 _ rfl (fun h => absurd h (by decide)) ((Below.refl _ _).alloc (Nat.le_refl _) _) _ (Row.lit (us := [glC 3 GB, glC 3 ⟨#[47]⟩]) (T := [gl (glyphF f.f), gl gSlash]) (heap_alloc_new V _) hle ⟨ownG _ _, own_gl _ _ gSlash, trivial⟩ 2 rfl (by simp))⟩
      · have e2 : Row V w.heap.size (vs 14) [gl (glyphF f.f), gl gSlash] := hJ.val 2 _ rfl (hdep 2 (by decide))
        have a14 : A.tmps[14]? = some (vs 14) := hv 14 (by decide)
        have o0 := hdep 0 (by decide)
        refine step_free rfl rfl (fun K' hK => ?_)
        clear hv hdep
        go_simp
        exact hK _ _ ⟨_, .inr ⟨2, _, by decide, rfl, rfl⟩, hJ.step hst hsl 3 _ rfl (fun _ => .inl o0) (Below.refl _ _) _ (e2)⟩
    · intro d vs V hall hJ
      have h2 := hJ.val 3 _ rfl (hall 3 (show 3 < 4 by decide))
      have h2 : Row V w.heap.size (vs 2) _ := h2
      have hBV := hJ.gr
      clear hall hJ hst hsl
      simp only [puts, List.foldl_cons, List.foldl_nil, Act.put, List.setIfInBounds_toArray, List.set_cons_zero, List.set_cons_succ, Nat.reduceAdd]
      generalize vs 2 = r at *
      go_wp2_with fail
      go_ret
      exact Fin _ _ _ h2 HT.out.symm (hB4.trans (hBV.mono hB4.size))
  have t2 : (f.kind == 2) = false := by simpa using h2
  by_cases h3 : f.kind = 3
  · have t3 : (f.kind == 3) = true := by simp [h3]
    have HT := hid (show textF f = [gl (glyphF f.f), gl gBack] by unfold textF funT; rw [if_neg h2]; rw [if_pos h3])
    clear h2 h3
    go_upto_region 6 with fail
    have hsl := slA_inj (b := 17) (l := 2) (n := 3) (by decide)
    have hst : ∀ qq ∈ [isV (.agg #[.int .i64 3, .string GB, .int .i64 0, .slice none 0 0, .slice none 0 0]), isV (.agg #[.int .i64 3, .string ⟨#[92]⟩, .int .i64 0, .slice none 0 0, .slice none 0 0]), isR w.heap.size [gl (glyphF f.f), gl gBack], isR w.heap.size [gl (glyphF f.f), gl gBack]], Steady qq := steady_cons (steadyV _) (steady_cons (steadyV _) (steady_cons (steadyR _ _) (steady_cons (steadyR _ _) (steady_nil))))
    refine region_vals [17, 18, 19, 2] (by decide) _ (RP w4 3 (.slice none 0 0) (slA 17 2 3) [isV (.agg #[.int .i64 3, .string GB, .int .i64 0, .slice none 0 0, .slice none 0 0]), isV (.agg #[.int .i64 3, .string ⟨#[92]⟩, .int .i64 0, .slice none 0 0, .slice none 0 0]), isR w.heap.size [gl (glyphF f.f), gl gBack], isR w.heap.size [gl (glyphF f.f), gl gBack]]) (fun k => if k = 2 then .slice none 0 0 else undef) (by kernel_rfl) (by kernel_rfl) rfl (by kernel_rfl) (by kernel_rfl) (RP.start rfl) ?_ ?_
    · intro i hi d vs V A hfar hv hd hdep hJ
      have hi2 : i < 4 := hi
      have hgr := hJ.gr
      have hle : w.heap.size ≤ V.heap.size := Nat.le_trans hWz hgr.size
      have p3 : A.tmps[3]? = some (.pointer (some ⟨G, 0, none⟩)) := (hfar 3 (by decide)).trans rfl
      clear hfar hi
      rcases (by omega : i = 0 ∨ i = 1 ∨ i = 2 ∨ i = 3) with rfl | rfl | rfl | rfl
      · refine step_free rfl rfl (fun K' hK => ?_)
        clear hv hdep
        obtain ⟨c0, c1, c2, c3, c4⟩ := (fn_facts (hG V hgr)).1
        go_simp
        exact hK _ _ ⟨_, .inr ⟨17, _, by decide, rfl, rfl⟩, hJ.step hst hsl 0 _ rfl (fun h => absurd h (by decide)) (Below.refl _ _) _ (rfl)⟩
      · refine step_free rfl rfl (fun K' hK => ?_)
        clear hv hdep
        go_simp
        go_at_call 45
        refine (tglyph_any _ _).mono ?_
        rintro e W ⟨rfl, b⟩
        exact hK _ _ ⟨_, .inr ⟨18, _, by decide, rfl, rfl⟩, hJ.step hst hsl 1 _ rfl (fun h => absurd h (by decide)) b _ (rfl)⟩
      · have e0 : vs 17 = .agg #[.int .i64 3, .string GB, .int .i64 0, .slice none 0 0, .slice none 0 0] := hJ.val 0 _ rfl (hdep 0 (by decide))
        have a17 : A.tmps[17]? = some (vs 17) := hv 17 (by decide)
        rw [e0] at a17
        have e1 : vs 18 = .agg #[.int .i64 3, .string ⟨#[92]⟩, .int .i64 0, .slice none 0 0, .slice none 0 0] := hJ.val 1 _ rfl (hdep 1 (by decide))
        have a18 : A.tmps[18]? = some (vs 18) := hv 18 (by decide)
        rw [e1] at a18
        refine step_free rfl rfl (fun K' hK => ?_)
        clear hv hdep
        go_simp
        exact hK _ _ ⟨_, .inr ⟨19, _, by decide, rfl, rfl⟩, hJ.step hst hsl 2 _ rfl (fun h => absurd h (by decide)) ((Below.refl _ _).alloc (Nat.le_refl _) _) _ (Row.lit (us := [glC 3 GB, glC 3 ⟨#[92]⟩]) (T := [gl (glyphF f.f), gl gBack]) (heap_alloc_new V _) hle ⟨ownG _ _, own_gl _ _ gBack, trivial⟩ 2 rfl (by simp))⟩
      · have e2 : Row V w.heap.size (vs 19) [gl (glyphF f.f), gl gBack] := hJ.val 2 _ rfl (hdep 2 (by decide))
        have a19 : A.tmps[19]? = some (vs 19) := hv 19 (by decide)
        have o0 := hdep 0 (by decide)
        refine step_free rfl rfl (fun K' hK => ?_)
        clear hv hdep
        go_simp
        exact hK _ _ ⟨_, .inr ⟨2, _, by decide, rfl, rfl⟩, hJ.step hst hsl 3 _ rfl (fun _ => .inl o0) (Below.refl _ _) _ (e2)⟩
    · intro d vs V hall hJ
      have h2 := hJ.val 3 _ rfl (hall 3 (show 3 < 4 by decide))
      have h2 : Row V w.heap.size (vs 2) _ := h2
      have hBV := hJ.gr
      clear hall hJ hst hsl
      simp only [puts, List.foldl_cons, List.foldl_nil, Act.put, List.setIfInBounds_toArray, List.set_cons_zero, List.set_cons_succ, Nat.reduceAdd]
      generalize vs 2 = r at *
      go_wp2_with fail
      go_ret
      exact Fin _ _ _ h2 HT.out.symm (hB4.trans (hBV.mono hB4.size))
  have t3 : (f.kind == 3) = false := by simpa using h3
  by_cases h4 : f.kind = 4
  · have t4 : (f.kind == 4) = true := by simp [h4]
    have HT := hid (show textF f = [gl gJot, gl gDot, gl (glyphF f.f)] by unfold textF funT; rw [if_neg h2]; rw [if_neg h3]; rw [if_pos h4])
    clear h2 h3 h4
    go_upto_region 8 with fail
    have hsl := slA_inj (b := 22) (l := 2) (n := 4) (by decide)
    have hst : ∀ qq ∈ [isV (.agg #[.int .i64 3, .string ⟨#[226, 136, 152]⟩, .int .i64 0, .slice none 0 0, .slice none 0 0]), isV (.agg #[.int .i64 3, .string ⟨#[46]⟩, .int .i64 0, .slice none 0 0, .slice none 0 0]), isV (.agg #[.int .i64 3, .string GB, .int .i64 0, .slice none 0 0, .slice none 0 0]), isR w.heap.size [gl gJot, gl gDot, gl (glyphF f.f)], isR w.heap.size [gl gJot, gl gDot, gl (glyphF f.f)]], Steady qq := steady_cons (steadyV _) (steady_cons (steadyV _) (steady_cons (steadyV _) (steady_cons (steadyR _ _) (steady_cons (steadyR _ _) (steady_nil)))))
    refine region_vals [22, 23, 24, 25, 2] (by decide) _ (RP w4 4 (.slice none 0 0) (slA 22 2 4) [isV (.agg #[.int .i64 3, .string ⟨#[226, 136, 152]⟩, .int .i64 0, .slice none 0 0, .slice none 0 0]), isV (.agg #[.int .i64 3, .string ⟨#[46]⟩, .int .i64 0, .slice none 0 0, .slice none 0 0]), isV (.agg #[.int .i64 3, .string GB, .int .i64 0, .slice none 0 0, .slice none 0 0]), isR w.heap.size [gl gJot, gl gDot, gl (glyphF f.f)], isR w.heap.size [gl gJot, gl gDot, gl (glyphF f.f)]]) (fun k => if k = 2 then .slice none 0 0 else undef) (by kernel_rfl) (by kernel_rfl) rfl (by kernel_rfl) (by kernel_rfl) (RP.start rfl) ?_ ?_
    · intro i hi d vs V A hfar hv hd hdep hJ
      have hi2 : i < 5 := hi
      have hgr := hJ.gr
      have hle : w.heap.size ≤ V.heap.size := Nat.le_trans hWz hgr.size
      have p3 : A.tmps[3]? = some (.pointer (some ⟨G, 0, none⟩)) := (hfar 3 (by decide)).trans rfl
      clear hfar hi
      rcases (by omega : i = 0 ∨ i = 1 ∨ i = 2 ∨ i = 3 ∨ i = 4) with rfl | rfl | rfl | rfl | rfl
      · refine step_free rfl rfl (fun K' hK => ?_)
        clear hv hdep
        go_simp
        go_at_call 45
        refine (tglyph_any _ _).mono ?_
        rintro e W ⟨rfl, b⟩
        exact hK _ _ ⟨_, .inr ⟨22, _, by decide, rfl, rfl⟩, hJ.step hst hsl 0 _ rfl (fun h => absurd h (by decide)) b _ (rfl)⟩
      · refine step_free rfl rfl (fun K' hK => ?_)
        clear hv hdep
        go_simp
        go_at_call 45
        refine (tglyph_any _ _).mono ?_
        rintro e W ⟨rfl, b⟩
        exact hK _ _ ⟨_, .inr ⟨23, _, by decide, rfl, rfl⟩, hJ.step hst hsl 1 _ rfl (fun h => absurd h (by decide)) b _ (rfl)⟩
      · refine step_free rfl rfl (fun K' hK => ?_)
        clear hv hdep
        obtain ⟨c0, c1, c2, c3, c4⟩ := (fn_facts (hG V hgr)).1
        go_simp
        exact hK _ _ ⟨_, .inr ⟨24, _, by decide, rfl, rfl⟩, hJ.step hst hsl 2 _ rfl (fun h => absurd h (by decide)) (Below.refl _ _) _ (rfl)⟩
      · have e0 : vs 22 = .agg #[.int .i64 3, .string ⟨#[226, 136, 152]⟩, .int .i64 0, .slice none 0 0, .slice none 0 0] := hJ.val 0 _ rfl (hdep 0 (by decide))
        have a22 : A.tmps[22]? = some (vs 22) := hv 22 (by decide)
        rw [e0] at a22
        have e1 : vs 23 = .agg #[.int .i64 3, .string ⟨#[46]⟩, .int .i64 0, .slice none 0 0, .slice none 0 0] := hJ.val 1 _ rfl (hdep 1 (by decide))
        have a23 : A.tmps[23]? = some (vs 23) := hv 23 (by decide)
        rw [e1] at a23
        have e2 : vs 24 = .agg #[.int .i64 3, .string GB, .int .i64 0, .slice none 0 0, .slice none 0 0] := hJ.val 2 _ rfl (hdep 2 (by decide))
        have a24 : A.tmps[24]? = some (vs 24) := hv 24 (by decide)
        rw [e2] at a24
        refine step_free rfl rfl (fun K' hK => ?_)
        clear hv hdep
        go_simp
        exact hK _ _ ⟨_, .inr ⟨25, _, by decide, rfl, rfl⟩, hJ.step hst hsl 3 _ rfl (fun h => absurd h (by decide)) ((Below.refl _ _).alloc (Nat.le_refl _) _) _ (Row.lit (us := [glC 3 ⟨#[226, 136, 152]⟩, glC 3 ⟨#[46]⟩, glC 3 GB]) (T := [gl gJot, gl gDot, gl (glyphF f.f)]) (heap_alloc_new V _) hle ⟨own_gl _ _ gJot, own_gl _ _ gDot, ownG _ _, trivial⟩ 3 rfl (by simp))⟩
      · have e3 : Row V w.heap.size (vs 25) [gl gJot, gl gDot, gl (glyphF f.f)] := hJ.val 3 _ rfl (hdep 3 (by decide))
        have a25 : A.tmps[25]? = some (vs 25) := hv 25 (by decide)
        have o0 := hdep 0 (by decide)
        refine step_free rfl rfl (fun K' hK => ?_)
        clear hv hdep
        go_simp
        exact hK _ _ ⟨_, .inr ⟨2, _, by decide, rfl, rfl⟩, hJ.step hst hsl 4 _ rfl (fun _ => .inl o0) (Below.refl _ _) _ (e3)⟩
    · intro d vs V hall hJ
      have h2 := hJ.val 4 _ rfl (hall 4 (show 4 < 5 by decide))
      have h2 : Row V w.heap.size (vs 2) _ := h2
      have hBV := hJ.gr
      clear hall hJ hst hsl
      simp only [puts, List.foldl_cons, List.foldl_nil, Act.put, List.setIfInBounds_toArray, List.set_cons_zero, List.set_cons_succ, Nat.reduceAdd]
      generalize vs 2 = r at *
      go_wp2_with fail
      go_ret
      exact Fin _ _ _ h2 HT.out.symm (hB4.trans (hBV.mono hB4.size))
  have t4 : (f.kind == 4) = false := by simpa using h4
  by_cases h5 : f.kind = 5
  · have t5 : (f.kind == 5) = true := by simp [h5]
    have HT := hid (show textF f = [gl (glyphF f.f), gl gDot, gl (glyph12F f.g)] by unfold textF funT; rw [if_neg h2]; rw [if_neg h3]; rw [if_neg h4]; rw [if_pos h5])
    clear h2 h3 h4 h5
    obtain ⟨HB, hHB⟩ : ∃ g, bs (glyph12F f.g) = g := ⟨_, rfl⟩
    have ownH : ∀ V base, TokOwn V base (.agg (glC 3 HB).toArray) (gl (glyph12F f.g)) := fun V base => by rw [← hHB]; exact own_gl _ _ _
    have hgl := fun V (hV : Below w4.heap.size w4 V) => sglyph_any f.g V (hgy.below (hB4.trans (hV.mono hB4.size)))
    rw [hHB] at hgl
    clear hHB
    go_upto_region 10 with fail
    have hsl := slA_inj (b := 28) (l := 2) (n := 7) (by decide)
    have hst : ∀ qq ∈ [isV (.agg #[.int .i64 3, .string GB, .int .i64 0, .slice none 0 0, .slice none 0 0]), isV (.agg #[.int .i64 3, .string ⟨#[46]⟩, .int .i64 0, .slice none 0 0, .slice none 0 0]), isV (.pointer (some ⟨w.heap.size, 2, none⟩)), isV (.int .i64 f.g), isV (.string HB), isV (.agg #[.int .i64 3, .string HB, .int .i64 0, .slice none 0 0, .slice none 0 0]), isR w.heap.size [gl (glyphF f.f), gl gDot, gl (glyph12F f.g)], isR w.heap.size [gl (glyphF f.f), gl gDot, gl (glyph12F f.g)]], Steady qq := steady_cons (steadyV _) (steady_cons (steadyV _) (steady_cons (steadyV _) (steady_cons (steadyV _) (steady_cons (steadyV _) (steady_cons (steadyV _) (steady_cons (steadyR _ _) (steady_cons (steadyR _ _) (steady_nil))))))))
    refine region_vals [28, 29, 30, 31, 32, 33, 34, 2] (by decide) _ (RP w4 7 (.slice none 0 0) (slA 28 2 7) [isV (.agg #[.int .i64 3, .string GB, .int .i64 0, .slice none 0 0, .slice none 0 0]), isV (.agg #[.int .i64 3, .string ⟨#[46]⟩, .int .i64 0, .slice none 0 0, .slice none 0 0]), isV (.pointer (some ⟨w.heap.size, 2, none⟩)), isV (.int .i64 f.g), isV (.string HB), isV (.agg #[.int .i64 3, .string HB, .int .i64 0, .slice none 0 0, .slice none 0 0]), isR w.heap.size [gl (glyphF f.f), gl gDot, gl (glyph12F f.g)], isR w.heap.size [gl (glyphF f.f), gl gDot, gl (glyph12F f.g)]]) (fun k => if k = 2 then .slice none 0 0 else undef) (by kernel_rfl) (by kernel_rfl) rfl (by kernel_rfl) (by kernel_rfl) (RP.start rfl) ?_ ?_
    · intro i hi d vs V A hfar hv hd hdep hJ
      have hi2 : i < 8 := hi
      have hgr := hJ.gr
      have hle : w.heap.size ≤ V.heap.size := Nat.le_trans hWz hgr.size
      have p1 : A.tmps[1]? = some (.pointer (some ⟨w.heap.size, 0, none⟩)) := (hfar 1 (by decide)).trans rfl
      have p3 : A.tmps[3]? = some (.pointer (some ⟨G, 0, none⟩)) := (hfar 3 (by decide)).trans rfl
      clear hfar hi
      rcases (by omega : i = 0 ∨ i = 1 ∨ i = 2 ∨ i = 3 ∨ i = 4 ∨ i = 5 ∨ i = 6 ∨ i = 7) with rfl | rfl | rfl | rfl | rfl | rfl | rfl | rfl
      · refine step_free rfl rfl (fun K' hK => ?_)
        clear hv hdep
        obtain ⟨c0, c1, c2, c3, c4⟩ := (fn_facts (hG V hgr)).1
        go_simp
        exact hK _ _ ⟨_, .inr ⟨28, _, by decide, rfl, rfl⟩, hJ.step hst hsl 0 _ rfl (fun h => absurd h (by decide)) (Below.refl _ _) _ (rfl)⟩
      · refine step_free rfl rfl (fun K' hK => ?_)
        clear hv hdep
        go_simp
        go_at_call 45
        refine (tglyph_any _ _).mono ?_
        rintro e W ⟨rfl, b⟩
        exact hK _ _ ⟨_, .inr ⟨29, _, by decide, rfl, rfl⟩, hJ.step hst hsl 1 _ rfl (fun h => absurd h (by decide)) b _ (rfl)⟩
      · refine step_free rfl rfl (fun K' hK => ?_)
        clear hv hdep
        go_simp
        exact hK _ _ ⟨_, .inr ⟨30, _, by decide, rfl, rfl⟩, hJ.step hst hsl 2 _ rfl (fun h => absurd h (by decide)) (Below.refl _ _) _ (rfl)⟩
      · have e2 : vs 30 = .pointer (some ⟨w.heap.size, 2, none⟩) := hJ.val 2 _ rfl (hdep 2 (by decide))
        have a30 : A.tmps[30]? = some (vs 30) := hv 30 (by decide)
        rw [e2] at a30
        refine step_free rfl rfl (fun K' hK => ?_)
        clear hv hdep
        obtain ⟨d0, d1, d2, d3, d4⟩ := (fn_facts (hF V hgr)).1
        go_simp
        exact hK _ _ ⟨_, .inr ⟨31, _, by decide, rfl, rfl⟩, hJ.step hst hsl 3 _ rfl (fun h => absurd h (by decide)) (Below.refl _ _) _ (rfl)⟩
      · have e3 : vs 31 = .int .i64 f.g := hJ.val 3 _ rfl (hdep 3 (by decide))
        have a31 : A.tmps[31]? = some (vs 31) := hv 31 (by decide)
        rw [e3] at a31
        refine step_free rfl rfl (fun K' hK => ?_)
        clear hv hdep
        go_simp
        go_at_call 41
        refine (hgl _ hgr).mono ?_
        rintro e W ⟨rfl, b⟩
        exact hK _ _ ⟨_, .inr ⟨32, _, by decide, rfl, rfl⟩, hJ.step hst hsl 4 _ rfl (fun h => absurd h (by decide)) b _ (rfl)⟩
      · have e4 : vs 32 = .string HB := hJ.val 4 _ rfl (hdep 4 (by decide))
        have a32 : A.tmps[32]? = some (vs 32) := hv 32 (by decide)
        rw [e4] at a32
        refine step_free rfl rfl (fun K' hK => ?_)
        clear hv hdep
        go_simp
        go_at_call 45
        refine (tglyph_any _ _).mono ?_
        rintro e W ⟨rfl, b⟩
        exact hK _ _ ⟨_, .inr ⟨33, _, by decide, rfl, rfl⟩, hJ.step hst hsl 5 _ rfl (fun h => absurd h (by decide)) b _ (rfl)⟩
      · have e0 : vs 28 = .agg #[.int .i64 3, .string GB, .int .i64 0, .slice none 0 0, .slice none 0 0] := hJ.val 0 _ rfl (hdep 0 (by decide))
        have a28 : A.tmps[28]? = some (vs 28) := hv 28 (by decide)
        rw [e0] at a28
        have e1 : vs 29 = .agg #[.int .i64 3, .string ⟨#[46]⟩, .int .i64 0, .slice none 0 0, .slice none 0 0] := hJ.val 1 _ rfl (hdep 1 (by decide))
        have a29 : A.tmps[29]? = some (vs 29) := hv 29 (by decide)
        rw [e1] at a29
        have e5 : vs 33 = .agg #[.int .i64 3, .string HB, .int .i64 0, .slice none 0 0, .slice none 0 0] := hJ.val 5 _ rfl (hdep 5 (by decide))
        have a33 : A.tmps[33]? = some (vs 33) := hv 33 (by decide)
        rw [e5] at a33
        refine step_free rfl rfl (fun K' hK => ?_)
        clear hv hdep
        go_simp
        exact hK _ _ ⟨_, .inr ⟨34, _, by decide, rfl, rfl⟩, hJ.step hst hsl 6 _ rfl (fun h => absurd h (by decide)) ((Below.refl _ _).alloc (Nat.le_refl _) _) _ (Row.lit (us := [glC 3 GB, glC 3 ⟨#[46]⟩, glC 3 HB]) (T := [gl (glyphF f.f), gl gDot, gl (glyph12F f.g)]) (heap_alloc_new V _) hle ⟨ownG _ _, own_gl _ _ gDot, ownH _ _, trivial⟩ 3 rfl (by simp))⟩
      · have e6 : Row V w.heap.size (vs 34) [gl (glyphF f.f), gl gDot, gl (glyph12F f.g)] := hJ.val 6 _ rfl (hdep 6 (by decide))
        have a34 : A.tmps[34]? = some (vs 34) := hv 34 (by decide)
        have o0 := hdep 0 (by decide)
        refine step_free rfl rfl (fun K' hK => ?_)
        clear hv hdep
        go_simp
        exact hK _ _ ⟨_, .inr ⟨2, _, by decide, rfl, rfl⟩, hJ.step hst hsl 7 _ rfl (fun _ => .inl o0) (Below.refl _ _) _ (e6)⟩
    · intro d vs V hall hJ
      have h2 := hJ.val 7 _ rfl (hall 7 (show 7 < 8 by decide))
      have h2 : Row V w.heap.size (vs 2) _ := h2
      have hBV := hJ.gr
      clear hall hJ hst hsl
      simp only [puts, List.foldl_cons, List.foldl_nil, Act.put, List.setIfInBounds_toArray, List.set_cons_zero, List.set_cons_succ, Nat.reduceAdd]
      generalize vs 2 = r at *
      go_wp2_with fail
      go_ret
      exact Fin _ _ _ h2 HT.out.symm (hB4.trans (hBV.mono hB4.size))
  have t5 : (f.kind == 5) = false := by simpa using h5
  by_cases h6 : f.kind = 6
  · have t6 : (f.kind == 6) = true := by simp [h6]
    have HT := hid (show textF f = [nm f.name] by unfold textF funT; rw [if_neg h2]; rw [if_neg h3]; rw [if_neg h4]; rw [if_neg h5]; rw [if_pos h6])
    clear h2 h3 h4 h5 h6
    go_wp2_with fail
    refine (tnamed_any _ _).mono ?_
    rintro e w5 ⟨rfl, b5⟩
    have hN := heap_alloc_new w5 (.cells #[.int .i64 2, .string (bs f.name), .int .i64 0, .slice none 0 0, .slice none 0 0] 88)
    have hb := b5.alloc b5.size (.cells #[.int .i64 2, .string (bs f.name), .int .i64 0, .slice none 0 0, .slice none 0 0] 88)
    have hz5 := b5.size
    go_wp2_with fail
    go_ret
    exact Fin _ _ _ (Row.nm1 f.name hN (by omega)) HT.out.symm (hB4.trans (hb.mono hB4.size))
  have t6 : (f.kind == 6) = false := by simpa using h6
  by_cases h7 : f.kind = 7
  · have t7 : (f.kind == 7) = true := by simp [h7]
    have HT := hid (show textF f = encl (gl gLC) (gl gRC) (joinG gDia ((showT f.body).map Prod.fst)) by unfold textF funT; rw [if_neg h2]; rw [if_neg h3]; rw [if_neg h4]; rw [if_neg h5]; rw [if_neg h6]; rw [if_pos h7])
    clear h2 h3 h4 h5 h6 h7
    have hle : (joinG gDia ((showT f.body).map Prod.fst)).length + 2 ≤ 500000 := by rw [HT.out, encl_len] at hlen; exact hlen
    have hcall := hL f.body _ w4 hz hok hwf (j1.below hB4) (hgy.below hB4) (by omega)
    have Hc := hid hcall
    generalize joinG gDia ((showT f.body).map Prod.fst) = JT at *
    clear hcall
    go_wp2_with fail
    refine Hc.out.mono ?_
    rintro e w5 ⟨⟨v5, rfl, r5⟩, b5⟩
    have hz5 := b5.size
    have hB5 := hB4.trans (b5.mono hB4.size)
    have Hw := hid (pwithin_row w.heap.size gLC gRC ⟨#[123]⟩ ⟨#[125]⟩ rfl rfl v5 JT w5 (r5.mono hWz) (by omega) hB5.size)
    clear c0 c1 c2 c3 c4 Hc r5
    go_wp2_with fail
    refine Hw.out.mono ?_
    rintro e w6 ⟨⟨v6, rfl, r6⟩, b6⟩
    go_wp2_with fail
    go_ret
    exact Fin _ _ _ r6 HT.out.symm (hB5.trans (b6.mono hB5.size))
  have t7 : (f.kind == 7) = false := by simpa using h7
  by_cases h8 : f.kind = 8
  · have t8 : (f.kind == 8) = true := by simp [h8]
    have HT := hid (show textF f = [gl gDel] by unfold textF funT; rw [if_neg h2]; rw [if_neg h3]; rw [if_neg h4]; rw [if_neg h5]; rw [if_neg h6]; rw [if_neg h7]; rw [if_pos h8])
    clear h2 h3 h4 h5 h6 h7 h8
    go_wp2_with fail
    refine (tglyph_any _ _).mono ?_
    rintro e w5 ⟨rfl, b5⟩
    have hN := heap_alloc_new w5 (.cells #[.int .i64 3, .string ⟨#[226, 136, 135]⟩, .int .i64 0, .slice none 0 0, .slice none 0 0] 88)
    have hb := b5.alloc b5.size (.cells #[.int .i64 3, .string ⟨#[226, 136, 135]⟩, .int .i64 0, .slice none 0 0, .slice none 0 0] 88)
    have hz5 := b5.size
    go_wp2_with fail
    go_ret
    exact Fin _ _ _ (Row.gl1 gDel hN (by omega)) HT.out.symm (hB4.trans (hb.mono hB4.size))
  have t8 : (f.kind == 8) = false := by simpa using h8
  have HT := hid (show textF f = [gl (glyphF f.f)] by unfold textF funT; rw [if_neg h2, if_neg h3, if_neg h4, if_neg h5, if_neg h6, if_neg h7, if_neg h8])
  clear h2 h3 h4 h5 h6 h7 h8
  obtain ⟨g0, g1, g2, g3, g4⟩ := (fn_facts (hG w4 (Below.refl _ _))).1
  have hN := heap_alloc_new w4 (.cells #[.int .i64 3, .string GB, .int .i64 0, .slice none 0 0, .slice none 0 0] 88)
  have hb := (Below.refl _ w4).alloc (Nat.le_refl _) (.cells #[.int .i64 3, .string GB, .int .i64 0, .slice none 0 0, .slice none 0 0] 88)
  go_wp2_with fail
  go_ret
  exact Fin _ _ _ (Row.lit (us := [glC 3 GB]) (T := [gl (glyphF f.f)]) hN hWz ⟨ownG _ _, trivial⟩ 1 rfl (by simp)) HT.out.symm (hB4.trans (hb.mono hB4.size))
end Go.Proofs.YtijfnnjgcgmnaaaGreatDoor.Par
