/- parse: a tree's text: a function's lines. -/
import Derived.Test.YtijfnnjgcgmnaaaGreatDoorPShowF
import Derived.Deep.Cut
namespace Go.Proofs.YtijfnnjgcgmnaaaGreatDoor.Par
open Go.RowKit Go.Shelf
set_option linter.unusedVariables false
set_option linter.unusedSimpArgs false

def lnT1 (y : Ln) (t : List Tok) (r : List Tok) : List Tok := if y.kind = 3 then t ++ gl gColon :: r else if y.kind = 2 then nm y.name :: gl gGets :: t else t
theorem textL_of (y : Ln) (hoy : y.kids.ok true = true) (x0 : Ex) (h0 : (exsOf y.kids)[0]? = some x0) : textL y = lnT1 y (textE x0) (match (exsOf y.kids)[1]? with | some x1 => textE x1 | none => []) := by
  unfold textL lnT lnT1
  rw [show_exs y.kids hoy]
  unfold nth
  rw [List.getElem?_map, List.getElem?_map, h0]
  cases (exsOf y.kids)[1]? <;> rfl
theorem join_snoc (g : List UInt8) (t : List Tok) : ∀ ts : List (List Tok), joinG g (ts ++ [t]) = (if ts = [] then [] else joinG g ts ++ [gl g]) ++ t := by
  intro ts
  induction ts with
  | nil => rfl
  | cons a r ih =>
    cases r with
    | nil => show a ++ gl g :: t = _; rw [if_neg (by simp)]; show _ = (a ++ [gl g]) ++ t; simp
    | cons b r =>
      show a ++ gl g :: joinG g ((b :: r) ++ [t]) = _
      rw [ih, if_neg (by simp), if_neg (by simp)]
      show _ = (a ++ gl g :: joinG g (b :: r) ++ [gl g]) ++ t
      simp
theorem join_take (g : List UInt8) (ts : List (List Tok)) (k : Nat) : (joinG g (ts.take k)).length ≤ (joinG g ts).length := by
  by_cases h : ts.take k = []
  · rw [h]; exact Nat.zero_le _
  · have hne : ts ≠ [] := fun e => h (by rw [e]; simp)
    have h1 := join_len g _ h
    have h2 := join_len g _ hne
    have h3 : need (ts.take k) ≤ need ts := by
      conv => rhs; rw [← List.take_append_drop k ts]
      unfold need
      rw [List.map_append, List.sum_append]; omega
    omega
theorem rows4 {w : World} {base g : Nat} {a b c d : Value} {A B C D : List Tok} (h : w.heap[g]? = some (.cells #[a, b, c, d] 58)) (ha : Row w base a A) (hb : Row w base b B) (hc : Row w base c C) (hd : Row w base d D) : IsRowsT base [A, B, C, D] (.slice (some ⟨g, 0, none⟩) 4 4) w :=
  ⟨g, [a, b, c, d], rfl, h, rfl, fun k v T hk hT => by
    rcases k with _ | _ | _ | _ | k
    · injection hk with hk; injection hT with hT; subst hk hT; exact ha
    · injection hk with hk; injection hT with hT; subst hk hT; exact hb
    · injection hk with hk; injection hT with hT; subst hk hT; exact hc
    · injection hk with hk; injection hT with hT; subst hk hT; exact hd
    · cases hk⟩
theorem rows3 {w : World} {base g : Nat} {a b c : Value} {A B C : List Tok} (h : w.heap[g]? = some (.cells #[a, b, c] 58)) (ha : Row w base a A) (hb : Row w base b B) (hc : Row w base c C) : IsRowsT base [A, B, C] (.slice (some ⟨g, 0, none⟩) 3 3) w :=
  ⟨g, [a, b, c], rfl, h, rfl, fun k v T hk hT => by
    rcases k with _ | _ | _ | k
    · injection hk with hk; injection hT with hT; subst hk hT; exact ha
    · injection hk with hk; injection hT with hT; subst hk hT; exact hb
    · injection hk with hk; injection hT with hT; subst hk hT; exact hc
    · cases hk⟩
set_option maxRecDepth 100000 in
set_option maxHeartbeats 16000000 in
theorem tlines_step (kk : Nat) (hC : TextC kk) : LinesC18 kk := by
  intro t va w hz hok hwf hx hgy hlen
  rw [show_lns t hok] at hlen ⊢
  have hall := fun y (hy : y ∈ lnsOf t) => And.intro (lns_ok t hok y hy) (And.intro (wf_lns t hwf y hy) (Nat.le_trans (lns_sz t y hy) hz))
  obtain ⟨a, cap, rfl, h1, h2, h3, hc⟩ := hx
  rw [lns_len t hok] at *
  have hX : 0 < (lnsOf t).length → ∃ b o, a = some ⟨b, o, none⟩ ∧ ∀ V, Below w.heap.size w V → ∀ k y, (lnsOf t)[k]? = some y → ∃ vc, LnAt V b (o + k * 3) y.kind y.name vc ∧ IsTs V vc y.kids := fun h => by
    obtain ⟨b, o, e, hat⟩ := hc h
    exact ⟨b, o, e, fun V hV => at_ln V t b o (hat.soft (Soft.of_below hV) t b o)⟩
  generalize lnsOf t = X at *
  clear hc hok hwf hz
  go_enter Tryz.func47, Tryz.ntmps47
  go_wp2_with fail
  go_loopw [3, 8] (fun vo vi wr => ∃ k : Nat, k ≤ X.length ∧ vi = .int .i64 (k : Nat) ∧ Row wr w.heap.size vo (joinG gDia ((X.take k).map textL)) ∧ Below w.heap.size w wr) (fun _ vi _ => X.length - (intOf vi).toNat)
  case atStart => exact ⟨0, Nat.zero_le _, rfl, Row.nil _ _, Below.refl _ _⟩
  case round =>
    obtain ⟨k, hk, rfl, hrow, hB⟩ := hrel
    by_cases hlt : k < X.length
    · have hkX : X[k]? = some X[k] := List.getElem?_eq_getElem hlt
      have hTk : X.take (k + 1) = X.take k ++ [X[k]] := take_one X k _ hkX
      generalize X[k] = y at *
      obtain ⟨b, o, rfl, hX1⟩ := hX (by omega)
      obtain ⟨hoy, hwy, hzy⟩ := hall y (List.mem_of_getElem? hkX)
      obtain ⟨vc, ⟨g0, g1, g2⟩, ik⟩ := hX1 w (Below.refl _ _) k y hkX
      obtain ⟨kb, ko, kc, rfl, hkc, hkids⟩ := kid_at ik hoy hwy.2.1
      have c0 := (hB.cell (World.block_lt_of_cell? w _ g0)).trans g0
      have c1 := (hB.cell (World.block_lt_of_cell? w _ g1)).trans g1
      have c2 := (hB.cell (World.block_lt_of_cell? w _ g2)).trans g2
      clear g0 g1 g2
      have hel := exs_len y.kids hoy
      have hn1 : 0 < (exsOf y.kids).length := by have := hwy.2.1; omega
      obtain ⟨x0, hx0⟩ : ∃ x0, (exsOf y.kids)[0]? = some x0 := ⟨_, List.getElem?_eq_getElem hn1⟩
      have hkid1 : y.kind = 3 → ∃ x1, (exsOf y.kids)[1]? = some x1 := fun h => ⟨_, List.getElem?_eq_getElem (by have := hwy.2.2 h; omega)⟩
      have hfacts : ∀ x ∈ exsOf y.kids, x.ok = true ∧ WfE x ∧ x.sz ≤ kk := fun x hx => ⟨exs_ok _ hoy x hx, wf_exs _ hwy.1 x hx, by have := exs_sz y.kids x hx; omega⟩
      clear hel
      obtain ⟨hox0, hwx0, hzx0⟩ := hfacts x0 (List.mem_of_getElem? hx0)
      obtain ⟨xa, xc, xe, xec, xb, xbc, xk, xkc, hk0, ix0⟩ := hkids 0 x0 hx0
      rw [Nat.zero_mul, Nat.add_zero] at hk0
      have hki : (k : Int) < (X.length : Int) := by omega
      have hwl := hwy.2.1
      have hn1i : (0 : Int) < (y.kids.len : Int) := by omega
      have hn1' : 0 < y.kids.len := by omega
      clear hwl
      have hL1 := heap_alloc_new wr (.cells #[.int .i64 y.kind, .string (bs y.name), .slice (some ⟨kb, ko, none⟩) y.kids.len kc] 50)
      have b1 := (Below.refl _ wr).alloc (Nat.le_refl _) (.cells #[.int .i64 y.kind, .string (bs y.name), .slice (some ⟨kb, ko, none⟩) y.kids.len kc] 50)
      have hjl := join_take gDia (X.map textL) (k + 1)
      rw [← List.map_take, hTk, List.map_append, List.map_cons, List.map_nil, join_snoc] at hjl
      have HTk := hid hTk
      clear hX hX1 hall hkX ik hTk
      go_upto_region 5 with fail
      generalize wr.alloc (.cells #[.int .i64 y.kind, .string (bs y.name), .slice (some ⟨kb, ko, none⟩) y.kids.len kc] 50) = w1 at *
      clear c0 c1 c2
      obtain ⟨TK, hTKe⟩ : ∃ T, joinG gDia ((X.take k).map textL) = T := ⟨_, rfl⟩
      rw [hTKe] at hrow hjl
      have HW : Hid (joinG gDia ((X.take (k + 1)).map textL) = (if (X.take k).map textL = [] then [] else TK ++ [gl gDia]) ++ textL y) := hid (by rw [HTk.out, List.map_append, List.map_cons, List.map_nil, join_snoc, hTKe])
      have hTK0 : k = 0 → TK = [] := fun h => by subst h; rw [← hTKe]; rfl
      have hne : 0 < k → (X.take k).map textL ≠ [] := fun h e => by
        have := congrArg List.length e
        rw [List.length_map, List.length_take] at this
        simp only [List.length_nil] at this; omega
      clear HTk hTKe
      by_cases hk00 : k = 0
      · have hT0 := hTK0 hk00
        have hk0i : ¬ (0 : Int) < (k : Int) := by omega
        have hcond : (X.take k).map textL = [] := by rw [hk00]; rfl
        rw [if_pos hcond] at hjl
        have HT0 : Hid (TK ++ textL y = joinG gDia ((X.take (k + 1)).map textL)) := hid (by rw [HW.out, if_pos hcond, hT0])
        have hlenT : TK.length + (textL y).length ≤ 500000 := by rw [hT0]; simp only [List.length_append, List.length_nil] at hjl ⊢; omega
        have r0 := hrow.below b1
        have hB2 := hB.trans (b1.mono hB.size)
        have hL2 := hL1
        clear hTK0 hne hT0 hrow hL1 b1 hjl HW hcond hk00
        go_upto_region 7 with fail
        generalize w1 = w2 at *
        generalize u3 = v2 at *
        generalize TK = T0 at *
        have hWz := hB2.size
        have hLn : ∀ V, Below w2.heap.size w2 V → V.heap[wr.heap.size]? = some (.cells #[.int .i64 y.kind, .string (bs y.name), .slice (some ⟨kb, ko, none⟩) y.kids.len kc] 50) := fun V hV => (hV.block _ (Array.getElem?_eq_some_iff.1 hL2).1).trans hL2
        have hKid : ∀ V, Below w2.heap.size w2 V → ExAt V kb ko x0.kind x0.name x0.val.kind (.slice xa x0.val.shape.length xc) (.slice xe x0.val.elems.length xec) x0.fn.kind x0.fn.f x0.fn.g x0.fn.name (.slice xb x0.fn.body.len xbc) (.slice xk x0.kids.len xkc) := fun V hV => hk0.below (hB2.trans (hV.mono hB2.size))
        have hIE : ∀ V, Below w2.heap.size w2 V → IsE V (.agg #[.int .i64 x0.kind, .string (bs x0.name), .int .i64 x0.val.kind, .slice xa x0.val.shape.length xc, .slice xe x0.val.elems.length xec, .int .i64 x0.fn.kind, .int .i64 x0.fn.f, .int .i64 x0.fn.g, .string (bs x0.fn.name), .slice xb x0.fn.body.len xbc, .slice xk x0.kids.len xkc]) x0 := fun V hV => ix0.below (hB2.trans (hV.mono hB2.size))
        have hGy : ∀ V, Below w2.heap.size w2 V → Gly V := fun V hV => hgy.below (hB2.trans (hV.mono hB2.size))
        generalize wr.heap.size = LB at *
        clear hk0 ix0 hL2
        obtain ⟨c0, c1, c2⟩ := (ln_facts (hLn w2 (Below.refl _ _))).1
        by_cases h3 : y.kind = 3
        · have t3 : (y.kind == 3) = true := by simp [h3]
          obtain ⟨x1, hx1⟩ := hkid1 h3
          obtain ⟨hox1, hwx1, hzx1⟩ := hfacts x1 (List.mem_of_getElem? hx1)
          obtain ⟨ya, yc, ye, yec, yb, ybc, yk, ykc, hk1, ix1⟩ := hkids 1 x1 hx1
          rw [Nat.one_mul] at hk1
          have hKid1 : ∀ V, Below w2.heap.size w2 V → ExAt V kb (ko + 11) x1.kind x1.name x1.val.kind (.slice ya x1.val.shape.length yc) (.slice ye x1.val.elems.length yec) x1.fn.kind x1.fn.f x1.fn.g x1.fn.name (.slice yb x1.fn.body.len ybc) (.slice yk x1.kids.len ykc) := fun V hV => hk1.below (hB2.trans (hV.mono hB2.size))
          have hIE1 : ∀ V, Below w2.heap.size w2 V → IsE V (.agg #[.int .i64 x1.kind, .string (bs x1.name), .int .i64 x1.val.kind, .slice ya x1.val.shape.length yc, .slice ye x1.val.elems.length yec, .int .i64 x1.fn.kind, .int .i64 x1.fn.f, .int .i64 x1.fn.g, .string (bs x1.fn.name), .slice yb x1.fn.body.len ybc, .slice yk x1.kids.len ykc]) x1 := fun V hV => ix1.below (hB2.trans (hV.mono hB2.size))
          have htx : textL y = textE x0 ++ gl gColon :: textE x1 := by rw [textL_of y hoy x0 hx0]; unfold lnT1; rw [if_pos h3, hx1]
          have Htx := hid htx
          have hlen3 : T0.length + ((textE x0).length + (1 + (textE x1).length)) ≤ 500000 := by have := hlenT; rw [htx] at this; simp only [List.length_append, List.length_cons] at this; omega
          have hn2 : (1 : Int) < (y.kids.len : Int) := by have := hwy.2.2 h3; omega
          have hn2' : 1 < y.kids.len := by have := hwy.2.2 h3; omega
          have ct0 := fun V (hV : Below w2.heap.size w2 V) => hC x0 (.agg #[.int .i64 x0.kind, .string (bs x0.name), .int .i64 x0.val.kind, .slice xa x0.val.shape.length xc, .slice xe x0.val.elems.length xec, .int .i64 x0.fn.kind, .int .i64 x0.fn.f, .int .i64 x0.fn.g, .string (bs x0.fn.name), .slice xb x0.fn.body.len xbc, .slice xk x0.kids.len xkc]) V hzx0 hox0 hwx0 (hIE V hV) (hGy V hV) (by omega)
          have ct1 := fun V (hV : Below w2.heap.size w2 V) => hC x1 (.agg #[.int .i64 x1.kind, .string (bs x1.name), .int .i64 x1.val.kind, .slice ya x1.val.shape.length yc, .slice ye x1.val.elems.length yec, .int .i64 x1.fn.kind, .int .i64 x1.fn.f, .int .i64 x1.fn.g, .string (bs x1.fn.name), .slice yb x1.fn.body.len ybc, .slice yk x1.kids.len ykc]) V hzx1 hox1 hwx1 (hIE1 V hV) (hGy V hV) (by omega)
          have HTE : Hid ([T0, textE x0, [gl gColon], textE x1].flatten = joinG gDia ((X.take (k + 1)).map textL)) := hid (by rw [← HT0.out, htx]; simp)
          generalize textE x0 = E0 at *
          generalize textE x1 = E1 at *
          clear h3 hkids hkid1 hfacts htx Htx hIE hIE1 hk1 ix1 hlenT HT0 hx1
          go_upto_region 10 with fail
          have hsl := slA_inj (b := 30) (l := 3) (n := 15) (by decide)
          have hst : ∀ qq ∈ [isR w.heap.size T0, isV (.pointer (some ⟨LB, 2, none⟩)), isV (.slice (some ⟨kb, ko, none⟩) y.kids.len kc), isV (.pointer (some ⟨kb, ko, none⟩)), isV (.agg #[.int .i64 x0.kind, .string (bs x0.name), .int .i64 x0.val.kind, .slice xa x0.val.shape.length xc, .slice xe x0.val.elems.length xec, .int .i64 x0.fn.kind, .int .i64 x0.fn.f, .int .i64 x0.fn.g, .string (bs x0.fn.name), .slice xb x0.fn.body.len xbc, .slice xk x0.kids.len xkc]), isR w.heap.size E0, isV (.agg #[.int .i64 3, .string ⟨#[58]⟩, .int .i64 0, .slice none 0 0, .slice none 0 0]), isR w.heap.size [gl gColon], isV (.pointer (some ⟨LB, 2, none⟩)), isV (.slice (some ⟨kb, ko, none⟩) y.kids.len kc), isV (.pointer (some ⟨kb, ko + 11, none⟩)), isV (.agg #[.int .i64 x1.kind, .string (bs x1.name), .int .i64 x1.val.kind, .slice ya x1.val.shape.length yc, .slice ye x1.val.elems.length yec, .int .i64 x1.fn.kind, .int .i64 x1.fn.f, .int .i64 x1.fn.g, .string (bs x1.fn.name), .slice yb x1.fn.body.len ybc, .slice yk x1.kids.len ykc]), isR w.heap.size E1, isRs w.heap.size [T0, E0, [gl gColon], E1], isR w.heap.size [T0, E0, [gl gColon], E1].flatten, isR w.heap.size [T0, E0, [gl gColon], E1].flatten], Steady qq := steady_cons (steadyR _ _) (steady_cons (steadyV _) (steady_cons (steadyV _) (steady_cons (steadyV _) (steady_cons (steadyV _) (steady_cons (steadyR _ _) (steady_cons (steadyV _) (steady_cons (steadyR _ _) (steady_cons (steadyV _) (steady_cons (steadyV _) (steady_cons (steadyV _) (steady_cons (steadyV _) (steady_cons (steadyR _ _) (steady_cons (steadyRs _ _) (steady_cons (steadyR _ _) (steady_cons (steadyR _ _) (steady_nil))))))))))))))))
          refine region_vals [30, 31, 32, 33, 34, 35, 36, 37, 38, 39, 40, 41, 42, 43, 44, 3] (by decide) _ (RP w2 15 (v2) (slA 30 3 15) [isR w.heap.size T0, isV (.pointer (some ⟨LB, 2, none⟩)), isV (.slice (some ⟨kb, ko, none⟩) y.kids.len kc), isV (.pointer (some ⟨kb, ko, none⟩)), isV (.agg #[.int .i64 x0.kind, .string (bs x0.name), .int .i64 x0.val.kind, .slice xa x0.val.shape.length xc, .slice xe x0.val.elems.length xec, .int .i64 x0.fn.kind, .int .i64 x0.fn.f, .int .i64 x0.fn.g, .string (bs x0.fn.name), .slice xb x0.fn.body.len xbc, .slice xk x0.kids.len xkc]), isR w.heap.size E0, isV (.agg #[.int .i64 3, .string ⟨#[58]⟩, .int .i64 0, .slice none 0 0, .slice none 0 0]), isR w.heap.size [gl gColon], isV (.pointer (some ⟨LB, 2, none⟩)), isV (.slice (some ⟨kb, ko, none⟩) y.kids.len kc), isV (.pointer (some ⟨kb, ko + 11, none⟩)), isV (.agg #[.int .i64 x1.kind, .string (bs x1.name), .int .i64 x1.val.kind, .slice ya x1.val.shape.length yc, .slice ye x1.val.elems.length yec, .int .i64 x1.fn.kind, .int .i64 x1.fn.f, .int .i64 x1.fn.g, .string (bs x1.fn.name), .slice yb x1.fn.body.len ybc, .slice yk x1.kids.len ykc]), isR w.heap.size E1, isRs w.heap.size [T0, E0, [gl gColon], E1], isR w.heap.size [T0, E0, [gl gColon], E1].flatten, isR w.heap.size [T0, E0, [gl gColon], E1].flatten]) (fun k => if k = 3 then v2 else if k = 30 then u30 else if k = 31 then u31 else if k = 32 then u32 else if k = 33 then u33 else if k = 34 then u34 else if k = 35 then u35 else if k = 36 then u36 else if k = 37 then u37 else if k = 38 then u38 else if k = 39 then u39 else if k = 40 then u40 else if k = 41 then u41 else if k = 42 then u42 else if k = 43 then u43 else if k = 44 then u44 else undef) (by kernel_rfl) (by kernel_rfl) rfl (by kernel_rfl) (by kernel_rfl) (RP.start rfl) ?_ ?_
          · intro i hi d vs V A hfar hv hd hdep hJ
            have hi2 : i < 16 := hi
            have hgr := hJ.gr
            have hle : w.heap.size ≤ V.heap.size := Nat.le_trans hWz hgr.size
            have p5 : A.tmps[5]? = some (.pointer (some ⟨LB, 0, none⟩)) := (hfar 5 (by decide)).trans rfl
            clear hfar hi
            rcases (by omega : i = 0 ∨ i = 1 ∨ i = 2 ∨ i = 3 ∨ i = 4 ∨ i = 5 ∨ i = 6 ∨ i = 7 ∨ i = 8 ∨ i = 9 ∨ i = 10 ∨ i = 11 ∨ i = 12 ∨ i = 13 ∨ i = 14 ∨ i = 15) with rfl | rfl | rfl | rfl | rfl | rfl | rfl | rfl | rfl | rfl | rfl | rfl | rfl | rfl | rfl | rfl
            · have z0 : vs 3 = v2 := hJ.first hd
              have a3 : A.tmps[3]? = some (vs 3) := hv 3 (by decide)
              rw [z0] at a3
              refine step_free rfl rfl (fun K' hK => ?_)
              clear hv hdep
              go_simp
              exact hK _ _ ⟨_, .inr ⟨30, _, by decide, rfl, rfl⟩, hJ.step hst hsl 0 _ rfl (fun h => absurd h (by decide)) (Below.refl _ _) _ (r0.below hgr)⟩
            · refine step_free rfl rfl (fun K' hK => ?_)
              clear hv hdep
              go_simp
              exact hK _ _ ⟨_, .inr ⟨31, _, by decide, rfl, rfl⟩, hJ.step hst hsl 1 _ rfl (fun h => absurd h (by decide)) (Below.refl _ _) _ (rfl)⟩
            · have e1 : vs 31 = .pointer (some ⟨LB, 2, none⟩) := hJ.val 1 _ rfl (hdep 1 (by decide))
              have a31 : A.tmps[31]? = some (vs 31) := hv 31 (by decide)
              rw [e1] at a31
              refine step_free rfl rfl (fun K' hK => ?_)
              clear hv hdep
              obtain ⟨d0, d1, d2⟩ := (ln_facts (hLn V hgr)).1
              go_simp
              exact hK _ _ ⟨_, .inr ⟨32, _, by decide, rfl, rfl⟩, hJ.step hst hsl 2 _ rfl (fun h => absurd h (by decide)) (Below.refl _ _) _ (rfl)⟩
            · have e2 : vs 32 = .slice (some ⟨kb, ko, none⟩) y.kids.len kc := hJ.val 2 _ rfl (hdep 2 (by decide))
              have a32 : A.tmps[32]? = some (vs 32) := hv 32 (by decide)
              rw [e2] at a32
              refine step_free rfl rfl (fun K' hK => ?_)
              clear hv hdep
              go_simp
              exact hK _ _ ⟨_, .inr ⟨33, _, by decide, rfl, rfl⟩, hJ.step hst hsl 3 _ rfl (fun h => absurd h (by decide)) (Below.refl _ _) _ (rfl)⟩
            · have e3 : vs 33 = .pointer (some ⟨kb, ko, none⟩) := hJ.val 3 _ rfl (hdep 3 (by decide))
              have a33 : A.tmps[33]? = some (vs 33) := hv 33 (by decide)
              rw [e3] at a33
              refine step_free rfl rfl (fun K' hK => ?_)
              clear hv hdep
              obtain ⟨d0, d1, d2, d3, d4, d5, d6, d7, d8, d9, d10⟩ := hKid V hgr
              go_simp
              exact hK _ _ ⟨_, .inr ⟨34, _, by decide, rfl, rfl⟩, hJ.step hst hsl 4 _ rfl (fun h => absurd h (by decide)) (Below.refl _ _) _ (rfl)⟩
            · have e4 : vs 34 = .agg #[.int .i64 x0.kind, .string (bs x0.name), .int .i64 x0.val.kind, .slice xa x0.val.shape.length xc, .slice xe x0.val.elems.length xec, .int .i64 x0.fn.kind, .int .i64 x0.fn.f, .int .i64 x0.fn.g, .string (bs x0.fn.name), .slice xb x0.fn.body.len xbc, .slice xk x0.kids.len xkc] := hJ.val 4 _ rfl (hdep 4 (by decide))
              have a34 : A.tmps[34]? = some (vs 34) := hv 34 (by decide)
              rw [e4] at a34
              refine step_free rfl rfl (fun K' hK => ?_)
              clear hv hdep
              go_simp
              go_at_call 48
              refine (ct0 V hgr).mono ?_
              rintro e W ⟨⟨u, rfl, ru⟩, b⟩
              exact hK _ _ ⟨_, .inr ⟨35, _, by decide, rfl, rfl⟩, hJ.step hst hsl 5 _ rfl (fun h => absurd h (by decide)) b _ (ru.mono hle)⟩
            · refine step_free rfl rfl (fun K' hK => ?_)
              clear hv hdep
              go_simp
              go_at_call 45
              refine (tglyph_any _ _).mono ?_
              rintro e W ⟨rfl, b⟩
              exact hK _ _ ⟨_, .inr ⟨36, _, by decide, rfl, rfl⟩, hJ.step hst hsl 6 _ rfl (fun h => absurd h (by decide)) b _ (rfl)⟩
            · have e6 : vs 36 = .agg #[.int .i64 3, .string ⟨#[58]⟩, .int .i64 0, .slice none 0 0, .slice none 0 0] := hJ.val 6 _ rfl (hdep 6 (by decide))
              have a36 : A.tmps[36]? = some (vs 36) := hv 36 (by decide)
              rw [e6] at a36
              refine step_free rfl rfl (fun K' hK => ?_)
              clear hv hdep
              go_simp
              exact hK _ _ ⟨_, .inr ⟨37, _, by decide, rfl, rfl⟩, hJ.step hst hsl 7 _ rfl (fun h => absurd h (by decide)) ((Below.refl _ _).alloc (Nat.le_refl _) _) _ (Row.gl1 gColon (heap_alloc_new V _) hle)⟩
            · refine step_free rfl rfl (fun K' hK => ?_)
              clear hv hdep
              go_simp
              exact hK _ _ ⟨_, .inr ⟨38, _, by decide, rfl, rfl⟩, hJ.step hst hsl 8 _ rfl (fun h => absurd h (by decide)) (Below.refl _ _) _ (rfl)⟩
            · have e8 : vs 38 = .pointer (some ⟨LB, 2, none⟩) := hJ.val 8 _ rfl (hdep 8 (by decide))
              have a38 : A.tmps[38]? = some (vs 38) := hv 38 (by decide)
              rw [e8] at a38
              refine step_free rfl rfl (fun K' hK => ?_)
              clear hv hdep
              obtain ⟨d0, d1, d2⟩ := (ln_facts (hLn V hgr)).1
              go_simp
              exact hK _ _ ⟨_, .inr ⟨39, _, by decide, rfl, rfl⟩, hJ.step hst hsl 9 _ rfl (fun h => absurd h (by decide)) (Below.refl _ _) _ (rfl)⟩
            · have e9 : vs 39 = .slice (some ⟨kb, ko, none⟩) y.kids.len kc := hJ.val 9 _ rfl (hdep 9 (by decide))
              have a39 : A.tmps[39]? = some (vs 39) := hv 39 (by decide)
              rw [e9] at a39
              refine step_free rfl rfl (fun K' hK => ?_)
              clear hv hdep
              go_simp
              exact hK _ _ ⟨_, .inr ⟨40, _, by decide, rfl, rfl⟩, hJ.step hst hsl 10 _ rfl (fun h => absurd h (by decide)) (Below.refl _ _) _ (rfl)⟩
            · have e10 : vs 40 = .pointer (some ⟨kb, ko + 11, none⟩) := hJ.val 10 _ rfl (hdep 10 (by decide))
              have a40 : A.tmps[40]? = some (vs 40) := hv 40 (by decide)
              rw [e10] at a40
              refine step_free rfl rfl (fun K' hK => ?_)
              clear hv hdep
              obtain ⟨d0, d1, d2, d3, d4, d5, d6, d7, d8, d9, d10⟩ := hKid1 V hgr
              go_simp
              exact hK _ _ ⟨_, .inr ⟨41, _, by decide, rfl, rfl⟩, hJ.step hst hsl 11 _ rfl (fun h => absurd h (by decide)) (Below.refl _ _) _ (rfl)⟩
            · have e11 : vs 41 = .agg #[.int .i64 x1.kind, .string (bs x1.name), .int .i64 x1.val.kind, .slice ya x1.val.shape.length yc, .slice ye x1.val.elems.length yec, .int .i64 x1.fn.kind, .int .i64 x1.fn.f, .int .i64 x1.fn.g, .string (bs x1.fn.name), .slice yb x1.fn.body.len ybc, .slice yk x1.kids.len ykc] := hJ.val 11 _ rfl (hdep 11 (by decide))
              have a41 : A.tmps[41]? = some (vs 41) := hv 41 (by decide)
              rw [e11] at a41
              refine step_free rfl rfl (fun K' hK => ?_)
              clear hv hdep
              go_simp
              go_at_call 48
              refine (ct1 V hgr).mono ?_
              rintro e W ⟨⟨u, rfl, ru⟩, b⟩
              exact hK _ _ ⟨_, .inr ⟨42, _, by decide, rfl, rfl⟩, hJ.step hst hsl 12 _ rfl (fun h => absurd h (by decide)) b _ (ru.mono hle)⟩
            · have e0 : Row V w.heap.size (vs 30) T0 := hJ.val 0 _ rfl (hdep 0 (by decide))
              have a30 : A.tmps[30]? = some (vs 30) := hv 30 (by decide)
              obtain ⟨s30a, s30c, q30⟩ := Row.slice e0
              rw [q30] at a30 e0
              have e5 : Row V w.heap.size (vs 35) E0 := hJ.val 5 _ rfl (hdep 5 (by decide))
              have a35 : A.tmps[35]? = some (vs 35) := hv 35 (by decide)
              obtain ⟨s35a, s35c, q35⟩ := Row.slice e5
              rw [q35] at a35 e5
              have e7 : Row V w.heap.size (vs 37) [gl gColon] := hJ.val 7 _ rfl (hdep 7 (by decide))
              have a37 : A.tmps[37]? = some (vs 37) := hv 37 (by decide)
              obtain ⟨s37a, s37c, q37⟩ := Row.slice e7
              rw [q37] at a37 e7
              have e12 : Row V w.heap.size (vs 42) E1 := hJ.val 12 _ rfl (hdep 12 (by decide))
              have a42 : A.tmps[42]? = some (vs 42) := hv 42 (by decide)
              obtain ⟨s42a, s42c, q42⟩ := Row.slice e12
              rw [q42] at a42 e12
              refine step_free rfl rfl (fun K' hK => ?_)
              clear hv hdep
              go_simp
              exact hK _ _ ⟨_, .inr ⟨43, _, by decide, rfl, rfl⟩, hJ.step hst hsl 13 _ rfl (fun h => absurd h (by decide)) ((Below.refl _ _).alloc (Nat.le_refl _) _) _ (rows4 (heap_alloc_new V _) (Row.below e0 ((Below.refl _ _).alloc (Nat.le_refl _) _)) (Row.below e5 ((Below.refl _ _).alloc (Nat.le_refl _) _)) (Row.below e7 ((Below.refl _ _).alloc (Nat.le_refl _) _)) (Row.below e12 ((Below.refl _ _).alloc (Nat.le_refl _) _)))⟩
            · have e13 : IsRowsT w.heap.size [T0, E0, [gl gColon], E1] (vs 43) V := hJ.val 13 _ rfl (hdep 13 (by decide))
              have a43 : A.tmps[43]? = some (vs 43) := hv 43 (by decide)
              have Hcc := hid (tconcat_row _ _ _ V e13 (by simp only [List.flatten_cons, List.flatten_nil, List.append_nil, List.length_append, List.length_cons, List.length_nil]; omega) (by simp) hle)
              refine step_free rfl rfl (fun K' hK => ?_)
              clear hv hdep
              go_simp
              go_at_call 70
              refine Hcc.out.mono ?_
              rintro e W ⟨⟨u, rfl, ru⟩, b⟩
              exact hK _ _ ⟨_, .inr ⟨44, _, by decide, rfl, rfl⟩, hJ.step hst hsl 14 _ rfl (fun h => absurd h (by decide)) b _ (ru)⟩
            · have e14 : Row V w.heap.size (vs 44) _ := hJ.val 14 _ rfl (hdep 14 (by decide))
              have a44 : A.tmps[44]? = some (vs 44) := hv 44 (by decide)
              have o0 := hdep 0 (by decide)
              refine step_free rfl rfl (fun K' hK => ?_)
              clear hv hdep
              go_simp
              exact hK _ _ ⟨_, .inr ⟨3, _, by decide, rfl, rfl⟩, hJ.step hst hsl 15 _ rfl (fun _ => .inl o0) (Below.refl _ _) _ (e14)⟩
          · intro d vs V hall hJ
            have h2 := hJ.val 15 _ rfl (hall 15 (show 15 < 16 by decide))
            have h2 : Row V w.heap.size (vs 3) _ := h2
            have hBV := hJ.gr
            clear hall hJ hst hsl
            simp only [puts, List.foldl_cons, List.foldl_nil, Act.put, List.setIfInBounds_toArray, List.set_cons_zero, List.set_cons_succ, Nat.reduceAdd]
            generalize vs 3 = r at *
            go_wp2_with fail
            go_roundw
            case rel => exact ⟨k + 1, by omega, by go_num, by rw [← HTE.out]; exact h2, hB2.trans (hBV.mono hB2.size)⟩
            case measure => simp [intOf]; omega
        · have t3 : (y.kind == 3) = false := by simpa using h3
          by_cases h2 : y.kind = 2
          · have t2 : (y.kind == 2) = true := by simp [h2]
            have htx : textL y = nm y.name :: gl gGets :: textE x0 := by rw [textL_of y hoy x0 hx0]; unfold lnT1; rw [if_neg h3, if_pos h2]
            have hlen3 : T0.length + (2 + (textE x0).length) ≤ 500000 := by have := hlenT; rw [htx] at this; simp only [List.length_append, List.length_cons] at this; omega
            have ct0 := fun V (hV : Below w2.heap.size w2 V) => hC x0 (.agg #[.int .i64 x0.kind, .string (bs x0.name), .int .i64 x0.val.kind, .slice xa x0.val.shape.length xc, .slice xe x0.val.elems.length xec, .int .i64 x0.fn.kind, .int .i64 x0.fn.f, .int .i64 x0.fn.g, .string (bs x0.fn.name), .slice xb x0.fn.body.len xbc, .slice xk x0.kids.len xkc]) V hzx0 hox0 hwx0 (hIE V hV) (hGy V hV) (by omega)
            have HTE : Hid ([T0, [nm y.name, gl gGets], textE x0].flatten = joinG gDia ((X.take (k + 1)).map textL)) := hid (by rw [← HT0.out, htx]; simp)
            generalize textE x0 = E0 at *
            clear h3 h2 hkids hkid1 hfacts htx hIE hlenT HT0
            go_upto_region 12 with fail
            have hsl := slA_inj (b := 47) (l := 3) (n := 13) (by decide)
            have hst : ∀ qq ∈ [isR w.heap.size T0, isV (.pointer (some ⟨LB, 1, none⟩)), isV (.string (bs y.name)), isV (.agg #[.int .i64 2, .string (bs y.name), .int .i64 0, .slice none 0 0, .slice none 0 0]), isV (.agg #[.int .i64 3, .string ⟨#[226, 134, 144]⟩, .int .i64 0, .slice none 0 0, .slice none 0 0]), isR w.heap.size [nm y.name, gl gGets], isV (.pointer (some ⟨LB, 2, none⟩)), isV (.slice (some ⟨kb, ko, none⟩) y.kids.len kc), isV (.pointer (some ⟨kb, ko, none⟩)), isV (.agg #[.int .i64 x0.kind, .string (bs x0.name), .int .i64 x0.val.kind, .slice xa x0.val.shape.length xc, .slice xe x0.val.elems.length xec, .int .i64 x0.fn.kind, .int .i64 x0.fn.f, .int .i64 x0.fn.g, .string (bs x0.fn.name), .slice xb x0.fn.body.len xbc, .slice xk x0.kids.len xkc]), isR w.heap.size E0, isRs w.heap.size [T0, [nm y.name, gl gGets], E0], isR w.heap.size [T0, [nm y.name, gl gGets], E0].flatten, isR w.heap.size [T0, [nm y.name, gl gGets], E0].flatten], Steady qq := steady_cons (steadyR _ _) (steady_cons (steadyV _) (steady_cons (steadyV _) (steady_cons (steadyV _) (steady_cons (steadyV _) (steady_cons (steadyR _ _) (steady_cons (steadyV _) (steady_cons (steadyV _) (steady_cons (steadyV _) (steady_cons (steadyV _) (steady_cons (steadyR _ _) (steady_cons (steadyRs _ _) (steady_cons (steadyR _ _) (steady_cons (steadyR _ _) (steady_nil))))))))))))))
            refine region_vals [47, 48, 49, 50, 51, 52, 53, 54, 55, 56, 57, 58, 59, 3] (by decide) _ (RP w2 13 (v2) (slA 47 3 13) [isR w.heap.size T0, isV (.pointer (some ⟨LB, 1, none⟩)), isV (.string (bs y.name)), isV (.agg #[.int .i64 2, .string (bs y.name), .int .i64 0, .slice none 0 0, .slice none 0 0]), isV (.agg #[.int .i64 3, .string ⟨#[226, 134, 144]⟩, .int .i64 0, .slice none 0 0, .slice none 0 0]), isR w.heap.size [nm y.name, gl gGets], isV (.pointer (some ⟨LB, 2, none⟩)), isV (.slice (some ⟨kb, ko, none⟩) y.kids.len kc), isV (.pointer (some ⟨kb, ko, none⟩)), isV (.agg #[.int .i64 x0.kind, .string (bs x0.name), .int .i64 x0.val.kind, .slice xa x0.val.shape.length xc, .slice xe x0.val.elems.length xec, .int .i64 x0.fn.kind, .int .i64 x0.fn.f, .int .i64 x0.fn.g, .string (bs x0.fn.name), .slice xb x0.fn.body.len xbc, .slice xk x0.kids.len xkc]), isR w.heap.size E0, isRs w.heap.size [T0, [nm y.name, gl gGets], E0], isR w.heap.size [T0, [nm y.name, gl gGets], E0].flatten, isR w.heap.size [T0, [nm y.name, gl gGets], E0].flatten]) (fun k => if k = 3 then v2 else if k = 47 then u47 else if k = 48 then u48 else if k = 49 then u49 else if k = 50 then u50 else if k = 51 then u51 else if k = 52 then u52 else if k = 53 then u53 else if k = 54 then u54 else if k = 55 then u55 else if k = 56 then u56 else if k = 57 then u57 else if k = 58 then u58 else if k = 59 then u59 else undef) (by kernel_rfl) (by kernel_rfl) rfl (by kernel_rfl) (by kernel_rfl) (RP.start rfl) ?_ ?_
            · intro i hi d vs V A hfar hv hd hdep hJ
              have hi2 : i < 14 := hi
              have hgr := hJ.gr
              have hle : w.heap.size ≤ V.heap.size := Nat.le_trans hWz hgr.size
              have p5 : A.tmps[5]? = some (.pointer (some ⟨LB, 0, none⟩)) := (hfar 5 (by decide)).trans rfl
              clear hfar hi
              rcases (by omega : i = 0 ∨ i = 1 ∨ i = 2 ∨ i = 3 ∨ i = 4 ∨ i = 5 ∨ i = 6 ∨ i = 7 ∨ i = 8 ∨ i = 9 ∨ i = 10 ∨ i = 11 ∨ i = 12 ∨ i = 13) with rfl | rfl | rfl | rfl | rfl | rfl | rfl | rfl | rfl | rfl | rfl | rfl | rfl | rfl
              · have z0 : vs 3 = v2 := hJ.first hd
                have a3 : A.tmps[3]? = some (vs 3) := hv 3 (by decide)
                rw [z0] at a3
                refine step_free rfl rfl (fun K' hK => ?_)
                clear hv hdep
                go_simp
                exact hK _ _ ⟨_, .inr ⟨47, _, by decide, rfl, rfl⟩, hJ.step hst hsl 0 _ rfl (fun h => absurd h (by decide)) (Below.refl _ _) _ (r0.below hgr)⟩
              · refine step_free rfl rfl (fun K' hK => ?_)
                clear hv hdep
                go_simp
                exact hK _ _ ⟨_, .inr ⟨48, _, by decide, rfl, rfl⟩, hJ.step hst hsl 1 _ rfl (fun h => absurd h (by decide)) (Below.refl _ _) _ (rfl)⟩
              · have e1 : vs 48 = .pointer (some ⟨LB, 1, none⟩) := hJ.val 1 _ rfl (hdep 1 (by decide))
                have a48 : A.tmps[48]? = some (vs 48) := hv 48 (by decide)
                rw [e1] at a48
                refine step_free rfl rfl (fun K' hK => ?_)
                clear hv hdep
                obtain ⟨d0, d1, d2⟩ := (ln_facts (hLn V hgr)).1
                go_simp
                exact hK _ _ ⟨_, .inr ⟨49, _, by decide, rfl, rfl⟩, hJ.step hst hsl 2 _ rfl (fun h => absurd h (by decide)) (Below.refl _ _) _ (rfl)⟩
              · have e2 : vs 49 = .string (bs y.name) := hJ.val 2 _ rfl (hdep 2 (by decide))
                have a49 : A.tmps[49]? = some (vs 49) := hv 49 (by decide)
                rw [e2] at a49
                refine step_free rfl rfl (fun K' hK => ?_)
                clear hv hdep
                go_simp
                go_at_call 44
                refine (tnamed_any _ _).mono ?_
                rintro e W ⟨rfl, b⟩
                exact hK _ _ ⟨_, .inr ⟨50, _, by decide, rfl, rfl⟩, hJ.step hst hsl 3 _ rfl (fun h => absurd h (by decide)) b _ (rfl)⟩
              · refine step_free rfl rfl (fun K' hK => ?_)
                clear hv hdep
                go_simp
                go_at_call 45
                refine (tglyph_any _ _).mono ?_
                rintro e W ⟨rfl, b⟩
                exact hK _ _ ⟨_, .inr ⟨51, _, by decide, rfl, rfl⟩, hJ.step hst hsl 4 _ rfl (fun h => absurd h (by decide)) b _ (rfl)⟩
              · have e3 : vs 50 = .agg #[.int .i64 2, .string (bs y.name), .int .i64 0, .slice none 0 0, .slice none 0 0] := hJ.val 3 _ rfl (hdep 3 (by decide))
                have a50 : A.tmps[50]? = some (vs 50) := hv 50 (by decide)
                rw [e3] at a50
                have e4 : vs 51 = .agg #[.int .i64 3, .string ⟨#[226, 134, 144]⟩, .int .i64 0, .slice none 0 0, .slice none 0 0] := hJ.val 4 _ rfl (hdep 4 (by decide))
                have a51 : A.tmps[51]? = some (vs 51) := hv 51 (by decide)
                rw [e4] at a51
                refine step_free rfl rfl (fun K' hK => ?_)
                clear hv hdep
                go_simp
                exact hK _ _ ⟨_, .inr ⟨52, _, by decide, rfl, rfl⟩, hJ.step hst hsl 5 _ rfl (fun h => absurd h (by decide)) ((Below.refl _ _).alloc (Nat.le_refl _) _) _ (Row.lit (us := [glC 2 (bs y.name), glC 3 ⟨#[226, 134, 144]⟩]) (T := [nm y.name, gl gGets]) (heap_alloc_new V _) hle ⟨own_nm _ _ _, own_gl _ _ gGets, trivial⟩ 2 rfl (by simp))⟩
              · refine step_free rfl rfl (fun K' hK => ?_)
                clear hv hdep
                go_simp
                exact hK _ _ ⟨_, .inr ⟨53, _, by decide, rfl, rfl⟩, hJ.step hst hsl 6 _ rfl (fun h => absurd h (by decide)) (Below.refl _ _) _ (rfl)⟩
              · have e6 : vs 53 = .pointer (some ⟨LB, 2, none⟩) := hJ.val 6 _ rfl (hdep 6 (by decide))
                have a53 : A.tmps[53]? = some (vs 53) := hv 53 (by decide)
                rw [e6] at a53
                refine step_free rfl rfl (fun K' hK => ?_)
                clear hv hdep
                obtain ⟨d0, d1, d2⟩ := (ln_facts (hLn V hgr)).1
                go_simp
                exact hK _ _ ⟨_, .inr ⟨54, _, by decide, rfl, rfl⟩, hJ.step hst hsl 7 _ rfl (fun h => absurd h (by decide)) (Below.refl _ _) _ (rfl)⟩
              · have e7 : vs 54 = .slice (some ⟨kb, ko, none⟩) y.kids.len kc := hJ.val 7 _ rfl (hdep 7 (by decide))
                have a54 : A.tmps[54]? = some (vs 54) := hv 54 (by decide)
                rw [e7] at a54
                refine step_free rfl rfl (fun K' hK => ?_)
                clear hv hdep
                go_simp
                exact hK _ _ ⟨_, .inr ⟨55, _, by decide, rfl, rfl⟩, hJ.step hst hsl 8 _ rfl (fun h => absurd h (by decide)) (Below.refl _ _) _ (rfl)⟩
              · have e8 : vs 55 = .pointer (some ⟨kb, ko, none⟩) := hJ.val 8 _ rfl (hdep 8 (by decide))
                have a55 : A.tmps[55]? = some (vs 55) := hv 55 (by decide)
                rw [e8] at a55
                refine step_free rfl rfl (fun K' hK => ?_)
                clear hv hdep
                obtain ⟨d0, d1, d2, d3, d4, d5, d6, d7, d8, d9, d10⟩ := hKid V hgr
                go_simp
                exact hK _ _ ⟨_, .inr ⟨56, _, by decide, rfl, rfl⟩, hJ.step hst hsl 9 _ rfl (fun h => absurd h (by decide)) (Below.refl _ _) _ (rfl)⟩
              · have e9 : vs 56 = .agg #[.int .i64 x0.kind, .string (bs x0.name), .int .i64 x0.val.kind, .slice xa x0.val.shape.length xc, .slice xe x0.val.elems.length xec, .int .i64 x0.fn.kind, .int .i64 x0.fn.f, .int .i64 x0.fn.g, .string (bs x0.fn.name), .slice xb x0.fn.body.len xbc, .slice xk x0.kids.len xkc] := hJ.val 9 _ rfl (hdep 9 (by decide))
                have a56 : A.tmps[56]? = some (vs 56) := hv 56 (by decide)
                rw [e9] at a56
                refine step_free rfl rfl (fun K' hK => ?_)
                clear hv hdep
                go_simp
                go_at_call 48
                refine (ct0 V hgr).mono ?_
                rintro e W ⟨⟨u, rfl, ru⟩, b⟩
                exact hK _ _ ⟨_, .inr ⟨57, _, by decide, rfl, rfl⟩, hJ.step hst hsl 10 _ rfl (fun h => absurd h (by decide)) b _ (ru.mono hle)⟩
              · have e0 : Row V w.heap.size (vs 47) T0 := hJ.val 0 _ rfl (hdep 0 (by decide))
                have a47 : A.tmps[47]? = some (vs 47) := hv 47 (by decide)
                obtain ⟨s47a, s47c, q47⟩ := Row.slice e0
                rw [q47] at a47 e0
                have e5 : Row V w.heap.size (vs 52) [nm y.name, gl gGets] := hJ.val 5 _ rfl (hdep 5 (by decide))
                have a52 : A.tmps[52]? = some (vs 52) := hv 52 (by decide)
                obtain ⟨s52a, s52c, q52⟩ := Row.slice e5
                rw [q52] at a52 e5
                have e10 : Row V w.heap.size (vs 57) E0 := hJ.val 10 _ rfl (hdep 10 (by decide))
                have a57 : A.tmps[57]? = some (vs 57) := hv 57 (by decide)
                obtain ⟨s57a, s57c, q57⟩ := Row.slice e10
                rw [q57] at a57 e10
                refine step_free rfl rfl (fun K' hK => ?_)
                clear hv hdep
                go_simp
                exact hK _ _ ⟨_, .inr ⟨58, _, by decide, rfl, rfl⟩, hJ.step hst hsl 11 _ rfl (fun h => absurd h (by decide)) ((Below.refl _ _).alloc (Nat.le_refl _) _) _ (rows3 (heap_alloc_new V _) (Row.below e0 ((Below.refl _ _).alloc (Nat.le_refl _) _)) (Row.below e5 ((Below.refl _ _).alloc (Nat.le_refl _) _)) (Row.below e10 ((Below.refl _ _).alloc (Nat.le_refl _) _)))⟩
              · have e11 : IsRowsT w.heap.size [T0, [nm y.name, gl gGets], E0] (vs 58) V := hJ.val 11 _ rfl (hdep 11 (by decide))
                have a58 : A.tmps[58]? = some (vs 58) := hv 58 (by decide)
                have Hcc := hid (tconcat_row _ _ _ V e11 (by simp only [List.flatten_cons, List.flatten_nil, List.append_nil, List.length_append, List.length_cons, List.length_nil]; omega) (by simp) hle)
                refine step_free rfl rfl (fun K' hK => ?_)
                clear hv hdep
                go_simp
                go_at_call 70
                refine Hcc.out.mono ?_
                rintro e W ⟨⟨u, rfl, ru⟩, b⟩
                exact hK _ _ ⟨_, .inr ⟨59, _, by decide, rfl, rfl⟩, hJ.step hst hsl 12 _ rfl (fun h => absurd h (by decide)) b _ (ru)⟩
              · have e12 : Row V w.heap.size (vs 59) _ := hJ.val 12 _ rfl (hdep 12 (by decide))
                have a59 : A.tmps[59]? = some (vs 59) := hv 59 (by decide)
                have o0 := hdep 0 (by decide)
                refine step_free rfl rfl (fun K' hK => ?_)
                clear hv hdep
                go_simp
                exact hK _ _ ⟨_, .inr ⟨3, _, by decide, rfl, rfl⟩, hJ.step hst hsl 13 _ rfl (fun _ => .inl o0) (Below.refl _ _) _ (e12)⟩
            · intro d vs V hall hJ
              have h2 := hJ.val 13 _ rfl (hall 13 (show 13 < 14 by decide))
              have h2 : Row V w.heap.size (vs 3) _ := h2
              have hBV := hJ.gr
              clear hall hJ hst hsl
              simp only [puts, List.foldl_cons, List.foldl_nil, Act.put, List.setIfInBounds_toArray, List.set_cons_zero, List.set_cons_succ, Nat.reduceAdd]
              generalize vs 3 = r at *
              go_wp2_with fail
              go_roundw
              case rel => exact ⟨k + 1, by omega, by go_num, by rw [← HTE.out]; exact h2, hB2.trans (hBV.mono hB2.size)⟩
              case measure => simp [intOf]; omega
          · have t2 : (y.kind == 2) = false := by simpa using h2
            have htx : textL y = textE x0 := by rw [textL_of y hoy x0 hx0]; unfold lnT1; rw [if_neg h3, if_neg h2]
            have hlen3 : T0.length + (textE x0).length ≤ 500000 := by have := hlenT; rw [htx] at this; exact this
            have Ht0 := hid (hC x0 (.agg #[.int .i64 x0.kind, .string (bs x0.name), .int .i64 x0.val.kind, .slice xa x0.val.shape.length xc, .slice xe x0.val.elems.length xec, .int .i64 x0.fn.kind, .int .i64 x0.fn.f, .int .i64 x0.fn.g, .string (bs x0.fn.name), .slice xb x0.fn.body.len xbc, .slice xk x0.kids.len xkc]) w2 hzx0 hox0 hwx0 (hIE w2 (Below.refl _ _)) (hGy w2 (Below.refl _ _)) (by omega))
            have HTE : Hid (T0 ++ textE x0 = joinG gDia ((X.take (k + 1)).map textL)) := hid (by rw [← HT0.out, htx])
            generalize textE x0 = E0 at *
            obtain ⟨d0, d1, d2, d3, d4, d5, d6, d7, d8, d9, d10⟩ := hKid w2 (Below.refl _ _)
            clear h3 h2 hkids hkid1 hfacts htx hIE hlenT HT0
            go_wp2_with fail
            refine Ht0.out.mono ?_
            rintro e w3 ⟨⟨u, rfl, ru⟩, b3⟩
            have hz3 := hB2.trans (b3.mono hB2.size)
            clear Ht0 c0 c1 c2 d0 d1 d2 d3 d4 d5 d6 d7 d8 d9 d10 hKid hLn
            go_wp2_with (at_builtin; go_must (refine append_row rfl _ _ rfl w.heap.size _ _ T0 E0 rfl rfl (r0.below b3) (ru.mono hWz) (by omega) hz3.size ?_); intro v4 w4 r4 b4)
            go_roundw
            case rel => exact ⟨k + 1, by omega, by go_num, by rw [← HTE.out]; exact r4, hz3.trans ((r0.below b3).grown b4 hz3.size)⟩
            case measure => simp [intOf]; omega
      · have hk0i : (0 : Int) < (k : Int) := by omega
        rw [if_neg (hne (by omega))] at hjl
        have HT0' : Hid ((TK ++ [gl gDia]) ++ textL y = joinG gDia ((X.take (k + 1)).map textL)) := hid (by rw [HW.out, if_neg (hne (by omega))])
        have hlenT' : (TK ++ [gl gDia]).length + (textL y).length ≤ 500000 := by simp only [List.length_append] at hjl ⊢; omega
        have hltK := hrow.lt
        clear hTK0 hne hjl HW hk00
        go_wp2_with fail
        refine (tglyph_any _ _).mono ?_
        rintro e w3 ⟨rfl, b3⟩
        have hN4 := heap_alloc_new w3 (.cells #[.int .i64 3, .string ⟨#[226, 139, 132]⟩, .int .i64 0, .slice none 0 0, .slice none 0 0] 88)
        have b4 := (Below.refl _ w3).alloc (Nat.le_refl _) (.cells #[.int .i64 3, .string ⟨#[226, 139, 132]⟩, .int .i64 0, .slice none 0 0, .slice none 0 0] 88)
        have b14 := b3.trans (b4.mono b3.size)
        have hB1 := hB.trans (b1.mono hB.size)
        have hB4 := hB1.trans (b14.mono hB1.size)
        have hB3 := hB1.trans (b3.mono hB1.size)
        have rD := Row.gl1 (base := w.heap.size) gDia hN4 hB3.size
        have r4 := (hrow.below b1).below b14
        have hL4 := (b14.block _ (Array.getElem?_eq_some_iff.1 hL1).1).trans hL1
        have hN2 : TK.length + [gl gDia].length ≤ 1000000 := by simp only [List.length_append] at hlenT'; omega
        clear hrow hL1 b1 b3 b4 hN4
        go_upto_region 7 with (at_builtin; go_must (refine append_row rfl _ _ rfl w.heap.size u3 _ TK [gl gDia] rfl rfl r4 rD hN2 hB4.size ?_); intro v2 w2 r0 hgw)
        have hB2 := hB4.trans (r4.grown hgw hB4.size)
        have hL2 := (hgw.block wr.heap.size (Array.getElem?_eq_some_iff.1 hL4).1 (fun e => by have := (hltK _ e.symm).2; omega)).trans hL4
        have HT0 := HT0'
        have hlenT := hlenT'
        generalize TK ++ [gl gDia] = T0 at *
        clear r4 rD hL4 hB4 hB3 b14 hB1 hgw hltK HT0' hlenT'
        have hWz := hB2.size
        have hLn : ∀ V, Below w2.heap.size w2 V → V.heap[wr.heap.size]? = some (.cells #[.int .i64 y.kind, .string (bs y.name), .slice (some ⟨kb, ko, none⟩) y.kids.len kc] 50) := fun V hV => (hV.block _ (Array.getElem?_eq_some_iff.1 hL2).1).trans hL2
        have hKid : ∀ V, Below w2.heap.size w2 V → ExAt V kb ko x0.kind x0.name x0.val.kind (.slice xa x0.val.shape.length xc) (.slice xe x0.val.elems.length xec) x0.fn.kind x0.fn.f x0.fn.g x0.fn.name (.slice xb x0.fn.body.len xbc) (.slice xk x0.kids.len xkc) := fun V hV => hk0.below (hB2.trans (hV.mono hB2.size))
        have hIE : ∀ V, Below w2.heap.size w2 V → IsE V (.agg #[.int .i64 x0.kind, .string (bs x0.name), .int .i64 x0.val.kind, .slice xa x0.val.shape.length xc, .slice xe x0.val.elems.length xec, .int .i64 x0.fn.kind, .int .i64 x0.fn.f, .int .i64 x0.fn.g, .string (bs x0.fn.name), .slice xb x0.fn.body.len xbc, .slice xk x0.kids.len xkc]) x0 := fun V hV => ix0.below (hB2.trans (hV.mono hB2.size))
        have hGy : ∀ V, Below w2.heap.size w2 V → Gly V := fun V hV => hgy.below (hB2.trans (hV.mono hB2.size))
        generalize wr.heap.size = LB at *
        clear hk0 ix0 hL2
        obtain ⟨c0, c1, c2⟩ := (ln_facts (hLn w2 (Below.refl _ _))).1
        by_cases h3 : y.kind = 3
        · have t3 : (y.kind == 3) = true := by simp [h3]
          obtain ⟨x1, hx1⟩ := hkid1 h3
          obtain ⟨hox1, hwx1, hzx1⟩ := hfacts x1 (List.mem_of_getElem? hx1)
          obtain ⟨ya, yc, ye, yec, yb, ybc, yk, ykc, hk1, ix1⟩ := hkids 1 x1 hx1
          rw [Nat.one_mul] at hk1
          have hKid1 : ∀ V, Below w2.heap.size w2 V → ExAt V kb (ko + 11) x1.kind x1.name x1.val.kind (.slice ya x1.val.shape.length yc) (.slice ye x1.val.elems.length yec) x1.fn.kind x1.fn.f x1.fn.g x1.fn.name (.slice yb x1.fn.body.len ybc) (.slice yk x1.kids.len ykc) := fun V hV => hk1.below (hB2.trans (hV.mono hB2.size))
          have hIE1 : ∀ V, Below w2.heap.size w2 V → IsE V (.agg #[.int .i64 x1.kind, .string (bs x1.name), .int .i64 x1.val.kind, .slice ya x1.val.shape.length yc, .slice ye x1.val.elems.length yec, .int .i64 x1.fn.kind, .int .i64 x1.fn.f, .int .i64 x1.fn.g, .string (bs x1.fn.name), .slice yb x1.fn.body.len ybc, .slice yk x1.kids.len ykc]) x1 := fun V hV => ix1.below (hB2.trans (hV.mono hB2.size))
          have htx : textL y = textE x0 ++ gl gColon :: textE x1 := by rw [textL_of y hoy x0 hx0]; unfold lnT1; rw [if_pos h3, hx1]
          have Htx := hid htx
          have hlen3 : T0.length + ((textE x0).length + (1 + (textE x1).length)) ≤ 500000 := by have := hlenT; rw [htx] at this; simp only [List.length_append, List.length_cons] at this; omega
          have hn2 : (1 : Int) < (y.kids.len : Int) := by have := hwy.2.2 h3; omega
          have hn2' : 1 < y.kids.len := by have := hwy.2.2 h3; omega
          have ct0 := fun V (hV : Below w2.heap.size w2 V) => hC x0 (.agg #[.int .i64 x0.kind, .string (bs x0.name), .int .i64 x0.val.kind, .slice xa x0.val.shape.length xc, .slice xe x0.val.elems.length xec, .int .i64 x0.fn.kind, .int .i64 x0.fn.f, .int .i64 x0.fn.g, .string (bs x0.fn.name), .slice xb x0.fn.body.len xbc, .slice xk x0.kids.len xkc]) V hzx0 hox0 hwx0 (hIE V hV) (hGy V hV) (by omega)
          have ct1 := fun V (hV : Below w2.heap.size w2 V) => hC x1 (.agg #[.int .i64 x1.kind, .string (bs x1.name), .int .i64 x1.val.kind, .slice ya x1.val.shape.length yc, .slice ye x1.val.elems.length yec, .int .i64 x1.fn.kind, .int .i64 x1.fn.f, .int .i64 x1.fn.g, .string (bs x1.fn.name), .slice yb x1.fn.body.len ybc, .slice yk x1.kids.len ykc]) V hzx1 hox1 hwx1 (hIE1 V hV) (hGy V hV) (by omega)
          have HTE : Hid ([T0, textE x0, [gl gColon], textE x1].flatten = joinG gDia ((X.take (k + 1)).map textL)) := hid (by rw [← HT0.out, htx]; simp)
          generalize textE x0 = E0 at *
          generalize textE x1 = E1 at *
          clear h3 hkids hkid1 hfacts htx Htx hIE hIE1 hk1 ix1 hlenT HT0 hx1
          go_upto_region 10 with fail
          have hsl := slA_inj (b := 30) (l := 3) (n := 15) (by decide)
          have hst : ∀ qq ∈ [isR w.heap.size T0, isV (.pointer (some ⟨LB, 2, none⟩)), isV (.slice (some ⟨kb, ko, none⟩) y.kids.len kc), isV (.pointer (some ⟨kb, ko, none⟩)), isV (.agg #[.int .i64 x0.kind, .string (bs x0.name), .int .i64 x0.val.kind, .slice xa x0.val.shape.length xc, .slice xe x0.val.elems.length xec, .int .i64 x0.fn.kind, .int .i64 x0.fn.f, .int .i64 x0.fn.g, .string (bs x0.fn.name), .slice xb x0.fn.body.len xbc, .slice xk x0.kids.len xkc]), isR w.heap.size E0, isV (.agg #[.int .i64 3, .string ⟨#[58]⟩, .int .i64 0, .slice none 0 0, .slice none 0 0]), isR w.heap.size [gl gColon], isV (.pointer (some ⟨LB, 2, none⟩)), isV (.slice (some ⟨kb, ko, none⟩) y.kids.len kc), isV (.pointer (some ⟨kb, ko + 11, none⟩)), isV (.agg #[.int .i64 x1.kind, .string (bs x1.name), .int .i64 x1.val.kind, .slice ya x1.val.shape.length yc, .slice ye x1.val.elems.length yec, .int .i64 x1.fn.kind, .int .i64 x1.fn.f, .int .i64 x1.fn.g, .string (bs x1.fn.name), .slice yb x1.fn.body.len ybc, .slice yk x1.kids.len ykc]), isR w.heap.size E1, isRs w.heap.size [T0, E0, [gl gColon], E1], isR w.heap.size [T0, E0, [gl gColon], E1].flatten, isR w.heap.size [T0, E0, [gl gColon], E1].flatten], Steady qq := steady_cons (steadyR _ _) (steady_cons (steadyV _) (steady_cons (steadyV _) (steady_cons (steadyV _) (steady_cons (steadyV _) (steady_cons (steadyR _ _) (steady_cons (steadyV _) (steady_cons (steadyR _ _) (steady_cons (steadyV _) (steady_cons (steadyV _) (steady_cons (steadyV _) (steady_cons (steadyV _) (steady_cons (steadyR _ _) (steady_cons (steadyRs _ _) (steady_cons (steadyR _ _) (steady_cons (steadyR _ _) (steady_nil))))))))))))))))
          refine region_vals [30, 31, 32, 33, 34, 35, 36, 37, 38, 39, 40, 41, 42, 43, 44, 3] (by decide) _ (RP w2 15 (v2) (slA 30 3 15) [isR w.heap.size T0, isV (.pointer (some ⟨LB, 2, none⟩)), isV (.slice (some ⟨kb, ko, none⟩) y.kids.len kc), isV (.pointer (some ⟨kb, ko, none⟩)), isV (.agg #[.int .i64 x0.kind, .string (bs x0.name), .int .i64 x0.val.kind, .slice xa x0.val.shape.length xc, .slice xe x0.val.elems.length xec, .int .i64 x0.fn.kind, .int .i64 x0.fn.f, .int .i64 x0.fn.g, .string (bs x0.fn.name), .slice xb x0.fn.body.len xbc, .slice xk x0.kids.len xkc]), isR w.heap.size E0, isV (.agg #[.int .i64 3, .string ⟨#[58]⟩, .int .i64 0, .slice none 0 0, .slice none 0 0]), isR w.heap.size [gl gColon], isV (.pointer (some ⟨LB, 2, none⟩)), isV (.slice (some ⟨kb, ko, none⟩) y.kids.len kc), isV (.pointer (some ⟨kb, ko + 11, none⟩)), isV (.agg #[.int .i64 x1.kind, .string (bs x1.name), .int .i64 x1.val.kind, .slice ya x1.val.shape.length yc, .slice ye x1.val.elems.length yec, .int .i64 x1.fn.kind, .int .i64 x1.fn.f, .int .i64 x1.fn.g, .string (bs x1.fn.name), .slice yb x1.fn.body.len ybc, .slice yk x1.kids.len ykc]), isR w.heap.size E1, isRs w.heap.size [T0, E0, [gl gColon], E1], isR w.heap.size [T0, E0, [gl gColon], E1].flatten, isR w.heap.size [T0, E0, [gl gColon], E1].flatten]) (fun k => if k = 3 then v2 else if k = 30 then u30 else if k = 31 then u31 else if k = 32 then u32 else if k = 33 then u33 else if k = 34 then u34 else if k = 35 then u35 else if k = 36 then u36 else if k = 37 then u37 else if k = 38 then u38 else if k = 39 then u39 else if k = 40 then u40 else if k = 41 then u41 else if k = 42 then u42 else if k = 43 then u43 else if k = 44 then u44 else undef) (by kernel_rfl) (by kernel_rfl) rfl (by kernel_rfl) (by kernel_rfl) (RP.start rfl) ?_ ?_
          · intro i hi d vs V A hfar hv hd hdep hJ
            have hi2 : i < 16 := hi
            have hgr := hJ.gr
            have hle : w.heap.size ≤ V.heap.size := Nat.le_trans hWz hgr.size
            have p5 : A.tmps[5]? = some (.pointer (some ⟨LB, 0, none⟩)) := (hfar 5 (by decide)).trans rfl
            clear hfar hi
            rcases (by omega : i = 0 ∨ i = 1 ∨ i = 2 ∨ i = 3 ∨ i = 4 ∨ i = 5 ∨ i = 6 ∨ i = 7 ∨ i = 8 ∨ i = 9 ∨ i = 10 ∨ i = 11 ∨ i = 12 ∨ i = 13 ∨ i = 14 ∨ i = 15) with rfl | rfl | rfl | rfl | rfl | rfl | rfl | rfl | rfl | rfl | rfl | rfl | rfl | rfl | rfl | rfl
            · have z0 : vs 3 = v2 := hJ.first hd
              have a3 : A.tmps[3]? = some (vs 3) := hv 3 (by decide)
              rw [z0] at a3
              refine step_free rfl rfl (fun K' hK => ?_)
              clear hv hdep
              go_simp
              exact hK _ _ ⟨_, .inr ⟨30, _, by decide, rfl, rfl⟩, hJ.step hst hsl 0 _ rfl (fun h => absurd h (by decide)) (Below.refl _ _) _ (r0.below hgr)⟩
            · refine step_free rfl rfl (fun K' hK => ?_)
              clear hv hdep
              go_simp
              exact hK _ _ ⟨_, .inr ⟨31, _, by decide, rfl, rfl⟩, hJ.step hst hsl 1 _ rfl (fun h => absurd h (by decide)) (Below.refl _ _) _ (rfl)⟩
            · have e1 : vs 31 = .pointer (some ⟨LB, 2, none⟩) := hJ.val 1 _ rfl (hdep 1 (by decide))
              have a31 : A.tmps[31]? = some (vs 31) := hv 31 (by decide)
              rw [e1] at a31
              refine step_free rfl rfl (fun K' hK => ?_)
              clear hv hdep
              obtain ⟨d0, d1, d2⟩ := (ln_facts (hLn V hgr)).1
              go_simp
              exact hK _ _ ⟨_, .inr ⟨32, _, by decide, rfl, rfl⟩, hJ.step hst hsl 2 _ rfl (fun h => absurd h (by decide)) (Below.refl _ _) _ (rfl)⟩
            · have e2 : vs 32 = .slice (some ⟨kb, ko, none⟩) y.kids.len kc := hJ.val 2 _ rfl (hdep 2 (by decide))
              have a32 : A.tmps[32]? = some (vs 32) := hv 32 (by decide)
              rw [e2] at a32
              refine step_free rfl rfl (fun K' hK => ?_)
              clear hv hdep
              go_simp
              exact hK _ _ ⟨_, .inr ⟨33, _, by decide, rfl, rfl⟩, hJ.step hst hsl 3 _ rfl (fun h => absurd h (by decide)) (Below.refl _ _) _ (rfl)⟩
            · have e3 : vs 33 = .pointer (some ⟨kb, ko, none⟩) := hJ.val 3 _ rfl (hdep 3 (by decide))
              have a33 : A.tmps[33]? = some (vs 33) := hv 33 (by decide)
              rw [e3] at a33
              refine step_free rfl rfl (fun K' hK => ?_)
              clear hv hdep
              obtain ⟨d0, d1, d2, d3, d4, d5, d6, d7, d8, d9, d10⟩ := hKid V hgr
              go_simp
              exact hK _ _ ⟨_, .inr ⟨34, _, by decide, rfl, rfl⟩, hJ.step hst hsl 4 _ rfl (fun h => absurd h (by decide)) (Below.refl _ _) _ (rfl)⟩
            · have e4 : vs 34 = .agg #[.int .i64 x0.kind, .string (bs x0.name), .int .i64 x0.val.kind, .slice xa x0.val.shape.length xc, .slice xe x0.val.elems.length xec, .int .i64 x0.fn.kind, .int .i64 x0.fn.f, .int .i64 x0.fn.g, .string (bs x0.fn.name), .slice xb x0.fn.body.len xbc, .slice xk x0.kids.len xkc] := hJ.val 4 _ rfl (hdep 4 (by decide))
              have a34 : A.tmps[34]? = some (vs 34) := hv 34 (by decide)
              rw [e4] at a34
              refine step_free rfl rfl (fun K' hK => ?_)
              clear hv hdep
              go_simp
              go_at_call 48
              refine (ct0 V hgr).mono ?_
              rintro e W ⟨⟨u, rfl, ru⟩, b⟩
              exact hK _ _ ⟨_, .inr ⟨35, _, by decide, rfl, rfl⟩, hJ.step hst hsl 5 _ rfl (fun h => absurd h (by decide)) b _ (ru.mono hle)⟩
            · refine step_free rfl rfl (fun K' hK => ?_)
              clear hv hdep
              go_simp
              go_at_call 45
              refine (tglyph_any _ _).mono ?_
              rintro e W ⟨rfl, b⟩
              exact hK _ _ ⟨_, .inr ⟨36, _, by decide, rfl, rfl⟩, hJ.step hst hsl 6 _ rfl (fun h => absurd h (by decide)) b _ (rfl)⟩
            · have e6 : vs 36 = .agg #[.int .i64 3, .string ⟨#[58]⟩, .int .i64 0, .slice none 0 0, .slice none 0 0] := hJ.val 6 _ rfl (hdep 6 (by decide))
              have a36 : A.tmps[36]? = some (vs 36) := hv 36 (by decide)
              rw [e6] at a36
              refine step_free rfl rfl (fun K' hK => ?_)
              clear hv hdep
              go_simp
              exact hK _ _ ⟨_, .inr ⟨37, _, by decide, rfl, rfl⟩, hJ.step hst hsl 7 _ rfl (fun h => absurd h (by decide)) ((Below.refl _ _).alloc (Nat.le_refl _) _) _ (Row.gl1 gColon (heap_alloc_new V _) hle)⟩
            · refine step_free rfl rfl (fun K' hK => ?_)
              clear hv hdep
              go_simp
              exact hK _ _ ⟨_, .inr ⟨38, _, by decide, rfl, rfl⟩, hJ.step hst hsl 8 _ rfl (fun h => absurd h (by decide)) (Below.refl _ _) _ (rfl)⟩
            · have e8 : vs 38 = .pointer (some ⟨LB, 2, none⟩) := hJ.val 8 _ rfl (hdep 8 (by decide))
              have a38 : A.tmps[38]? = some (vs 38) := hv 38 (by decide)
              rw [e8] at a38
              refine step_free rfl rfl (fun K' hK => ?_)
              clear hv hdep
              obtain ⟨d0, d1, d2⟩ := (ln_facts (hLn V hgr)).1
              go_simp
              exact hK _ _ ⟨_, .inr ⟨39, _, by decide, rfl, rfl⟩, hJ.step hst hsl 9 _ rfl (fun h => absurd h (by decide)) (Below.refl _ _) _ (rfl)⟩
            · have e9 : vs 39 = .slice (some ⟨kb, ko, none⟩) y.kids.len kc := hJ.val 9 _ rfl (hdep 9 (by decide))
              have a39 : A.tmps[39]? = some (vs 39) := hv 39 (by decide)
              rw [e9] at a39
              refine step_free rfl rfl (fun K' hK => ?_)
              clear hv hdep
              go_simp
              exact hK _ _ ⟨_, .inr ⟨40, _, by decide, rfl, rfl⟩, hJ.step hst hsl 10 _ rfl (fun h => absurd h (by decide)) (Below.refl _ _) _ (rfl)⟩
            · have e10 : vs 40 = .pointer (some ⟨kb, ko + 11, none⟩) := hJ.val 10 _ rfl (hdep 10 (by decide))
              have a40 : A.tmps[40]? = some (vs 40) := hv 40 (by decide)
              rw [e10] at a40
              refine step_free rfl rfl (fun K' hK => ?_)
              clear hv hdep
              obtain ⟨d0, d1, d2, d3, d4, d5, d6, d7, d8, d9, d10⟩ := hKid1 V hgr
              go_simp
              exact hK _ _ ⟨_, .inr ⟨41, _, by decide, rfl, rfl⟩, hJ.step hst hsl 11 _ rfl (fun h => absurd h (by decide)) (Below.refl _ _) _ (rfl)⟩
            · have e11 : vs 41 = .agg #[.int .i64 x1.kind, .string (bs x1.name), .int .i64 x1.val.kind, .slice ya x1.val.shape.length yc, .slice ye x1.val.elems.length yec, .int .i64 x1.fn.kind, .int .i64 x1.fn.f, .int .i64 x1.fn.g, .string (bs x1.fn.name), .slice yb x1.fn.body.len ybc, .slice yk x1.kids.len ykc] := hJ.val 11 _ rfl (hdep 11 (by decide))
              have a41 : A.tmps[41]? = some (vs 41) := hv 41 (by decide)
              rw [e11] at a41
              refine step_free rfl rfl (fun K' hK => ?_)
              clear hv hdep
              go_simp
              go_at_call 48
              refine (ct1 V hgr).mono ?_
              rintro e W ⟨⟨u, rfl, ru⟩, b⟩
              exact hK _ _ ⟨_, .inr ⟨42, _, by decide, rfl, rfl⟩, hJ.step hst hsl 12 _ rfl (fun h => absurd h (by decide)) b _ (ru.mono hle)⟩
            · have e0 : Row V w.heap.size (vs 30) T0 := hJ.val 0 _ rfl (hdep 0 (by decide))
              have a30 : A.tmps[30]? = some (vs 30) := hv 30 (by decide)
              obtain ⟨s30a, s30c, q30⟩ := Row.slice e0
              rw [q30] at a30 e0
              have e5 : Row V w.heap.size (vs 35) E0 := hJ.val 5 _ rfl (hdep 5 (by decide))
              have a35 : A.tmps[35]? = some (vs 35) := hv 35 (by decide)
              obtain ⟨s35a, s35c, q35⟩ := Row.slice e5
              rw [q35] at a35 e5
              have e7 : Row V w.heap.size (vs 37) [gl gColon] := hJ.val 7 _ rfl (hdep 7 (by decide))
              have a37 : A.tmps[37]? = some (vs 37) := hv 37 (by decide)
              obtain ⟨s37a, s37c, q37⟩ := Row.slice e7
              rw [q37] at a37 e7
              have e12 : Row V w.heap.size (vs 42) E1 := hJ.val 12 _ rfl (hdep 12 (by decide))
              have a42 : A.tmps[42]? = some (vs 42) := hv 42 (by decide)
              obtain ⟨s42a, s42c, q42⟩ := Row.slice e12
              rw [q42] at a42 e12
              refine step_free rfl rfl (fun K' hK => ?_)
              clear hv hdep
              go_simp
              exact hK _ _ ⟨_, .inr ⟨43, _, by decide, rfl, rfl⟩, hJ.step hst hsl 13 _ rfl (fun h => absurd h (by decide)) ((Below.refl _ _).alloc (Nat.le_refl _) _) _ (rows4 (heap_alloc_new V _) (Row.below e0 ((Below.refl _ _).alloc (Nat.le_refl _) _)) (Row.below e5 ((Below.refl _ _).alloc (Nat.le_refl _) _)) (Row.below e7 ((Below.refl _ _).alloc (Nat.le_refl _) _)) (Row.below e12 ((Below.refl _ _).alloc (Nat.le_refl _) _)))⟩
            · have e13 : IsRowsT w.heap.size [T0, E0, [gl gColon], E1] (vs 43) V := hJ.val 13 _ rfl (hdep 13 (by decide))
              have a43 : A.tmps[43]? = some (vs 43) := hv 43 (by decide)
              have Hcc := hid (tconcat_row _ _ _ V e13 (by simp only [List.flatten_cons, List.flatten_nil, List.append_nil, List.length_append, List.length_cons, List.length_nil]; omega) (by simp) hle)
              refine step_free rfl rfl (fun K' hK => ?_)
              clear hv hdep
              go_simp
              go_at_call 70
              refine Hcc.out.mono ?_
              rintro e W ⟨⟨u, rfl, ru⟩, b⟩
              exact hK _ _ ⟨_, .inr ⟨44, _, by decide, rfl, rfl⟩, hJ.step hst hsl 14 _ rfl (fun h => absurd h (by decide)) b _ (ru)⟩
            · have e14 : Row V w.heap.size (vs 44) _ := hJ.val 14 _ rfl (hdep 14 (by decide))
              have a44 : A.tmps[44]? = some (vs 44) := hv 44 (by decide)
              have o0 := hdep 0 (by decide)
              refine step_free rfl rfl (fun K' hK => ?_)
              clear hv hdep
              go_simp
              exact hK _ _ ⟨_, .inr ⟨3, _, by decide, rfl, rfl⟩, hJ.step hst hsl 15 _ rfl (fun _ => .inl o0) (Below.refl _ _) _ (e14)⟩
          · intro d vs V hall hJ
            have h2 := hJ.val 15 _ rfl (hall 15 (show 15 < 16 by decide))
            have h2 : Row V w.heap.size (vs 3) _ := h2
            have hBV := hJ.gr
            clear hall hJ hst hsl
            simp only [puts, List.foldl_cons, List.foldl_nil, Act.put, List.setIfInBounds_toArray, List.set_cons_zero, List.set_cons_succ, Nat.reduceAdd]
            generalize vs 3 = r at *
            go_wp2_with fail
            go_roundw
            case rel => exact ⟨k + 1, by omega, by go_num, by rw [← HTE.out]; exact h2, hB2.trans (hBV.mono hB2.size)⟩
            case measure => simp [intOf]; omega
        · have t3 : (y.kind == 3) = false := by simpa using h3
          by_cases h2 : y.kind = 2
          · have t2 : (y.kind == 2) = true := by simp [h2]
            have htx : textL y = nm y.name :: gl gGets :: textE x0 := by rw [textL_of y hoy x0 hx0]; unfold lnT1; rw [if_neg h3, if_pos h2]
            have hlen3 : T0.length + (2 + (textE x0).length) ≤ 500000 := by have := hlenT; rw [htx] at this; simp only [List.length_append, List.length_cons] at this; omega
            have ct0 := fun V (hV : Below w2.heap.size w2 V) => hC x0 (.agg #[.int .i64 x0.kind, .string (bs x0.name), .int .i64 x0.val.kind, .slice xa x0.val.shape.length xc, .slice xe x0.val.elems.length xec, .int .i64 x0.fn.kind, .int .i64 x0.fn.f, .int .i64 x0.fn.g, .string (bs x0.fn.name), .slice xb x0.fn.body.len xbc, .slice xk x0.kids.len xkc]) V hzx0 hox0 hwx0 (hIE V hV) (hGy V hV) (by omega)
            have HTE : Hid ([T0, [nm y.name, gl gGets], textE x0].flatten = joinG gDia ((X.take (k + 1)).map textL)) := hid (by rw [← HT0.out, htx]; simp)
            generalize textE x0 = E0 at *
            clear h3 h2 hkids hkid1 hfacts htx hIE hlenT HT0
            go_upto_region 12 with fail
            have hsl := slA_inj (b := 47) (l := 3) (n := 13) (by decide)
            have hst : ∀ qq ∈ [isR w.heap.size T0, isV (.pointer (some ⟨LB, 1, none⟩)), isV (.string (bs y.name)), isV (.agg #[.int .i64 2, .string (bs y.name), .int .i64 0, .slice none 0 0, .slice none 0 0]), isV (.agg #[.int .i64 3, .string ⟨#[226, 134, 144]⟩, .int .i64 0, .slice none 0 0, .slice none 0 0]), isR w.heap.size [nm y.name, gl gGets], isV (.pointer (some ⟨LB, 2, none⟩)), isV (.slice (some ⟨kb, ko, none⟩) y.kids.len kc), isV (.pointer (some ⟨kb, ko, none⟩)), isV (.agg #[.int .i64 x0.kind, .string (bs x0.name), .int .i64 x0.val.kind, .slice xa x0.val.shape.length xc, .slice xe x0.val.elems.length xec, .int .i64 x0.fn.kind, .int .i64 x0.fn.f, .int .i64 x0.fn.g, .string (bs x0.fn.name), .slice xb x0.fn.body.len xbc, .slice xk x0.kids.len xkc]), isR w.heap.size E0, isRs w.heap.size [T0, [nm y.name, gl gGets], E0], isR w.heap.size [T0, [nm y.name, gl gGets], E0].flatten, isR w.heap.size [T0, [nm y.name, gl gGets], E0].flatten], Steady qq := steady_cons (steadyR _ _) (steady_cons (steadyV _) (steady_cons (steadyV _) (steady_cons (steadyV _) (steady_cons (steadyV _) (steady_cons (steadyR _ _) (steady_cons (steadyV _) (steady_cons (steadyV _) (steady_cons (steadyV _) (steady_cons (steadyV _) (steady_cons (steadyR _ _) (steady_cons (steadyRs _ _) (steady_cons (steadyR _ _) (steady_cons (steadyR _ _) (steady_nil))))))))))))))
            refine region_vals [47, 48, 49, 50, 51, 52, 53, 54, 55, 56, 57, 58, 59, 3] (by decide) _ (RP w2 13 (v2) (slA 47 3 13) [isR w.heap.size T0, isV (.pointer (some ⟨LB, 1, none⟩)), isV (.string (bs y.name)), isV (.agg #[.int .i64 2, .string (bs y.name), .int .i64 0, .slice none 0 0, .slice none 0 0]), isV (.agg #[.int .i64 3, .string ⟨#[226, 134, 144]⟩, .int .i64 0, .slice none 0 0, .slice none 0 0]), isR w.heap.size [nm y.name, gl gGets], isV (.pointer (some ⟨LB, 2, none⟩)), isV (.slice (some ⟨kb, ko, none⟩) y.kids.len kc), isV (.pointer (some ⟨kb, ko, none⟩)), isV (.agg #[.int .i64 x0.kind, .string (bs x0.name), .int .i64 x0.val.kind, .slice xa x0.val.shape.length xc, .slice xe x0.val.elems.length xec, .int .i64 x0.fn.kind, .int .i64 x0.fn.f, .int .i64 x0.fn.g, .string (bs x0.fn.name), .slice xb x0.fn.body.len xbc, .slice xk x0.kids.len xkc]), isR w.heap.size E0, isRs w.heap.size [T0, [nm y.name, gl gGets], E0], isR w.heap.size [T0, [nm y.name, gl gGets], E0].flatten, isR w.heap.size [T0, [nm y.name, gl gGets], E0].flatten]) (fun k => if k = 3 then v2 else if k = 47 then u47 else if k = 48 then u48 else if k = 49 then u49 else if k = 50 then u50 else if k = 51 then u51 else if k = 52 then u52 else if k = 53 then u53 else if k = 54 then u54 else if k = 55 then u55 else if k = 56 then u56 else if k = 57 then u57 else if k = 58 then u58 else if k = 59 then u59 else undef) (by kernel_rfl) (by kernel_rfl) rfl (by kernel_rfl) (by kernel_rfl) (RP.start rfl) ?_ ?_
            · intro i hi d vs V A hfar hv hd hdep hJ
              have hi2 : i < 14 := hi
              have hgr := hJ.gr
              have hle : w.heap.size ≤ V.heap.size := Nat.le_trans hWz hgr.size
              have p5 : A.tmps[5]? = some (.pointer (some ⟨LB, 0, none⟩)) := (hfar 5 (by decide)).trans rfl
              clear hfar hi
              rcases (by omega : i = 0 ∨ i = 1 ∨ i = 2 ∨ i = 3 ∨ i = 4 ∨ i = 5 ∨ i = 6 ∨ i = 7 ∨ i = 8 ∨ i = 9 ∨ i = 10 ∨ i = 11 ∨ i = 12 ∨ i = 13) with rfl | rfl | rfl | rfl | rfl | rfl | rfl | rfl | rfl | rfl | rfl | rfl | rfl | rfl
              · have z0 : vs 3 = v2 := hJ.first hd
                have a3 : A.tmps[3]? = some (vs 3) := hv 3 (by decide)
                rw [z0] at a3
                refine step_free rfl rfl (fun K' hK => ?_)
                clear hv hdep
                go_simp
                exact hK _ _ ⟨_, .inr ⟨47, _, by decide, rfl, rfl⟩, hJ.step hst hsl 0 _ rfl (fun h => absurd h (by decide)) (Below.refl _ _) _ (r0.below hgr)⟩
              · refine step_free rfl rfl (fun K' hK => ?_)
                clear hv hdep
                go_simp
                exact hK _ _ ⟨_, .inr ⟨48, _, by decide, rfl, rfl⟩, hJ.step hst hsl 1 _ rfl (fun h => absurd h (by decide)) (Below.refl _ _) _ (rfl)⟩
              · have e1 : vs 48 = .pointer (some ⟨LB, 1, none⟩) := hJ.val 1 _ rfl (hdep 1 (by decide))
                have a48 : A.tmps[48]? = some (vs 48) := hv 48 (by decide)
                rw [e1] at a48
                refine step_free rfl rfl (fun K' hK => ?_)
                clear hv hdep
                obtain ⟨d0, d1, d2⟩ := (ln_facts (hLn V hgr)).1
                go_simp
                exact hK _ _ ⟨_, .inr ⟨49, _, by decide, rfl, rfl⟩, hJ.step hst hsl 2 _ rfl (fun h => absurd h (by decide)) (Below.refl _ _) _ (rfl)⟩
              · have e2 : vs 49 = .string (bs y.name) := hJ.val 2 _ rfl (hdep 2 (by decide))
                have a49 : A.tmps[49]? = some (vs 49) := hv 49 (by decide)
                rw [e2] at a49
                refine step_free rfl rfl (fun K' hK => ?_)
                clear hv hdep
                go_simp
                go_at_call 44
                refine (tnamed_any _ _).mono ?_
                rintro e W ⟨rfl, b⟩
                exact hK _ _ ⟨_, .inr ⟨50, _, by decide, rfl, rfl⟩, hJ.step hst hsl 3 _ rfl (fun h => absurd h (by decide)) b _ (rfl)⟩
              · refine step_free rfl rfl (fun K' hK => ?_)
                clear hv hdep
                go_simp
                go_at_call 45
                refine (tglyph_any _ _).mono ?_
                rintro e W ⟨rfl, b⟩
                exact hK _ _ ⟨_, .inr ⟨51, _, by decide, rfl, rfl⟩, hJ.step hst hsl 4 _ rfl (fun h => absurd h (by decide)) b _ (rfl)⟩
              · have e3 : vs 50 = .agg #[.int .i64 2, .string (bs y.name), .int .i64 0, .slice none 0 0, .slice none 0 0] := hJ.val 3 _ rfl (hdep 3 (by decide))
                have a50 : A.tmps[50]? = some (vs 50) := hv 50 (by decide)
                rw [e3] at a50
                have e4 : vs 51 = .agg #[.int .i64 3, .string ⟨#[226, 134, 144]⟩, .int .i64 0, .slice none 0 0, .slice none 0 0] := hJ.val 4 _ rfl (hdep 4 (by decide))
                have a51 : A.tmps[51]? = some (vs 51) := hv 51 (by decide)
                rw [e4] at a51
                refine step_free rfl rfl (fun K' hK => ?_)
                clear hv hdep
                go_simp
                exact hK _ _ ⟨_, .inr ⟨52, _, by decide, rfl, rfl⟩, hJ.step hst hsl 5 _ rfl (fun h => absurd h (by decide)) ((Below.refl _ _).alloc (Nat.le_refl _) _) _ (Row.lit (us := [glC 2 (bs y.name), glC 3 ⟨#[226, 134, 144]⟩]) (T := [nm y.name, gl gGets]) (heap_alloc_new V _) hle ⟨own_nm _ _ _, own_gl _ _ gGets, trivial⟩ 2 rfl (by simp))⟩
              · refine step_free rfl rfl (fun K' hK => ?_)
                clear hv hdep
                go_simp
                exact hK _ _ ⟨_, .inr ⟨53, _, by decide, rfl, rfl⟩, hJ.step hst hsl 6 _ rfl (fun h => absurd h (by decide)) (Below.refl _ _) _ (rfl)⟩
              · have e6 : vs 53 = .pointer (some ⟨LB, 2, none⟩) := hJ.val 6 _ rfl (hdep 6 (by decide))
                have a53 : A.tmps[53]? = some (vs 53) := hv 53 (by decide)
                rw [e6] at a53
                refine step_free rfl rfl (fun K' hK => ?_)
                clear hv hdep
                obtain ⟨d0, d1, d2⟩ := (ln_facts (hLn V hgr)).1
                go_simp
                exact hK _ _ ⟨_, .inr ⟨54, _, by decide, rfl, rfl⟩, hJ.step hst hsl 7 _ rfl (fun h => absurd h (by decide)) (Below.refl _ _) _ (rfl)⟩
              · have e7 : vs 54 = .slice (some ⟨kb, ko, none⟩) y.kids.len kc := hJ.val 7 _ rfl (hdep 7 (by decide))
                have a54 : A.tmps[54]? = some (vs 54) := hv 54 (by decide)
                rw [e7] at a54
                refine step_free rfl rfl (fun K' hK => ?_)
                clear hv hdep
                go_simp
                exact hK _ _ ⟨_, .inr ⟨55, _, by decide, rfl, rfl⟩, hJ.step hst hsl 8 _ rfl (fun h => absurd h (by decide)) (Below.refl _ _) _ (rfl)⟩
              · have e8 : vs 55 = .pointer (some ⟨kb, ko, none⟩) := hJ.val 8 _ rfl (hdep 8 (by decide))
                have a55 : A.tmps[55]? = some (vs 55) := hv 55 (by decide)
                rw [e8] at a55
                refine step_free rfl rfl (fun K' hK => ?_)
                clear hv hdep
                obtain ⟨d0, d1, d2, d3, d4, d5, d6, d7, d8, d9, d10⟩ := hKid V hgr
                go_simp
                exact hK _ _ ⟨_, .inr ⟨56, _, by decide, rfl, rfl⟩, hJ.step hst hsl 9 _ rfl (fun h => absurd h (by decide)) (Below.refl _ _) _ (rfl)⟩
              · have e9 : vs 56 = .agg #[.int .i64 x0.kind, .string (bs x0.name), .int .i64 x0.val.kind, .slice xa x0.val.shape.length xc, .slice xe x0.val.elems.length xec, .int .i64 x0.fn.kind, .int .i64 x0.fn.f, .int .i64 x0.fn.g, .string (bs x0.fn.name), .slice xb x0.fn.body.len xbc, .slice xk x0.kids.len xkc] := hJ.val 9 _ rfl (hdep 9 (by decide))
                have a56 : A.tmps[56]? = some (vs 56) := hv 56 (by decide)
                rw [e9] at a56
                refine step_free rfl rfl (fun K' hK => ?_)
                clear hv hdep
                go_simp
                go_at_call 48
                refine (ct0 V hgr).mono ?_
                rintro e W ⟨⟨u, rfl, ru⟩, b⟩
                exact hK _ _ ⟨_, .inr ⟨57, _, by decide, rfl, rfl⟩, hJ.step hst hsl 10 _ rfl (fun h => absurd h (by decide)) b _ (ru.mono hle)⟩
              · have e0 : Row V w.heap.size (vs 47) T0 := hJ.val 0 _ rfl (hdep 0 (by decide))
                have a47 : A.tmps[47]? = some (vs 47) := hv 47 (by decide)
                obtain ⟨s47a, s47c, q47⟩ := Row.slice e0
                rw [q47] at a47 e0
                have e5 : Row V w.heap.size (vs 52) [nm y.name, gl gGets] := hJ.val 5 _ rfl (hdep 5 (by decide))
                have a52 : A.tmps[52]? = some (vs 52) := hv 52 (by decide)
                obtain ⟨s52a, s52c, q52⟩ := Row.slice e5
                rw [q52] at a52 e5
                have e10 : Row V w.heap.size (vs 57) E0 := hJ.val 10 _ rfl (hdep 10 (by decide))
                have a57 : A.tmps[57]? = some (vs 57) := hv 57 (by decide)
                obtain ⟨s57a, s57c, q57⟩ := Row.slice e10
                rw [q57] at a57 e10
                refine step_free rfl rfl (fun K' hK => ?_)
                clear hv hdep
                go_simp
                exact hK _ _ ⟨_, .inr ⟨58, _, by decide, rfl, rfl⟩, hJ.step hst hsl 11 _ rfl (fun h => absurd h (by decide)) ((Below.refl _ _).alloc (Nat.le_refl _) _) _ (rows3 (heap_alloc_new V _) (Row.below e0 ((Below.refl _ _).alloc (Nat.le_refl _) _)) (Row.below e5 ((Below.refl _ _).alloc (Nat.le_refl _) _)) (Row.below e10 ((Below.refl _ _).alloc (Nat.le_refl _) _)))⟩
              · have e11 : IsRowsT w.heap.size [T0, [nm y.name, gl gGets], E0] (vs 58) V := hJ.val 11 _ rfl (hdep 11 (by decide))
                have a58 : A.tmps[58]? = some (vs 58) := hv 58 (by decide)
                have Hcc := hid (tconcat_row _ _ _ V e11 (by simp only [List.flatten_cons, List.flatten_nil, List.append_nil, List.length_append, List.length_cons, List.length_nil]; omega) (by simp) hle)
                refine step_free rfl rfl (fun K' hK => ?_)
                clear hv hdep
                go_simp
                go_at_call 70
                refine Hcc.out.mono ?_
                rintro e W ⟨⟨u, rfl, ru⟩, b⟩
                exact hK _ _ ⟨_, .inr ⟨59, _, by decide, rfl, rfl⟩, hJ.step hst hsl 12 _ rfl (fun h => absurd h (by decide)) b _ (ru)⟩
              · have e12 : Row V w.heap.size (vs 59) _ := hJ.val 12 _ rfl (hdep 12 (by decide))
                have a59 : A.tmps[59]? = some (vs 59) := hv 59 (by decide)
                have o0 := hdep 0 (by decide)
                refine step_free rfl rfl (fun K' hK => ?_)
                clear hv hdep
                go_simp
                exact hK _ _ ⟨_, .inr ⟨3, _, by decide, rfl, rfl⟩, hJ.step hst hsl 13 _ rfl (fun _ => .inl o0) (Below.refl _ _) _ (e12)⟩
            · intro d vs V hall hJ
              have h2 := hJ.val 13 _ rfl (hall 13 (show 13 < 14 by decide))
              have h2 : Row V w.heap.size (vs 3) _ := h2
              have hBV := hJ.gr
              clear hall hJ hst hsl
              simp only [puts, List.foldl_cons, List.foldl_nil, Act.put, List.setIfInBounds_toArray, List.set_cons_zero, List.set_cons_succ, Nat.reduceAdd]
              generalize vs 3 = r at *
              go_wp2_with fail
              go_roundw
              case rel => exact ⟨k + 1, by omega, by go_num, by rw [← HTE.out]; exact h2, hB2.trans (hBV.mono hB2.size)⟩
              case measure => simp [intOf]; omega
          · have t2 : (y.kind == 2) = false := by simpa using h2
            have htx : textL y = textE x0 := by rw [textL_of y hoy x0 hx0]; unfold lnT1; rw [if_neg h3, if_neg h2]
            have hlen3 : T0.length + (textE x0).length ≤ 500000 := by have := hlenT; rw [htx] at this; exact this
            have Ht0 := hid (hC x0 (.agg #[.int .i64 x0.kind, .string (bs x0.name), .int .i64 x0.val.kind, .slice xa x0.val.shape.length xc, .slice xe x0.val.elems.length xec, .int .i64 x0.fn.kind, .int .i64 x0.fn.f, .int .i64 x0.fn.g, .string (bs x0.fn.name), .slice xb x0.fn.body.len xbc, .slice xk x0.kids.len xkc]) w2 hzx0 hox0 hwx0 (hIE w2 (Below.refl _ _)) (hGy w2 (Below.refl _ _)) (by omega))
            have HTE : Hid (T0 ++ textE x0 = joinG gDia ((X.take (k + 1)).map textL)) := hid (by rw [← HT0.out, htx])
            generalize textE x0 = E0 at *
            obtain ⟨d0, d1, d2, d3, d4, d5, d6, d7, d8, d9, d10⟩ := hKid w2 (Below.refl _ _)
            clear h3 h2 hkids hkid1 hfacts htx hIE hlenT HT0
            go_wp2_with fail
            refine Ht0.out.mono ?_
            rintro e w3 ⟨⟨u, rfl, ru⟩, b3⟩
            have hz3 := hB2.trans (b3.mono hB2.size)
            clear Ht0 c0 c1 c2 d0 d1 d2 d3 d4 d5 d6 d7 d8 d9 d10 hKid hLn
            go_wp2_with (at_builtin; go_must (refine append_row rfl _ _ rfl w.heap.size _ _ T0 E0 rfl rfl (r0.below b3) (ru.mono hWz) (by omega) hz3.size ?_); intro v4 w4 r4 b4)
            go_roundw
            case rel => exact ⟨k + 1, by omega, by go_num, by rw [← HTE.out]; exact r4, hz3.trans ((r0.below b3).grown b4 hz3.size)⟩
            case measure => simp [intOf]; omega
    · obtain rfl : k = X.length := by omega
      have hki : ¬ (X.length : Int) < (X.length : Int) := by omega
      have ht : X.take X.length = X := List.take_length
      rw [ht] at hrow
      clear ht hX hall
      go_wp2_with fail
      go_ret
      exact ⟨⟨_, rfl, hrow⟩, hB⟩
end Go.Proofs.YtijfnnjgcgmnaaaGreatDoor.Par
