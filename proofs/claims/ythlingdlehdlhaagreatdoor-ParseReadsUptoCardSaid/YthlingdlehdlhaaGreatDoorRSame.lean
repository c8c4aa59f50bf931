/- The reference's: whether two trees are the same.
   The reference's: whether two statements are the same. -/
import Derived.Test.YthlingdlehdlhaaGreatDoorPE
import Derived.Test.YthlingdlehdlhaaGreatDoorChars
import Derived.Deep.Cut
import Derived.StillTailTactics
namespace Go.Proofs.YthlingdlehdlhaaGreatDoor.Par
open Go.RowKit Go.Shelf
set_option linter.unusedVariables false
set_option linter.unusedSimpArgs false

def RExsC (k : Nat) : Prop := ∀ (s t : Tr) (va vb : Value) (w : World), s.sz ≤ k → s.ok true = true → t.ok true = true → IsTs w va s → IsTs w vb t →
  Calls Tryz.prog 40 #[va, vb] w fun e w' => e = .returned (.bool (decide (s = t))) ∧ Below w.heap.size w w'
def RLnsC (k : Nat) : Prop := ∀ (s t : Tr) (va vb : Value) (w : World), s.sz ≤ k → s.ok false = true → t.ok false = true → IsTs w va s → IsTs w vb t →
  Calls Tryz.prog 41 #[va, vb] w fun e w' => e = .returned (.bool (decide (s = t))) ∧ Below w.heap.size w w'
def RFunsC (k : Nat) : Prop := ∀ (x y : Fn) (va vb : Value) (w : World), x.body.sz ≤ k → x.body.ok false = true → y.body.ok false = true → IsF w va x → IsF w vb y →
  Calls Tryz.prog 93 #[va, vb] w fun e w' => e = .returned (.bool (decide (x = y))) ∧ Below w.heap.size w w'
set_option maxRecDepth 100000 in
set_option maxHeartbeats 8000000 in
theorem rfuns_step (kk : Nat) (hC : RLnsC kk) : RFunsC kk := by
  intro x y va vb w hz hx hy ix iy
  obtain ⟨xv, rfl, xi⟩ := ix
  obtain ⟨yv, rfl, yi⟩ := iy
  obtain ⟨xb, xbc, rfl, -⟩ := xi.parts
  obtain ⟨yb, ybc, rfl, -⟩ := yi.parts
  obtain ⟨D, hD⟩ : ∃ d, decide (x = y) = d := ⟨_, rfl⟩
  rw [hD]
  have HD := hid hD.symm
  clear hD
  go_enter Tryz.func93, Tryz.ntmps93
  go_upto_region 1 with fail
  obtain ⟨hX, hY, hB⟩ := two_new w (.cells #[.int .i64 x.kind, .int .i64 x.f, .int .i64 x.g, .string (bs x.name), .slice xb x.body.len xbc] 33) (.cells #[.int .i64 y.kind, .int .i64 y.f, .int .i64 y.g, .string (bs y.name), .slice yb y.body.len ybc] 33)
  generalize (w.alloc (.cells #[.int .i64 x.kind, .int .i64 x.f, .int .i64 x.g, .string (bs x.name), .slice xb x.body.len xbc] 33)).alloc (.cells #[.int .i64 y.kind, .int .i64 y.f, .int .i64 y.g, .string (bs y.name), .slice yb y.body.len ybc] 33) = w2 at *
  have hXl := (Array.getElem?_eq_some_iff.1 hX).1
  have hYl := (Array.getElem?_eq_some_iff.1 hY).1
  obtain ⟨c0, c1, c2, c3, c4⟩ := (fn_facts hX).1
  obtain ⟨d0, d1, d2, d3, d4⟩ := (fn_facts hY).1
  have hcall := hC x.body y.body _ _ w2 hz hx hy (xi.below hB) (yi.below hB)
  obtain ⟨R, hR⟩ : ∃ r, decide (x.body = y.body) = r := ⟨_, rfl⟩
  rw [hR] at hcall
  have HR := hid hR
  clear hR
  go_wp2_with fail
  refine hcall.mono ?_
  rintro e w3 ⟨rfl, b3⟩
  have hX3 := (b3.block _ hXl).trans hX
  have hY3 := (b3.block _ hYl).trans hY
  have hB3 := hB.trans (b3.mono hB.size)
  clear c0 c1 c2 c3 c4 d0 d1 d2 d3 d4 hcall
  obtain ⟨c0, c1, c2, c3, c4⟩ := (fn_facts hX3).1
  obtain ⟨d0, d1, d2, d3, d4⟩ := (fn_facts hY3).1
  clear hX hY hX3 hY3
  by_cases h0 : x.kind = y.kind
  · have t0 : (x.kind == y.kind) = true := by simp [h0]
    have h0 := hid h0
    by_cases h1 : x.f = y.f
    · have t1 : (x.f == y.f) = true := by simp [h1]
      have h1 := hid h1
      by_cases h2 : x.g = y.g
      · have t2 : (x.g == y.g) = true := by simp [h2]
        have h2 := hid h2
        by_cases h3 : x.name = y.name
        · have t3 : ((bs x.name).toList == (bs y.name).toList) = true := by rw [bs_txt]; exact decide_eq_true h3
          have h3 := hid h3
          have HN : Hid (D = R) := hid (by
            rw [HD.out, ← HR.out, Bool.eq_iff_iff, decide_eq_true_eq, decide_eq_true_eq]
            have e0 := h0.out
            have e1 := h1.out
            have e2 := h2.out
            have e3 := h3.out
            obtain ⟨k, f, g, n, ks⟩ := x
            obtain ⟨k', f', g', n', ks'⟩ := y
            simp only at e0 e1 e2 e3
            subst e0 e1 e2 e3
            simp)
          clear HD
          go_wp2_with fail
          go_ret
          exact ⟨by rw [HN.out]; rfl, hB3⟩
        · have t3 : ((bs x.name).toList == (bs y.name).toList) = false := by rw [bs_txt]; exact decide_eq_false h3
          have HN : Hid (D = false) := hid (by rw [HD.out]; exact decide_eq_false (fun e => h3 (by rw [e])))
          clear HD h3
          go_wp2_with fail
          go_ret
          exact ⟨by rw [HN.out]; rfl, hB3⟩
      · have t2 : (x.g == y.g) = false := by simpa using h2
        have HN : Hid (D = false) := hid (by rw [HD.out]; exact decide_eq_false (fun e => h2 (by rw [e])))
        clear HD h2
        go_wp2_with fail
        go_ret
        exact ⟨by rw [HN.out]; rfl, hB3⟩
    · have t1 : (x.f == y.f) = false := by simpa using h1
      have HN : Hid (D = false) := hid (by rw [HD.out]; exact decide_eq_false (fun e => h1 (by rw [e])))
      clear HD h1
      go_wp2_with fail
      go_ret
      exact ⟨by rw [HN.out]; rfl, hB3⟩
  · have t0 : (x.kind == y.kind) = false := by simpa using h0
    have HN : Hid (D = false) := hid (by rw [HD.out]; exact decide_eq_false (fun e => h0 (by rw [e])))
    clear HD h0
    go_wp2_with fail
    go_ret
    exact ⟨by rw [HN.out]; rfl, hB3⟩
set_option maxRecDepth 100000 in
set_option maxHeartbeats 8000000 in
theorem rlines_step (kk : Nat) (hC : RExsC kk) : RLnsC kk := by
  intro s t va vb w hz hs ht hx hy
  have hdec : decide (s = t) = decide (lnsOf s = lnsOf t) := by
    rw [Bool.eq_iff_iff, decide_eq_true_eq, decide_eq_true_eq]
    exact ⟨fun e => by rw [e], fun e => lns_inj s t hs ht e⟩
  rw [hdec]
  have hoks := fun y (hy : y ∈ lnsOf s) => And.intro (lns_ok s hs y hy) (Nat.le_trans (Nat.le_succ _) (Nat.le_trans (lns_sz s y hy) hz))
  have hokt := lns_ok t ht
  obtain ⟨a, cap, rfl, h1, h2, h3, hc⟩ := hx
  obtain ⟨a', cap', rfl, h1', h2', h3', hc'⟩ := hy
  rw [lns_len s hs] at *
  rw [lns_len t ht] at *
  have hX : 0 < (lnsOf s).length → ∃ b o, a = some ⟨b, o, none⟩ ∧ ∀ V, Below w.heap.size w V → ∀ k x, (lnsOf s)[k]? = some x → _ := fun h => by
    obtain ⟨b, o, e, hat⟩ := hc h
    exact ⟨b, o, e, fun V hV => at_ln V s b o (hat.soft (Soft.of_below hV) s b o)⟩
  have hY : 0 < (lnsOf t).length → ∃ b o, a' = some ⟨b, o, none⟩ ∧ ∀ V, Below w.heap.size w V → ∀ k x, (lnsOf t)[k]? = some x → _ := fun h => by
    obtain ⟨b, o, e, hat⟩ := hc' h
    exact ⟨b, o, e, fun V hV => at_ln V t b o (hat.soft (Soft.of_below hV) t b o)⟩
  generalize lnsOf s = X at *
  generalize lnsOf t = Y at *
  clear hc hc' hs ht hdec hz
  go_enter Tryz.func41, Tryz.ntmps41
  by_cases hlen : X.length = Y.length
  · have t3 : ((X.length : Int) != (Y.length : Int)) = false := by simp [hlen]
    have Hlen := hid hlen
    have hlen' : ¬ X.length < Y.length := by omega
    have hlen2 : ¬ Y.length < X.length := by omega
    clear hlen
    go_wp2_with fail
    go_loopw [5] (fun i wr => ∃ k : Nat, k ≤ X.length ∧ i = .int .i64 k ∧ Hid (X.take k = Y.take k) ∧ Below w.heap.size w wr) (fun i _ => X.length - (intOf i).toNat)
    case atStart => exact ⟨0, by omega, rfl, hid (by simp), Below.refl _ _⟩
    case round =>
      obtain ⟨k, hk, rfl, Ht, hB⟩ := hrel
      by_cases hlt : k < X.length
      · have hkX : X[k]? = some X[k] := List.getElem?_eq_getElem hlt
        have hkY : Y[k]? = some (Y[k]'(by omega)) := List.getElem?_eq_getElem (by omega)
        generalize X[k] = x at *
        generalize Y[k]'(by omega) = y at *
        obtain ⟨b, o, rfl, hX1⟩ := hX (by omega)
        obtain ⟨b', o', rfl, hY1⟩ := hY (by omega)
        obtain ⟨hox, hzx⟩ := hoks x (List.mem_of_getElem? hkX)
        have hoy := hokt y (List.mem_of_getElem? hkY)
        obtain ⟨xvc, ⟨c0, c1, c2⟩, x5⟩ := hX1 wr hB k x hkX
        obtain ⟨yvc, ⟨d0, d1, d2⟩, y5⟩ := hY1 wr hB k y hkY
        obtain ⟨xk, xkc, rfl, -⟩ := x5.parts
        obtain ⟨yk, ykc, rfl, -⟩ := y5.parts
        have T4 := hid (take_one X k x hkX)
        have T5 := hid (take_one Y k y hkY)
        have hki : (k : Int) < (X.length : Int) := by omega
        have hki' : (k : Int) < (Y.length : Int) := by omega
        have hcall := fun V (hV : Below wr.heap.size wr V) => hC x.kids y.kids _ _ V hzx hox hoy (x5.below hV) (y5.below hV)
        obtain ⟨R, hR⟩ : ∃ r, decide (x.kids = y.kids) = r := ⟨_, rfl⟩
        rw [hR] at hcall
        have HR := hid hR
        clear hR hkX hkY hX1 hY1 hX hY hoks hokt x5 y5
        go_upto_region 6 with fail
        go_still_tail 10, (by kernel_rfl)
        go_wp2_with fail
        refine (hcall _ (Below.refl _ _).drew).mono ?_
        rintro e w2 ⟨rfl, b2⟩
        have hB2 := hB.drew.trans (b2.mono hB.size)
        have hbr := (Below.refl wr.heap.size wr).drew.trans b2
        replace c0 := (hbr.cell (World.block_lt_of_cell? wr _ c0)).trans c0
        replace c1 := (hbr.cell (World.block_lt_of_cell? wr _ c1)).trans c1
        replace d0 := (hbr.cell (World.block_lt_of_cell? wr _ d0)).trans d0
        replace d1 := (hbr.cell (World.block_lt_of_cell? wr _ d1)).trans d1
        clear c2 d2 hcall hbr b2
        have hxy : x = y ↔ x.kind = y.kind ∧ x.name = y.name ∧ R = true := by
          rw [← HR.out, decide_eq_true_eq]
          obtain ⟨k1, n1, s1⟩ := x
          obtain ⟨k2, n2, s2⟩ := y
          simp
        have Hxy := hid hxy
        clear hxy HR
        have good : x = y → X.take (k + 1) = Y.take (k + 1) := fun e => by rw [T4.out, T5.out, Ht.out, e]
        have bad : x ≠ y → X ≠ Y := fun hn e => by
          rw [e] at T4; have := T4.out.symm.trans T5.out; simp at this; exact hn this
        have Good := hid good
        have Bad := hid bad
        clear good bad
        by_cases h0 : x.kind = y.kind
        · have t0 : (x.kind != y.kind) = false := by simp [h0]
          by_cases h1 : x.name = y.name
          · have t1 : ((bs x.name).toList != (bs y.name).toList) = false := by rw [bne, bs_txt, decide_eq_true h1]; rfl
            have t1b : ((bs x.name).toList == (bs y.name).toList) = true := by rw [bs_txt]; exact decide_eq_true h1
            have H0 := hid h0
            have H1 := hid h1
            clear h0 h1
            cases R with
            | true =>
              have HN : Hid (X.take (k + 1) = Y.take (k + 1)) := hid (Good.out (Hxy.out.2 ⟨H0.out, H1.out, rfl⟩))
              clear Good Bad Hxy
              go_upto_region 7 with fail
              go_quiet (fail)
              go_wp2
              go_roundw
              case rel => exact ⟨k + 1, by omega, by go_num, HN, below_drewN hB2 _⟩
              case measure => simp [intOf]; omega
            | false =>
              have HN : Hid (X ≠ Y) := hid (Bad.out (fun e => by have := (Hxy.out.1 e).2.2; cases this))
              clear Good Bad Hxy
              go_upto_region 7 with fail
              go_quiet (fail)
              go_wp2
              go_ret
              exact ⟨by rw [decide_eq_false HN.out]; rfl, below_drewN hB2 _⟩
          · have t1 : ((bs x.name).toList != (bs y.name).toList) = true := by rw [bne, bs_txt, decide_eq_false h1]; rfl
            have t1b : ((bs x.name).toList == (bs y.name).toList) = false := by rw [bs_txt]; exact decide_eq_false h1
            have HN : Hid (X ≠ Y) := hid (Bad.out (fun e => h1 (Hxy.out.1 e).2.1))
            clear Good Bad Hxy h0 h1
            go_upto_region 7 with fail
            go_quiet (fail)
            go_wp2
            go_ret
            exact ⟨by rw [decide_eq_false HN.out]; rfl, below_drewN hB2 _⟩
        · have t0 : (x.kind != y.kind) = true := by simpa using h0
          have HN : Hid (X ≠ Y) := hid (Bad.out (fun e => h0 (Hxy.out.1 e).1))
          clear Good Bad Hxy h0
          go_upto_region 7 with fail
          go_quiet (fail)
          go_wp2
          go_ret
          exact ⟨by rw [decide_eq_false HN.out]; rfl, below_drewN hB2 _⟩
      · have hki : ¬ (k : Int) < (X.length : Int) := by omega
        have HE : Hid (X = Y) := hid (by
          have := Hlen.out
          have ht := Ht.out
          rw [List.take_of_length_le (by omega), List.take_of_length_le (by omega)] at ht; exact ht)
        clear Ht
        go_wp2_with fail
        go_ret
        exact ⟨by rw [decide_eq_true HE.out]; rfl, hB⟩
  · have t3 : ((X.length : Int) != (Y.length : Int)) = true := by rw [bne_iff_ne]; omega
    have HN : Hid (X ≠ Y) := hid (fun e => hlen (by rw [e]))
    clear hlen
    go_wp2_with fail
    go_ret
    exact ⟨by rw [decide_eq_false HN.out]; rfl, Below.refl _ _⟩
theorem exAt_below {w w' : World} {b o : Nat} {k : Int} {nm : List UInt8} {vk : Int} {vs ve : Value} {fk ff fg : Int} {fn : List UInt8} {vb vc : Value} (h : ExAt w b o k nm vk vs ve fk ff fg fn vb vc) (hb : Below w.heap.size w w') : ExAt w' b o k nm vk vs ve fk ff fg fn vb vc := by
  obtain ⟨c0, c1, c2, c3, c4, c5, c6, c7, c8, c9, c10⟩ := h
  have m : ∀ {p : Addr} {v : Value}, w.cell? p = some v → w'.cell? p = some v := fun h => (hb.cell (World.block_lt_of_cell? w _ h)).trans h
  exact ⟨m c0, m c1, m c2, m c3, m c4, m c5, m c6, m c7, m c8, m c9, m c10⟩
set_option maxRecDepth 100000 in
set_option maxHeartbeats 16000000 in
theorem rexs_gen (kk : Nat) (s t : Tr) (va vb : Value) (w : World) (hC : exsOf s ≠ [] → RExsC kk) (hF : exsOf s ≠ [] → RFunsC kk) (hz : s.sz ≤ kk + 1) (hs : s.ok true = true) (ht : t.ok true = true) (hx : IsTs w va s) (hy : IsTs w vb t) :
    Calls Tryz.prog 40 #[va, vb] w fun e w' => e = .returned (.bool (decide (s = t))) ∧ Below w.heap.size w w' := by
  have hdec : decide (s = t) = decide (exsOf s = exsOf t) := by
    rw [Bool.eq_iff_iff, decide_eq_true_eq, decide_eq_true_eq]
    exact ⟨fun e => by rw [e], fun e => exs_inj s t hs ht e⟩
  rw [hdec]
  have hoks := fun y (hy : y ∈ exsOf s) => And.intro (exs_ok s hs y hy) (Nat.le_trans (exs_sz s y hy) hz)
  have hokt := exs_ok t ht
  obtain ⟨a, cap, rfl, h1, h2, h3, hc⟩ := hx
  obtain ⟨a', cap', rfl, h1', h2', h3', hc'⟩ := hy
  rw [exs_len s hs] at *
  rw [exs_len t ht] at *
  have hX : 0 < (exsOf s).length → ∃ b o, a = some ⟨b, o, none⟩ ∧ ∀ V, Below w.heap.size w V → ∀ k x, (exsOf s)[k]? = some x → _ := fun h => by
    obtain ⟨b, o, e, hat⟩ := hc h
    exact ⟨b, o, e, fun V hV => at_ex V s b o (hat.soft (Soft.of_below hV) s b o)⟩
  have hY : 0 < (exsOf t).length → ∃ b o, a' = some ⟨b, o, none⟩ ∧ ∀ V, Below w.heap.size w V → ∀ k x, (exsOf t)[k]? = some x → _ := fun h => by
    obtain ⟨b, o, e, hat⟩ := hc' h
    exact ⟨b, o, e, fun V hV => at_ex V t b o (hat.soft (Soft.of_below hV) t b o)⟩
  generalize exsOf s = X at *
  generalize exsOf t = Y at *
  clear hc hc' hs ht hdec hz
  go_enter Tryz.func40, Tryz.ntmps40
  by_cases hlen : X.length = Y.length
  · have t3 : ((X.length : Int) != (Y.length : Int)) = false := by simp [hlen]
    have Hlen := hid hlen
    have hlen' : ¬ X.length < Y.length := by omega
    have hlen2 : ¬ Y.length < X.length := by omega
    clear hlen
    go_wp2_with fail
    go_loopw [5] (fun i wr => ∃ k : Nat, k ≤ X.length ∧ i = .int .i64 k ∧ Hid (X.take k = Y.take k) ∧ Below w.heap.size w wr) (fun i _ => X.length - (intOf i).toNat)
    case atStart => exact ⟨0, by omega, rfl, hid (by simp), Below.refl _ _⟩
    case round =>
      obtain ⟨k, hk, rfl, Ht, hB⟩ := hrel
      by_cases hlt : k < X.length
      · have hkX : X[k]? = some X[k] := List.getElem?_eq_getElem hlt
        have hkY : Y[k]? = some (Y[k]'(by omega)) := List.getElem?_eq_getElem (by omega)
        generalize X[k] = x at *
        generalize Y[k]'(by omega) = y at *
        obtain ⟨b, o, rfl, hX1⟩ := hX (by omega)
        obtain ⟨b', o', rfl, hY1⟩ := hY (by omega)
        obtain ⟨hox, hzx⟩ := hoks x (List.mem_of_getElem? hkX)
        have hoy := hokt y (List.mem_of_getElem? hkY)
        obtain ⟨xvs, xve, xvb, xvc, cx, x1, x2, x3, x4, x5⟩ := hX1 wr hB k x hkX
        obtain ⟨xa, xc, rfl, -⟩ := x1.parts
        obtain ⟨xe, xec, rfl, -⟩ := x2.parts
        obtain ⟨xb, xbc, rfl, -⟩ := x4.parts
        obtain ⟨xk, xkc, rfl, -⟩ := x5.parts
        obtain ⟨yvs, yve, yvb, yvc, cy, y1, y2, y3, y4, y5⟩ := hY1 wr hB k y hkY
        obtain ⟨ya, yc, rfl, -⟩ := y1.parts
        obtain ⟨ye, yec, rfl, -⟩ := y2.parts
        obtain ⟨yb, ybc, rfl, -⟩ := y4.parts
        obtain ⟨yk, ykc, rfl, -⟩ := y5.parts
        have T4 := hid (take_one X k x hkX)
        have T5 := hid (take_one Y k y hkY)
        have hki : (k : Int) < (X.length : Int) := by omega
        have hki' : (k : Int) < (Y.length : Int) := by omega
        have hcx : ∀ V, Below wr.heap.size wr V → ExAt V b (o + k * 11) x.kind x.name x.val.kind (.slice xa x.val.shape.length xc) (.slice xe x.val.elems.length xec) x.fn.kind x.fn.f x.fn.g x.fn.name (.slice xb x.fn.body.len xbc) (.slice xk x.kids.len xkc) := fun V hV => exAt_below cx hV
        have hcy : ∀ V, Below wr.heap.size wr V → ExAt V b' (o' + k * 11) y.kind y.name y.val.kind (.slice ya y.val.shape.length yc) (.slice ye y.val.elems.length yec) y.fn.kind y.fn.f y.fn.g y.fn.name (.slice yb y.fn.body.len ybc) (.slice yk y.kids.len ykc) := fun V hV => exAt_below cy hV
        unfold Ex.ok at hox hoy
        simp only [Bool.and_eq_true] at hox hoy
        have hzz : x.fn.body.sz ≤ kk ∧ x.kids.sz ≤ kk := by unfold Ex.sz at hzx; omega
        have q1 := fun V (hV : Below wr.heap.size wr V) => rsame_any (.agg #[.int .i64 x.val.kind, .slice xa x.val.shape.length xc, .slice xe x.val.elems.length xec]) (.agg #[.int .i64 y.val.kind, .slice ya y.val.shape.length yc, .slice ye y.val.elems.length yec]) x.val y.val V ⟨_, _, rfl, x1.below hV, x2.below hV, x3⟩ ⟨_, _, rfl, y1.below hV, y2.below hV, y3⟩
        have hne : X ≠ [] := fun e => by rw [e] at hlt; simp at hlt
        have q2 := fun V (hV : Below wr.heap.size wr V) => hC hne x.kids y.kids (.slice xk x.kids.len xkc) (.slice yk y.kids.len ykc) V hzz.2 hox.2 hoy.2 (x5.below hV) (y5.below hV)
        have q3 := fun V (hV : Below wr.heap.size wr V) => hF hne x.fn y.fn (.agg #[.int .i64 x.fn.kind, .int .i64 x.fn.f, .int .i64 x.fn.g, .string (bs x.fn.name), .slice xb x.fn.body.len xbc]) (.agg #[.int .i64 y.fn.kind, .int .i64 y.fn.f, .int .i64 y.fn.g, .string (bs y.fn.name), .slice yb y.fn.body.len ybc]) V hzz.1 hox.1 hoy.1 ⟨_, rfl, x4.below hV⟩ ⟨_, rfl, y4.below hV⟩
        have hxy : x = y ↔ x.kind = y.kind ∧ x.name = y.name ∧ sameB x.val y.val = true ∧ decide (x.kids = y.kids) = true ∧ decide (x.fn = y.fn) = true := by
          rw [sameB_eq, decide_eq_true_eq, decide_eq_true_eq]
          obtain ⟨k1, n1, v1, f1, s1⟩ := x
          obtain ⟨k2, n2, v2, f2, s2⟩ := y
          simp only [Ex.mk.injEq]
          constructor
          · rintro ⟨r1, r2, r3, r4, r5⟩; exact ⟨r1, r2, r3, r5, r4⟩
          · rintro ⟨r1, r2, r3, r5, r4⟩; exact ⟨r1, r2, r3, r4, r5⟩
        clear hne
        obtain ⟨R1, hR1⟩ : ∃ r, sameB x.val y.val = r := ⟨_, rfl⟩
        obtain ⟨R2, hR2⟩ : ∃ r, decide (x.kids = y.kids) = r := ⟨_, rfl⟩
        obtain ⟨R3, hR3⟩ : ∃ r, decide (x.fn = y.fn) = r := ⟨_, rfl⟩
        rw [hR1] at q1
        rw [hR2] at q2
        rw [hR3] at q3
        rw [hR1, hR2, hR3] at hxy
        have Hxy := hid hxy
        have good : x = y → X.take (k + 1) = Y.take (k + 1) := fun e => by rw [T4.out, T5.out, Ht.out, e]
        have bad : x ≠ y → X ≠ Y := fun hn e => by
          rw [e] at T4; have := T4.out.symm.trans T5.out; simp at this; exact hn this
        have Good := hid good
        have Bad := hid bad
        clear good bad hxy hR1 hR2 hR3 hkX hkY hX1 hY1 hX hY hoks hokt x1 x2 x4 x5 y1 y2 y4 y5 cx cy hzz hox hoy hzx
        obtain ⟨c0, c1, c2, c3, c4, c5, c6, c7, c8, c9, c10⟩ := hcx wr (Below.refl _ _)
        obtain ⟨d0, d1, d2, d3, d4, d5, d6, d7, d8, d9, d10⟩ := hcy wr (Below.refl _ _)
        go_upto_region 6 with fail
        go_still_tail 10, (by kernel_rfl)
        go_wp2_with fail
        refine (q1 _ (Below.refl _ _).drew).mono ?_
        rintro e w2 ⟨rfl, b2⟩
        have hb2 := (Below.refl wr.heap.size wr).drew.trans b2
        clear c0 c1 c2 c3 c4 c5 c6 c7 c8 c9 c10 d0 d1 d2 d3 d4 d5 d6 d7 d8 d9 d10 q1 b2
        obtain ⟨c0, c1, c2, c3, c4, c5, c6, c7, c8, c9, c10⟩ := hcx w2 hb2
        obtain ⟨d0, d1, d2, d3, d4, d5, d6, d7, d8, d9, d10⟩ := hcy w2 hb2
        go_upto_region 7 with fail
        go_still_tail 10, (by kernel_rfl)
        go_wp2_with fail
        refine (q2 _ hb2.drew).mono ?_
        rintro e w3 ⟨rfl, b3⟩
        have hb3 := hb2.drew.trans (b3.mono hb2.size)
        clear c0 c1 c2 c3 c4 c5 c6 c7 c8 c9 c10 d0 d1 d2 d3 d4 d5 d6 d7 d8 d9 d10 q2 b3 hb2
        obtain ⟨c0, c1, c2, c3, c4, c5, c6, c7, c8, c9, c10⟩ := hcx w3 hb3
        obtain ⟨d0, d1, d2, d3, d4, d5, d6, d7, d8, d9, d10⟩ := hcy w3 hb3
        go_upto_region 8 with fail
        go_still_tail 10, (by kernel_rfl)
        go_wp2_with fail
        refine (q3 _ hb3.drew).mono ?_
        rintro e w4 ⟨rfl, b4⟩
        have hb4 := hb3.drew.trans (b4.mono hb3.size)
        clear c0 c1 c2 c3 c4 c5 c6 c7 c8 c9 c10 d0 d1 d2 d3 d4 d5 d6 d7 d8 d9 d10 q3 b4 hb3
        obtain ⟨c0, c1, -⟩ := hcx w4 hb4
        obtain ⟨d0, d1, -⟩ := hcy w4 hb4
        have hB2 := hB.trans (hb4.mono hB.size)
        clear hcx hcy hb4
        by_cases h0 : x.kind = y.kind
        · have t0 : (x.kind != y.kind) = false := by simp [h0]
          by_cases h1 : x.name = y.name
          · have t1 : ((bs x.name).toList != (bs y.name).toList) = false := by rw [bne, bs_txt, decide_eq_true h1]; rfl
            have t1b : ((bs x.name).toList == (bs y.name).toList) = true := by rw [bs_txt]; exact decide_eq_true h1
            have H0 := hid h0
            have H1 := hid h1
            clear h0 h1
            cases R1 with
            | false =>
              have HN : Hid (X ≠ Y) := hid (Bad.out (fun e => by have := (Hxy.out.1 e).2.2.1; cases this))
              clear Good Bad Hxy 
              go_upto_region 9 with fail
              go_quiet (fail)
              go_wp2
              go_ret
              exact ⟨by rw [decide_eq_false HN.out]; rfl, below_drewN hB2 _⟩
            | true =>
              cases R2 with
              | false =>
                have HN : Hid (X ≠ Y) := hid (Bad.out (fun e => by have := (Hxy.out.1 e).2.2.2.1; cases this))
                clear Good Bad Hxy 
                go_upto_region 9 with fail
                go_quiet (fail)
                go_wp2
                go_ret
                exact ⟨by rw [decide_eq_false HN.out]; rfl, below_drewN hB2 _⟩
              | true =>
                cases R3 with
                | false =>
                  have HN : Hid (X ≠ Y) := hid (Bad.out (fun e => by have := (Hxy.out.1 e).2.2.2.2; cases this))
                  clear Good Bad Hxy 
                  go_upto_region 9 with fail
                  go_quiet (fail)
                  go_wp2
                  go_ret
                  exact ⟨by rw [decide_eq_false HN.out]; rfl, below_drewN hB2 _⟩
                | true =>
                  have HN : Hid (X.take (k + 1) = Y.take (k + 1)) := hid (Good.out (Hxy.out.2 ⟨H0.out, H1.out, rfl, rfl, rfl⟩))
                  clear Good Bad Hxy
                  go_upto_region 9 with fail
                  go_quiet (fail)
                  go_wp2
                  go_roundw
                  case rel => exact ⟨k + 1, by omega, by go_num, HN, below_drewN hB2 _⟩
                  case measure => simp [intOf]; omega
          · have t1 : ((bs x.name).toList != (bs y.name).toList) = true := by rw [bne, bs_txt, decide_eq_false h1]; rfl
            have t1b : ((bs x.name).toList == (bs y.name).toList) = false := by rw [bs_txt]; exact decide_eq_false h1
            have HN : Hid (X ≠ Y) := hid (Bad.out (fun e => h1 (Hxy.out.1 e).2.1))
            clear Good Bad Hxy h0 h1
            go_upto_region 9 with fail
            go_quiet (fail)
            go_wp2
            go_ret
            exact ⟨by rw [decide_eq_false HN.out]; rfl, below_drewN hB2 _⟩
        · have t0 : (x.kind != y.kind) = true := by simpa using h0
          have HN : Hid (X ≠ Y) := hid (Bad.out (fun e => h0 (Hxy.out.1 e).1))
          clear Good Bad Hxy h0
          go_upto_region 9 with fail
          go_quiet (fail)
          go_wp2
          go_ret
          exact ⟨by rw [decide_eq_false HN.out]; rfl, below_drewN hB2 _⟩
      · have hki : ¬ (k : Int) < (X.length : Int) := by omega
        have HE : Hid (X = Y) := hid (by
          have := Hlen.out
          have ht := Ht.out
          rw [List.take_of_length_le (by omega), List.take_of_length_le (by omega)] at ht; exact ht)
        clear Ht
        go_wp2_with fail
        go_ret
        exact ⟨by rw [decide_eq_true HE.out]; rfl, hB⟩
  · have t3 : ((X.length : Int) != (Y.length : Int)) = true := by rw [bne_iff_ne]; omega
    have HN : Hid (X ≠ Y) := hid (fun e => hlen (by rw [e]))
    clear hlen
    go_wp2_with fail
    go_ret
    exact ⟨by rw [decide_eq_false HN.out]; rfl, Below.refl _ _⟩
theorem rexs_zero : RExsC 0 := fun s t va vb w hz hs ht hx hy => by
  have hn : exsOf s = [] := by
    cases s with
    | nil => rfl
    | ex k n val fk ff fg fn body kids next => rw [Tr.sz] at hz; omega
    | ln k n kids next => rfl
  exact rexs_gen 0 s t va vb w (fun h => absurd hn h) (fun h => absurd hn h) (by omega) hs ht hx hy
theorem rexs_step (kk : Nat) (hC : RExsC kk) (hF : RFunsC kk) : RExsC (kk + 1) := fun s t va vb w hz hs ht hx hy => rexs_gen kk s t va vb w (fun _ => hC) (fun _ => hF) hz hs ht hx hy
theorem rsame_all : ∀ k, RExsC k ∧ RFunsC k ∧ RLnsC k
  | 0 => ⟨rexs_zero, rfuns_step 0 (rlines_step 0 rexs_zero), rlines_step 0 rexs_zero⟩
  | k + 1 =>
    have h := rexs_step k (rsame_all k).1 (rsame_all k).2.1
    ⟨h, rfuns_step _ (rlines_step _ h), rlines_step _ h⟩
end Go.Proofs.YthlingdlehdlhaaGreatDoor.Par

namespace Go.Proofs.YthlingdlehdlhaaGreatDoor.Par
open Go.RowKit Go.Shelf
set_option linter.unusedVariables false
set_option linter.unusedSimpArgs false

set_option maxRecDepth 100000 in
set_option maxHeartbeats 8000000 in
theorem r8same_any (x y : Stm) (va vb : Value) (w : World) (hx : x.expr.ok = true) (hxb : x.body.ok false = true) (hy : y.expr.ok = true) (hyb : y.body.ok false = true) (ix : IsS w va x) (iy : IsS w vb y) :
    Calls Tryz.prog 9 #[va, vb] w fun e w' => e = .returned (.bool (decide (x = y))) ∧ Below w.heap.size w w' := by
  obtain ⟨xvs, xve, xvb, xvc, xvd, rfl, x1, x2, x3, x4, x5, x6⟩ := ix
  obtain ⟨yvs, yve, yvb, yvc, yvd, rfl, y1, y2, y3, y4, y5, y6⟩ := iy
  obtain ⟨xa, xc, rfl, -⟩ := x1.parts
  obtain ⟨xe, xec, rfl, -⟩ := x2.parts
  obtain ⟨xb, xbc, rfl, -⟩ := x4.parts
  obtain ⟨xk, xkc, rfl, -⟩ := x5.parts
  obtain ⟨xd, xdc, rfl, -⟩ := x6.parts
  obtain ⟨ya, yc, rfl, -⟩ := y1.parts
  obtain ⟨ye, yec, rfl, -⟩ := y2.parts
  obtain ⟨yb, ybc, rfl, -⟩ := y4.parts
  obtain ⟨yk, ykc, rfl, -⟩ := y5.parts
  obtain ⟨yd, ydc, rfl, -⟩ := y6.parts
  have hxy : decide (x = y) = (decide (x.kind = y.kind) && decide (x.name = y.name) && decide (x.expr.cons .nil = y.expr.cons .nil) && decide (x.body = y.body)) := by
    rw [Bool.eq_iff_iff]
    simp only [decide_eq_true_eq, Bool.and_eq_true]
    obtain ⟨k1, n1, e1, b1⟩ := x
    obtain ⟨k2, n2, e2, b2⟩ := y
    obtain ⟨q1, q2, q3, ⟨q4, q5, q6, q7, q8⟩, q9⟩ := e1
    obtain ⟨r1, r2, r3, ⟨r4, r5, r6, r7, r8⟩, r9⟩ := e2
    simp [Ex.cons]
    constructor
    · rintro ⟨rfl, rfl, ⟨rfl, rfl, rfl, ⟨rfl, rfl, rfl, rfl, rfl⟩, rfl⟩, rfl⟩; simp
    · rintro ⟨⟨⟨rfl, rfl⟩, rfl, rfl, rfl, rfl, rfl, rfl, rfl, rfl, rfl⟩, rfl⟩; simp
  obtain ⟨B, hBe⟩ : ∃ d, decide (x = y) = d := ⟨_, rfl⟩
  rw [hBe] at hxy ⊢
  clear hBe
  obtain ⟨hX, hY, hB⟩ := two_new w (.cells #[.int .i64 x.kind, .string (bs x.name), .int .i64 x.expr.kind, .string (bs x.expr.name), .int .i64 x.expr.val.kind, .slice xa x.expr.val.shape.length xc, .slice xe x.expr.val.elems.length xec, .int .i64 x.expr.fn.kind, .int .i64 x.expr.fn.f, .int .i64 x.expr.fn.g, .string (bs x.expr.fn.name), .slice xb x.expr.fn.body.len xbc, .slice xk x.expr.kids.len xkc, .slice xd x.body.len xdc] 38) (.cells #[.int .i64 y.kind, .string (bs y.name), .int .i64 y.expr.kind, .string (bs y.expr.name), .int .i64 y.expr.val.kind, .slice ya y.expr.val.shape.length yc, .slice ye y.expr.val.elems.length yec, .int .i64 y.expr.fn.kind, .int .i64 y.expr.fn.f, .int .i64 y.expr.fn.g, .string (bs y.expr.fn.name), .slice yb y.expr.fn.body.len ybc, .slice yk y.expr.kids.len ykc, .slice yd y.body.len ydc] 38)
  have okx : (x.expr.cons .nil).ok true = true := by rw [ok_ex, hx, ok_nil]; rfl
  have oky : (y.expr.cons .nil).ok true = true := by rw [ok_ex, hy, ok_nil]; rfl
  go_enter Tryz.func9, Tryz.ntmps9
  go_upto_region 1 with fail
  generalize (w.alloc (.cells #[.int .i64 x.kind, .string (bs x.name), .int .i64 x.expr.kind, .string (bs x.expr.name), .int .i64 x.expr.val.kind, .slice xa x.expr.val.shape.length xc, .slice xe x.expr.val.elems.length xec, .int .i64 x.expr.fn.kind, .int .i64 x.expr.fn.f, .int .i64 x.expr.fn.g, .string (bs x.expr.fn.name), .slice xb x.expr.fn.body.len xbc, .slice xk x.expr.kids.len xkc, .slice xd x.body.len xdc] 38)).alloc (.cells #[.int .i64 y.kind, .string (bs y.name), .int .i64 y.expr.kind, .string (bs y.expr.name), .int .i64 y.expr.val.kind, .slice ya y.expr.val.shape.length yc, .slice ye y.expr.val.elems.length yec, .int .i64 y.expr.fn.kind, .int .i64 y.expr.fn.f, .int .i64 y.expr.fn.g, .string (bs y.expr.fn.name), .slice yb y.expr.fn.body.len ybc, .slice yk y.expr.kids.len ykc, .slice yd y.body.len ydc] 38) = w2 at *
  obtain ⟨hN1, hN2, hB4⟩ := two_new w2 (.cells #[.int .i64 x.expr.kind, .string (bs x.expr.name), .int .i64 x.expr.val.kind, .slice xa x.expr.val.shape.length xc, .slice xe x.expr.val.elems.length xec, .int .i64 x.expr.fn.kind, .int .i64 x.expr.fn.f, .int .i64 x.expr.fn.g, .string (bs x.expr.fn.name), .slice xb x.expr.fn.body.len xbc, .slice xk x.expr.kids.len xkc] 36) (.cells #[.int .i64 y.expr.kind, .string (bs y.expr.name), .int .i64 y.expr.val.kind, .slice ya y.expr.val.shape.length yc, .slice ye y.expr.val.elems.length yec, .int .i64 y.expr.fn.kind, .int .i64 y.expr.fn.f, .int .i64 y.expr.fn.g, .string (bs y.expr.fn.name), .slice yb y.expr.fn.body.len ybc, .slice yk y.expr.kids.len ykc] 36)
  have hW4 := hB.trans (hB4.mono hB.size)
  have hcall := (rsame_all (x.expr.cons .nil).sz).1 (x.expr.cons .nil) (y.expr.cons .nil) (.slice (some ⟨w2.heap.size, 0, none⟩) 1 1) (.slice (some ⟨w2.heap.size + 1, 0, none⟩) 1 1) _ (Nat.le_refl _) okx oky
    (IsTs.one hN1 (x1.below hW4) (x2.below hW4) x3 (x4.below hW4) (x5.below hW4)) (IsTs.one hN2 (y1.below hW4) (y2.below hW4) y3 (y4.below hW4) (y5.below hW4))
  obtain ⟨R1, hR1⟩ : ∃ r, decide (x.expr.cons .nil = y.expr.cons .nil) = r := ⟨_, rfl⟩
  obtain ⟨R2, hR2⟩ : ∃ r, decide (x.body = y.body) = r := ⟨_, rfl⟩
  rw [hR1] at hcall hxy
  rw [hR2] at hxy
  have Hxy := hid hxy
  have Hc := hid hcall
  have hXl := (Array.getElem?_eq_some_iff.1 hX).1
  have hYl := (Array.getElem?_eq_some_iff.1 hY).1
  obtain ⟨c0, c1, c2, c3, c4, c5, c6, c7, c8, c9, c10, c11, c12, c13⟩ := st_facts hX
  obtain ⟨d0, d1, d2, d3, d4, d5, d6, d7, d8, d9, d10, d11, d12, d13⟩ := st_facts hY
  clear hxy hcall hR1 hN1 hN2
  go_wp2_with fail
  refine Hc.out.mono ?_
  rintro e w5 ⟨rfl, b5⟩
  have hb25 := hB4.trans (b5.mono hB4.size)
  have hX5 := (hb25.block _ hXl).trans hX
  have hY5 := (hb25.block _ hYl).trans hY
  have hB5 := hB.trans (hb25.mono hB.size)
  have hcall2 := (rsame_all x.body.sz).2.2 x.body y.body _ _ w5 (Nat.le_refl _) hxb hyb (x6.below hB5) (y6.below hB5)
  rw [hR2] at hcall2
  have hXl5 := (Array.getElem?_eq_some_iff.1 hX5).1
  have hYl5 := (Array.getElem?_eq_some_iff.1 hY5).1
  clear c0 c1 c2 c3 c4 c5 c6 c7 c8 c9 c10 c11 c12 c13 d0 d1 d2 d3 d4 d5 d6 d7 d8 d9 d10 d11 d12 d13 Hc b5 hb25 hB4 hW4 hR2 x1 x2 x4 x5 x6 y1 y2 y4 y5 y6
  obtain ⟨c0, c1, c2, c3, c4, c5, c6, c7, c8, c9, c10, c11, c12, c13⟩ := st_facts hX5
  obtain ⟨d0, d1, d2, d3, d4, d5, d6, d7, d8, d9, d10, d11, d12, d13⟩ := st_facts hY5
  go_wp2_with fail
  refine hcall2.mono ?_
  rintro e w6 ⟨rfl, b6⟩
  have hX6 := (b6.block _ hXl5).trans hX5
  have hY6 := (b6.block _ hYl5).trans hY5
  have hB6 := hB5.trans (b6.mono hB5.size)
  clear c0 c1 c2 c3 c4 c5 c6 c7 c8 c9 c10 c11 c12 c13 d0 d1 d2 d3 d4 d5 d6 d7 d8 d9 d10 d11 d12 d13 hcall2
  obtain ⟨c0, c1, c2, c3, c4, c5, c6, c7, c8, c9, c10, c11, c12, c13⟩ := st_facts hX6
  obtain ⟨d0, d1, d2, d3, d4, d5, d6, d7, d8, d9, d10, d11, d12, d13⟩ := st_facts hY6
  by_cases h0 : x.kind = y.kind
  · have t0 : (x.kind == y.kind) = true := by simp [h0]
    by_cases h1 : x.name = y.name
    · have t1 : ((bs x.name).toList == (bs y.name).toList) = true := by rw [bs_txt]; exact decide_eq_true h1
      have HN : Hid (B = (R1 && R2)) := hid (by rw [Hxy.out, decide_eq_true h0, decide_eq_true h1]; rfl)
      clear h0 h1 Hxy
      cases R1 with
      | false =>
        go_wp2_with fail
        go_ret
        exact ⟨by rw [HN.out]; rfl, hB6⟩
      | true =>
        go_wp2_with fail
        go_ret
        exact ⟨by rw [HN.out]; rfl, hB6⟩
    · have t1 : ((bs x.name).toList == (bs y.name).toList) = false := by rw [bs_txt]; exact decide_eq_false h1
      have HN : Hid (B = false) := hid (by rw [Hxy.out, decide_eq_false h1]; simp)
      clear h0 h1 Hxy
      go_wp2_with fail
      go_ret
      exact ⟨by rw [HN.out]; rfl, hB6⟩
  · have t0 : (x.kind == y.kind) = false := by simpa using h0
    have HN : Hid (B = false) := hid (by rw [Hxy.out, decide_eq_false h0]; rfl)
    clear h0 Hxy
    go_wp2_with fail
    go_ret
    exact ⟨by rw [HN.out]; rfl, hB6⟩
end Go.Proofs.YthlingdlehdlhaaGreatDoor.Par
