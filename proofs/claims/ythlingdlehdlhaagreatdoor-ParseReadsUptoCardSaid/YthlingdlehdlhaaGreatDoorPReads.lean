/- ParseReads: the walk of the law. -/
import Derived.Test.YthlingdlehdlhaaGreatDoorRStm
import Derived.Test.YthlingdlehdlhaaGreatDoorRSame
import Derived.Test.YthlingdlehdlhaaGreatDoorLawReads
import Derived.Laws.AppendOwnNone
import Derived.Deep.Cut
namespace Go.Proofs.YthlingdlehdlhaaGreatDoor.Par
open Go.RowKit Go.Shelf
set_option linter.unusedVariables false
set_option linter.unusedSimpArgs false

set_option maxRecDepth 100000 in
theorem rgreat18_any (S : ByteArray) (a : Option Addr) (n c : Nat) (w : World) :
    Calls Tryz.prog 6 #[.string S, .slice a n c] w fun e w' => e = .returned (.bool (decide (8000 < S.size) || decide (50 < n))) ∧ Below w.heap.size w w' := by
  obtain ⟨D, hD⟩ : ∃ d, (decide (8000 < S.size) || decide (50 < n)) = d := ⟨_, rfl⟩
  rw [hD]
  have HD := hid hD.symm
  clear hD
  generalize hN : S.size = N at *
  by_cases h1 : 8000 < N
  · have h1' : (8000 : Int) < (N : Int) := by omega
    have HN : Hid (D = true) := hid (by rw [HD.out]; simp [h1])
    clear HD
    go_enter Tryz.func6, Tryz.ntmps6
    go_wp2_with fail
    go_ret
    exact ⟨by rw [HN.out]; rfl, Below.refl _ _⟩
  · have h1' : ¬ (8000 : Int) < (N : Int) := by omega
    by_cases h2 : 50 < n
    · have h2' : (50 : Int) < (n : Int) := by omega
      have HN : Hid (D = true) := hid (by rw [HD.out]; simp [h2])
      clear HD
      go_enter Tryz.func6, Tryz.ntmps6
      go_wp2_with fail
      go_ret
      exact ⟨by rw [HN.out]; simp, Below.refl _ _⟩
    · have h2' : ¬ (50 : Int) < (n : Int) := by omega
      have HN : Hid (D = false) := hid (by rw [HD.out]; simp [h1, h2])
      clear HD
      go_enter Tryz.func6, Tryz.ntmps6
      go_wp2_with fail
      go_ret
      exact ⟨by rw [HN.out]; simp, Below.refl _ _⟩
/-- An own row of names, whatever stands in it. -/
def NmRow (n : Nat) (v : Value) (W : World) : Prop := 0 < n → ∃ (g c : Nat) (cs : Array Value), v = .slice (some ⟨g, 0, none⟩) n c ∧ W.heap[g]? = some (.cells cs 9) ∧ ∀ i, i < n → ∃ s, cs[i]? = some (.string s)
theorem NmRow.own {w : World} {base n : Nat} {v : Value} {xs : List ByteArray} (h : w.ownsRow base 9 1 v n (xs.map .string)) (hn : n = xs.length) : NmRow n v w ∧ ∀ g, v.ownBlock = some g → base ≤ g ∧ g < w.heap.size := by
  refine ⟨fun h0 => ?_, fun g hg => h.lt g hg⟩
  have hc := fun g (hg : v.ownBlock = some g) => h.cells hg
  obtain ⟨hl, h2 | ⟨g, cap, cur, hv, h3, h4, h5⟩⟩ := h
  · have := h2.2; omega
  · refine ⟨g, cap, cur, hv, h4, fun i hi => ?_⟩
    subst hv
    have := hc g rfl i (.string (xs[i]'(by omega))) (by rw [List.getElem?_map, List.getElem?_eq_getElem (by omega)]; rfl)
    rw [Addr.add_lit, Nat.zero_add, Lib.cell_of_heap h4] at this
    exact ⟨_, this⟩
/-- Outside of some blocks all lies as it lay. -/
def Apart (lo hi : Nat) (w wr : World) : Prop := w.heap.size ≤ wr.heap.size ∧ ∀ q, q < w.heap.size → (q < lo ∨ hi ≤ q) → wr.heap[q]? = w.heap[q]?
theorem Apart.of_bumped {lo hi hi2 : Nat} {w wr : World} (h : Bumped lo hi w wr) (h2 : hi ≤ hi2) : Apart lo hi2 w wr := ⟨h.1, fun q hq hh => hh.elim (fun h1 => h.old h1 hq) (fun h1 => h.far (by omega) hq)⟩
theorem Apart.set {lo hi : Nat} {w wr : World} (h : Apart lo hi w wr) {g i : Nat} (h1 : lo ≤ g) (h2 : g < hi) (u : Value) : Apart lo hi w (wr.setCell ⟨g, i, none⟩ u) :=
  ⟨by have := h.1; simpa [World.setCell] using this, fun q hq hh => (Below.heap_setCell _ _ _ _ (by simp; omega)).trans (h.2 q hq hh)⟩
theorem Apart.softF {lo hi : Nat} {w wr : World} (h : Apart lo hi w wr) {m : Nat} (hm : hi ≤ m) : SoftF (Up m) w wr := fun p v hp hc _ => by
  have hl := World.block_lt_of_cell? w _ hc
  rw [World.cell?_of_block (w := w) (h.2 p.block hl (.inr (by unfold Up at hp; omega)))]
  exact hc
set_option maxRecDepth 100000 in
set_option maxHeartbeats 8000000 in
theorem preads_walk (s : ByteArray) (F : List (List UInt8)) (fv : Value) (w : World) (hs : s.size ≤ 2000000) (hf : Strs w fv (F.map bs)) (hgy : Gly w) :
    Calls Tryz.prog 3 #[.string s, fv] w fun e w' => e = .returned (.bool true) ∧ Below w.heap.size w w' := by
  obtain ⟨l, rfl⟩ : ∃ l, s = bs l := ⟨s.data.toList, rfl⟩
  obtain ⟨fa, fc, hfv, hfl⟩ : ∃ fa fc, fv = .slice fa F.length fc ∧ F.length ≤ fc := by
    obtain ⟨a', c', e, h1, -⟩ := id hf
    rw [List.length_map] at e h1
    exact ⟨a', c', e, h1⟩
  subst hfv
  have hl : l.length ≤ 2000000 := by rw [bs_size] at hs; exact hs
  have HL := hid hl
  obtain ⟨i0, hi, hz0, hz1, hz2⟩ := info_parts (show (Tryz.prog.info? 9).map (fun i => (i.zero, i.size, i.bytes)) = some (some (.string ⟨#[]⟩), 1, 16) by kernel_rfl)
  clear hl hs
  go_enter Tryz.func3, Tryz.ntmps3
  go_wp2_with fail
  refine (rtokens_any l _ HL.out).mono ?_
  rintro e w1 ⟨⟨v1, us1, rfl, hrow1, htoks1⟩, b1⟩
  obtain ⟨a1, c1, rfl⟩ := own_slice hrow1
  have hgreat := rgreat18_any (bs l) fa F.length fc w1
  obtain ⟨D, hD⟩ : ∃ d, (decide (8000 < (bs l).size) || decide (50 < F.length)) = d := ⟨_, rfl⟩
  rw [hD] at hgreat
  have HD := hid hD
  have htc := fun h => tokens_chain (l := l) h
  have HR := hid (fun W => rtokens_any l W HL.out)
  clear hD
  generalize tokensOf l = TT at *
  obtain ⟨T, er⟩ := TT
  simp only at hrow1 htoks1 htc HR ⊢
  have Htc := hid htc
  clear htc
  go_wp2_with fail
  refine hgreat.mono ?_
  rintro e w2 ⟨rfl, b2⟩
  have hB2 := b1.trans (b2.mono b1.size)
  clear hgreat
  cases D with
  | true =>
    go_wp2_with fail
    go_ret
    exact ⟨rfl, hB2⟩
  | false =>
    by_cases her : er = 0
    rotate_left
    · have te : (er != 0) = true := by simpa using her
      clear her
      go_wp2_with fail
      go_ret
      exact ⟨rfl, hB2⟩
    · subst her
      have hF50 : F.length ≤ 50 := by have := HD.out; simp at this; omega
      obtain ⟨hch, hT4⟩ := Htc.out rfl
      have hgd := chain_good T hch
      have hsm := chain_small hch
      have Hsm := hid hsm
      have Hgd := hid hgd
      clear hgd hsm hch Htc HD
      go_wp2_with fail
      refine (HR.out _).mono ?_
      rintro e w3 ⟨⟨v3, us3, rfl, hrow3, htoks3⟩, b3⟩
      obtain ⟨a3, c3, rfl⟩ := own_slice hrow3
      have hB3 := hB2.trans (b3.mono hB2.size)
      have hf3 := hf.below hB3
      clear HR
      go_upto_region 5 with fail
      go_cut [9] from 129 (fun s9 W => W.ownsRow w3.heap.size 9 1 s9 F.length ((F.map bs).map Value.string) ∧ Below w3.heap.size w3 W)
      case first =>
        have b4 := (Below.refl _ w3).alloc (Nat.le_refl _) (.cells #[] 9)
        have hf4 := hf3.below b4
        have hempty : (w3.alloc (.cells #[] 9)).ownsRow w3.heap.size 9 1 (.slice (some ⟨w3.heap.size, 0, none⟩) 0 0) 0 [] := ⟨rfl, .inr ⟨w3.heap.size, 0, _, rfl, Nat.le_refl _, heap_alloc_new w3 _, Nat.le_refl _, by simp [maxLen], rfl, rfl⟩⟩
        cases fa with
        | none =>
          have h0 : fc = 0 := by
            obtain ⟨a', c', e, l1, l2, l3, l4⟩ := hf
            injection e with e1 e2 e3
            rw [e3]; exact l3 e1.symm
          have hF0 : F = [] := List.eq_nil_of_length_eq_zero (by omega)
          subst hF0
          subst h0
          go_wp2_with (at_builtin; refine wpList_append_own_none rfl _ _ 22 rfl w3.heap.size 9 i0 1 Tryz.underlying22 hi _ _ _ rfl hempty rfl ?_)
          go_meet
          case rel => exact ⟨hempty, b4⟩
        | some ad =>
          have hnews : ∀ j u, ((F.map bs).map Value.string)[j]? = some u → (w3.alloc (.cells #[] 9)).cell? (ad.add j) = some u := by
            intro j u hj
            rw [List.map_map, List.getElem?_map] at hj
            cases hk : F[j]? with
            | none => rw [hk] at hj; cases hj
            | some s =>
              rw [hk] at hj
              obtain ⟨b', o', e, hc'⟩ := strs_get hf4 hk
              obtain rfl := Option.some.inj e
              rw [Addr.add_lit, hc']
              simpa using hj
          go_wp2_with (at_builtin; refine wpList_append_own _ rfl _ _ 22 rfl w3.heap.size 9 i0 (.string ⟨#[]⟩) 1 16 Tryz.underlying22 hi hz0 hz1 hz2 rfl (by decide) _ _ _ rfl hempty ad F.length fc ((F.map bs).map Value.string) rfl (by simp) hnews (by intro u hu; obtain ⟨z, -, rfl⟩ := List.mem_map.1 hu; rfl) (by unfold maxLen; omega) (by omega) (by simp) ?_)
          intro v' w1' hown hgrow hnil
          go_wp2_with fail
          go_meet
          case rel => exact ⟨by simpa using hown, b4.grown hgrow (by simp) (by intro k hk; have : w3.heap.size = k := Option.some.inj hk; omega)⟩
      case rest =>
        obtain ⟨hnm, b4⟩ := hcut
        obtain ⟨w4, hw4⟩ : ∃ W, W = wc := ⟨_, rfl⟩
        subst hw4
        obtain ⟨na, nc, rfl⟩ := own_slice hnm
        have hB4 := hB3.trans (b4.mono hB3.size)
        have hrow3' := owns_below hrow3 b4
        have htoks3' := htoks3.map (fun v t ht => ht.below b4)
        have hown4 := IsToks.of_own hrow3' htoks3'
        have hnm4 : Strs w4 (.slice na F.length nc) (F.map bs) := Strs.of_owns (by rw [List.length_map]; exact hnm)
        obtain ⟨hok1, hok2⟩ := stateOf_ok F T
        have hcallP := pStatement_any F (by omega) _ _ T w4 hown4 hnm4 Hsm.out (by omega) (hgy.below hB4)
        have b24 : Below w2.heap.size w2 w4 := b3.trans (b4.mono b3.size)
        have htk1 := (IsToks.of_own hrow1 htoks1).below (b2.trans (b24.mono b2.size))
        have hcallR := fun W (hW : Below w4.heap.size w4 W) => rStatement_any F (by omega) (.slice a1 T.length c1) (.slice fa F.length fc) T W (htk1.below hW) (hf.below (hB4.trans (hW.mono hB4.size))) Hgd.out Hsm.out (by omega)
        obtain ⟨P, hP⟩ : ∃ p, stateOf F T = p := ⟨_, rfl⟩
        rw [hP] at hok1 hok2 hcallP hcallR
        clear hP
        obtain ⟨st, en⟩ := P
        simp only at hok1 hok2
        clear hf3
        go_wp2_with fail
        refine hcallP.mono ?_
        rintro e w5 ⟨⟨xv, rfl, fx⟩, b5⟩
        obtain ⟨xvs, xve, xvb, xvc, xvd, rfl, x1, x2, x3, x4, x5, x6⟩ := fx.stm
        have hformx := And.intro x1.self.parts (And.intro x2.self.parts (And.intro x4.self.parts (And.intro x5.self.parts x6.self.parts)))
        obtain ⟨⟨xa, xc, rfl, -⟩, ⟨xe, xec, rfl, -⟩, ⟨xb, xbc, rfl, -⟩, ⟨xk, xkc, rfl, -⟩, ⟨xd, xdc, rfl, -⟩⟩ := hformx
        have hA6 := heap_alloc_new w5 (.cells #[.int .i64 st.kind, .string (bs st.name), .int .i64 st.expr.kind, .string (bs st.expr.name), .int .i64 st.expr.val.kind, .slice xa st.expr.val.shape.length xc, .slice xe st.expr.val.elems.length xec, .int .i64 st.expr.fn.kind, .int .i64 st.expr.fn.f, .int .i64 st.expr.fn.g, .string (bs st.expr.fn.name), .slice xb st.expr.fn.body.len xbc, .slice xk st.expr.kids.len xkc, .slice xd st.body.len xdc] 38)
        have b56 := (b5).alloc b5.size (.cells #[.int .i64 st.kind, .string (bs st.name), .int .i64 st.expr.kind, .string (bs st.expr.name), .int .i64 st.expr.val.kind, .slice xa st.expr.val.shape.length xc, .slice xe st.expr.val.elems.length xec, .int .i64 st.expr.fn.kind, .int .i64 st.expr.fn.f, .int .i64 st.expr.fn.g, .string (bs st.expr.fn.name), .slice xb st.expr.fn.body.len xbc, .slice xk st.expr.kids.len xkc, .slice xd st.body.len xdc] 38)
        have hs56 := Soft.alloc w5 (.cells #[.int .i64 st.kind, .string (bs st.name), .int .i64 st.expr.kind, .string (bs st.expr.name), .int .i64 st.expr.val.kind, .slice xa st.expr.val.shape.length xc, .slice xe st.expr.val.elems.length xec, .int .i64 st.expr.fn.kind, .int .i64 st.expr.fn.f, .int .i64 st.expr.fn.g, .string (bs st.expr.fn.name), .slice xb st.expr.fn.body.len xbc, .slice xk st.expr.kids.len xkc, .slice xd st.body.len xdc] 38)
        have hwl := b5.size
        simp only at fx x1 x2 x3 x4 x5 x6
        clear hcallP
        go_upto_region 7 with fail
        generalize w5.alloc (.cells #[.int .i64 st.kind, .string (bs st.name), .int .i64 st.expr.kind, .string (bs st.expr.name), .int .i64 st.expr.val.kind, .slice xa st.expr.val.shape.length xc, .slice xe st.expr.val.elems.length xec, .int .i64 st.expr.fn.kind, .int .i64 st.expr.fn.f, .int .i64 st.expr.fn.g, .string (bs st.expr.fn.name), .slice xb st.expr.fn.body.len xbc, .slice xk st.expr.kids.len xkc, .slice xd st.body.len xdc] 38) = w6 at *
        have hfx6 := fx.soft hs56
        have hwA : w5.heap.size < w6.heap.size := (Array.getElem?_eq_some_iff.1 hA6).1
        go_wp2_with fail
        refine (hcallR _ b56).mono ?_
        rintro e w7 ⟨⟨yv, rfl, fy⟩, b7⟩
        obtain ⟨yvs, yve, yvb, yvc, yvd, rfl, y1, y2, y3, y4, y5, y6⟩ := fy.stm
        have hformy := And.intro y1.self.parts (And.intro y2.self.parts (And.intro y4.self.parts (And.intro y5.self.parts y6.self.parts)))
        obtain ⟨⟨ya, yc, rfl, -⟩, ⟨ye, yec, rfl, -⟩, ⟨yb, ybc, rfl, -⟩, ⟨yk, ykc, rfl, -⟩, ⟨yd, ydc, rfl, -⟩⟩ := hformy
        have hB8 := heap_alloc_new w7 (.cells #[.int .i64 st.kind, .string (bs st.name), .int .i64 st.expr.kind, .string (bs st.expr.name), .int .i64 st.expr.val.kind, .slice ya st.expr.val.shape.length yc, .slice ye st.expr.val.elems.length yec, .int .i64 st.expr.fn.kind, .int .i64 st.expr.fn.f, .int .i64 st.expr.fn.g, .string (bs st.expr.fn.name), .slice yb st.expr.fn.body.len ybc, .slice yk st.expr.kids.len ykc, .slice yd st.body.len ydc] 38)
        have b78 := (b7).alloc b7.size (.cells #[.int .i64 st.kind, .string (bs st.name), .int .i64 st.expr.kind, .string (bs st.expr.name), .int .i64 st.expr.val.kind, .slice ya st.expr.val.shape.length yc, .slice ye st.expr.val.elems.length yec, .int .i64 st.expr.fn.kind, .int .i64 st.expr.fn.f, .int .i64 st.expr.fn.g, .string (bs st.expr.fn.name), .slice yb st.expr.fn.body.len ybc, .slice yk st.expr.kids.len ykc, .slice yd st.body.len ydc] 38)
        have hs78 := Soft.alloc w7 (.cells #[.int .i64 st.kind, .string (bs st.name), .int .i64 st.expr.kind, .string (bs st.expr.name), .int .i64 st.expr.val.kind, .slice ya st.expr.val.shape.length yc, .slice ye st.expr.val.elems.length yec, .int .i64 st.expr.fn.kind, .int .i64 st.expr.fn.f, .int .i64 st.expr.fn.g, .string (bs st.expr.fn.name), .slice yb st.expr.fn.body.len ybc, .slice yk st.expr.kids.len ykc, .slice yd st.body.len ydc] 38)
        have hwl7 := b7.size
        simp only at fy y1 y2 y3 y4 y5 y6
        clear hcallR x1 x2 x4 x5 x6 y1 y2 y4 y5 y6
        go_upto_region 8 with fail
        generalize w7.alloc (.cells #[.int .i64 st.kind, .string (bs st.name), .int .i64 st.expr.kind, .string (bs st.expr.name), .int .i64 st.expr.val.kind, .slice ya st.expr.val.shape.length yc, .slice ye st.expr.val.elems.length yec, .int .i64 st.expr.fn.kind, .int .i64 st.expr.fn.f, .int .i64 st.expr.fn.g, .string (bs st.expr.fn.name), .slice yb st.expr.fn.body.len ybc, .slice yk st.expr.kids.len ykc, .slice yd st.body.len ydc] 38) = w8 at *
        have hwB : w7.heap.size < w8.heap.size := (Array.getElem?_eq_some_iff.1 hB8).1
        have hfx8 := hfx6.soft (Soft.of_below b78)
        have hfy8 := (fy.soft hs78).weak (base' := Up w4.heap.size) (fun k hk => by unfold Up at hk ⊢; omega)
        have hA8 := (b78.block _ hwA).trans hA6
        have b48 := b56.trans (b78.mono b56.size)
        have keep : ∀ m V, Apart m w4.heap.size w8 V → V.heap[w5.heap.size]? = some (.cells #[.int .i64 st.kind, .string (bs st.name), .int .i64 st.expr.kind, .string (bs st.expr.name), .int .i64 st.expr.val.kind, .slice xa st.expr.val.shape.length xc, .slice xe st.expr.val.elems.length xec, .int .i64 st.expr.fn.kind, .int .i64 st.expr.fn.f, .int .i64 st.expr.fn.g, .string (bs st.expr.fn.name), .slice xb st.expr.fn.body.len xbc, .slice xk st.expr.kids.len xkc, .slice xd st.body.len xdc] 38) ∧ V.heap[w7.heap.size]? = some (.cells #[.int .i64 st.kind, .string (bs st.name), .int .i64 st.expr.kind, .string (bs st.expr.name), .int .i64 st.expr.val.kind, .slice ya st.expr.val.shape.length yc, .slice ye st.expr.val.elems.length yec, .int .i64 st.expr.fn.kind, .int .i64 st.expr.fn.f, .int .i64 st.expr.fn.g, .string (bs st.expr.fn.name), .slice yb st.expr.fn.body.len ybc, .slice yk st.expr.kids.len ykc, .slice yd st.body.len ydc] 38) ∧ IsS V (.agg #[.int .i64 st.kind, .string (bs st.name), .int .i64 st.expr.kind, .string (bs st.expr.name), .int .i64 st.expr.val.kind, .slice xa st.expr.val.shape.length xc, .slice xe st.expr.val.elems.length xec, .int .i64 st.expr.fn.kind, .int .i64 st.expr.fn.f, .int .i64 st.expr.fn.g, .string (bs st.expr.fn.name), .slice xb st.expr.fn.body.len xbc, .slice xk st.expr.kids.len xkc, .slice xd st.body.len xdc]) st ∧ IsS V (.agg #[.int .i64 st.kind, .string (bs st.name), .int .i64 st.expr.kind, .string (bs st.expr.name), .int .i64 st.expr.val.kind, .slice ya st.expr.val.shape.length yc, .slice ye st.expr.val.elems.length yec, .int .i64 st.expr.fn.kind, .int .i64 st.expr.fn.f, .int .i64 st.expr.fn.g, .string (bs st.expr.fn.name), .slice yb st.expr.fn.body.len ybc, .slice yk st.expr.kids.len ykc, .slice yd st.body.len ydc]) st := fun m V hV =>
          ⟨(hV.2 _ (by omega) (.inr (by omega))).trans hA8, (hV.2 _ (by omega) (.inr (by omega))).trans hB8, hfx8 V (hV.softF (Nat.le_refl _)), hfy8 V (hV.softF (Nat.le_refl _))⟩
        have apB : ∀ V, Below w8.heap.size w8 V → Apart 0 w4.heap.size w8 V := fun V hV => ⟨hV.size, fun q hq _ => hV.block q hq⟩
        obtain ⟨hA, hB, iA, iB⟩ := keep 0 w8 (apB w8 (Below.refl _ _))
        have te : (en != en) = false := by simp
        have hown8 := hown4.below b48
        have htk8 := htk1.below b48
        have hnm8 := hnm4.below b48
        have hfs8 := hf.below (hB4.trans (b48.mono hB4.size))
        have hB48 := hB4.trans (b48.mono hB4.size)
        clear hA6 hB8 hA8 b56 b78 b5 b7 fx fy hfx6 hs56 hs78
        go_wp2_with (first | (refine wpList_load_rowE rfl 38 _ rfl w5.heap.size rfl 38 _ _ _ hA Tryz.underlying38 rfl (by kernel_rfl) ?_; go_simp) | (refine wpList_load_rowE rfl 38 _ rfl w7.heap.size rfl 38 _ _ _ hB Tryz.underlying38 rfl (by kernel_rfl) ?_; go_simp))
        refine (r8same_any st st _ _ w8 hok1 hok2 hok1 hok2 iA iB).mono ?_
        rintro e w9 ⟨rfl, b9⟩
        rw [decide_eq_true rfl]
        go_wp2_with fail
        refine (rtsame_any _ _ T T w9 (hown8.below b9) (htk8.below b9)).mono ?_
        rintro e wa ⟨rfl, ba⟩
        rw [decide_eq_true rfl]
        have b8a := b9.trans (ba.mono b9.size)
        go_wp2_with fail
        refine (rtexts_any _ _ (F.map bs) (F.map bs) wa (hnm8.below b8a) (hfs8.below b8a)).mono ?_
        rintro e wb ⟨rfl, hqb⟩
        rw [decide_eq_true rfl]
        have b8b := b8a.trans ((hqb.below wa.heap.size).mono b8a.size)
        have hBb := hB48.trans (b8b.mono hB48.size)
        have b3b : Below w3.heap.size w3 wb := b4.trans ((b48.trans (b8b.mono b48.size)).mono b4.size)
        have hbs : w.heap.size ≤ w2.heap.size := hB2.size
        have hs23 := b3.size
        have hs34 := b4.size
        have hs48 := b48.size
        have hs8b := b8b.size
        have Hrow3 := hid hrow3
        have Htoks3 := hid htoks3
        obtain ⟨hnr, hnb⟩ := NmRow.own hnm (by simp)
        have HNr := hid hnr
        have HNb := hid hnb
        have keepW : ∀ V, Apart w2.heap.size w4.heap.size wb V → V.heap[w5.heap.size]? = some (.cells #[.int .i64 st.kind, .string (bs st.name), .int .i64 st.expr.kind, .string (bs st.expr.name), .int .i64 st.expr.val.kind, .slice xa st.expr.val.shape.length xc, .slice xe st.expr.val.elems.length xec, .int .i64 st.expr.fn.kind, .int .i64 st.expr.fn.f, .int .i64 st.expr.fn.g, .string (bs st.expr.fn.name), .slice xb st.expr.fn.body.len xbc, .slice xk st.expr.kids.len xkc, .slice xd st.body.len xdc] 38) ∧ V.heap[w7.heap.size]? = some (.cells #[.int .i64 st.kind, .string (bs st.name), .int .i64 st.expr.kind, .string (bs st.expr.name), .int .i64 st.expr.val.kind, .slice ya st.expr.val.shape.length yc, .slice ye st.expr.val.elems.length yec, .int .i64 st.expr.fn.kind, .int .i64 st.expr.fn.f, .int .i64 st.expr.fn.g, .string (bs st.expr.fn.name), .slice yb st.expr.fn.body.len ybc, .slice yk st.expr.kids.len ykc, .slice yd st.body.len ydc] 38) ∧ IsS V (.agg #[.int .i64 st.kind, .string (bs st.name), .int .i64 st.expr.kind, .string (bs st.expr.name), .int .i64 st.expr.val.kind, .slice xa st.expr.val.shape.length xc, .slice xe st.expr.val.elems.length xec, .int .i64 st.expr.fn.kind, .int .i64 st.expr.fn.f, .int .i64 st.expr.fn.g, .string (bs st.expr.fn.name), .slice xb st.expr.fn.body.len xbc, .slice xk st.expr.kids.len xkc, .slice xd st.body.len xdc]) st ∧ IsS V (.agg #[.int .i64 st.kind, .string (bs st.name), .int .i64 st.expr.kind, .string (bs st.expr.name), .int .i64 st.expr.val.kind, .slice ya st.expr.val.shape.length yc, .slice ye st.expr.val.elems.length yec, .int .i64 st.expr.fn.kind, .int .i64 st.expr.fn.f, .int .i64 st.expr.fn.g, .string (bs st.expr.fn.name), .slice yb st.expr.fn.body.len ybc, .slice yk st.expr.kids.len ykc, .slice yd st.body.len ydc]) st := fun V hV => keep w2.heap.size V ⟨Nat.le_trans hs8b hV.1, fun q hq hh => (hV.2 q (by omega) hh).trans (b8b.block q hq)⟩
        have hTl : T.length ≤ 9223372036854775807 := by omega
        clear hA hB iA iB hown8 htk8 hnm8 hfs8 hB48 b9 ba b8a hown4 htk1 hnm4 hrow3' htoks3' b24 hB2 hB3 hrow1 htoks1 hf apB hqb hnm
        go_wp2_with fail
        go_loopw [14, 15, 72] (fun _ _ i wr => ∃ k : Nat, k ≤ T.length ∧ i = .int .i64 k ∧ Bumped w2.heap.size w3.heap.size wb wr ∧ Below w.heap.size w wr) (fun _ _ i _ => T.length - (intOf i).toNat)
        case atStart => exact ⟨0, by omega, rfl, Bumped.refl _ _ _, hBb⟩
        case round =>
          obtain ⟨k, hk, rfl, hBu, hBw⟩ := hrel
          by_cases hlt : k < T.length
          · have hd : decide (k < T.length) = true := by simpa using hlt
            have hki : (k : Int) < (T.length : Int) := by omega
            obtain ⟨g, vs, ve, cap, cur, hv, hg, hat, o1, o2⟩ := own_tok Hrow3.out Htoks3.out (List.getElem?_eq_getElem hlt)
            have hav : a3 = some ⟨g, 0, none⟩ ∧ c3 = cap := by cases hv; exact ⟨rfl, rfl⟩
            obtain ⟨rfl, rfl⟩ := hav
            generalize T[k] = t at *
            have hg3 := (b3b.block g (Array.getElem?_eq_some_iff.1 hg).1).trans hg
            have hat3 : TokAt wb g (k * 5) t vs ve := hat.below b3b
            have hAt : ∀ W, Bumped w2.heap.size w3.heap.size wb W → TokAt W g (k * 5) t vs ve := fun W hW => hat3.kept (hW.tok hg3)
            have O2 := hid (own_num o2)
            obtain ⟨as_, cs_, rfl⟩ := own_slice o1
            obtain ⟨ae, ce, rfl⟩ := own_slice o2
            have HAt := hid hAt
            have HB := hid b3b
            have ne1 : t.val.elems.length ≤ 9223372036854775807 := by
              obtain ⟨a, cap, e, h1, h2, -⟩ := (Ints.of_owns o2).parts
              omega
            clear hv hat hat3 hAt o1 o2 hg hg3
            obtain ⟨k0, k1, k2, k3, k4⟩ := HAt.out _ hBu
            generalize t.val.elems.length = ne at *
            clear k0 k1 k2 k3 k4
            obtain ⟨k0, k1, k2, k3, k4⟩ := HAt.out _ hBu
            go_wp2_with fail
            go_loopw [15, 82] (fun _ j wr1 => ∃ m : Nat, m ≤ ne ∧ j = .int .i64 m ∧ Bumped w2.heap.size w3.heap.size wb wr1 ∧ Below w.heap.size w wr1) (fun _ j _ => ne - (intOf j).toNat)
            case atStart => exact ⟨0, by omega, rfl, hBu, hBw⟩
            case round =>
              obtain ⟨m, hm, rfl, hBu1, hBw1⟩ := hrel
              clear hBu hBw
              by_cases hlm : m < ne
              · have dm : decide (m < ne) = true := by simpa using hlm
                have hmi : (m : Int) < (ne : Int) := by omega
                obtain ⟨q, qc, cs, hq, hqc, hqm, hqb, hqh, hqn⟩ := O2.out (by omega)
                obtain ⟨rfl, rfl⟩ : ae = some ⟨q, 0, none⟩ ∧ ce = qc := by cases hq; exact ⟨rfl, rfl⟩
                obtain ⟨x, hx⟩ := hqn m hlm
                have hql := (Array.getElem?_eq_some_iff.1 hqh).1
                have hq3 := (HB.out.block q hql).trans hqh
                obtain ⟨y, hy, hf⟩ := hBu1.num hq3 hx
                have Hset := hid (fun u => hBu1.set (i := m) hq3 (by decide) hqb hql u)
                obtain ⟨k0, k1, k2, k3, k4⟩ := HAt.out _ hBu1
                clear hq hqn hqh hq3 hx
                go_wp2_with fail
                go_roundw
                case rel => exact ⟨m + 1, by omega, by go_num, Hset.out _, hBw1.setCell (p := ⟨q, m, none⟩) (Nat.le_trans hbs hqb) _⟩
                case measure => simp [intOf]; omega
              · have dm : decide (m < ne) = false := by simpa using hlm
                obtain ⟨k0, k1, k2, k3, k4⟩ := HAt.out _ hBu1
                have hBu := hBu1
                have hBw := hBw1
                clear hBu1 hBw1
                go_wp2_with fail
                go_roundw
                case rel => exact ⟨k + 1, by omega, by go_num, hBu, hBw⟩
                case measure => simp [intOf]; omega
          · have hd : decide (k < T.length) = false := by simpa using hlt
            have hAp := Apart.of_bumped (hi2 := w4.heap.size) hBu hs34
            have hNr2 : NmRow F.length (.slice na F.length nc) wr := fun h0 => by
              obtain ⟨g, c, cs, e, h1, h2⟩ := HNr.out h0
              have hgb := HNb.out g (by rw [e]; rfl)
              have hgl := hgb.2
              exact ⟨g, c, cs, e, (hBu.far hgb.1 (by omega)).trans ((b8b.block g (by omega)).trans ((b48.block g hgl).trans h1)), h2⟩
            have hNg : ∀ g c, Value.slice na F.length nc = .slice (some ⟨g, 0, none⟩) F.length c → w2.heap.size ≤ g ∧ g < w4.heap.size := fun g c e => by
              have hgb := HNb.out g (by rw [e]; rfl)
              omega
            clear HNr HNb hBu
            go_wp2_with fail
            go_loopw [16, 100] (fun _ i wr1 => ∃ k : Nat, k ≤ F.length ∧ i = .int .i64 k ∧ Apart w2.heap.size w4.heap.size wb wr1 ∧ NmRow F.length (.slice na F.length nc) wr1 ∧ Below w.heap.size w wr1) (fun _ i _ => F.length - (intOf i).toNat)
            case atStart => exact ⟨0, by omega, rfl, hAp, hNr2, hBw⟩
            case round =>
              obtain ⟨m, hm, rfl, hAp1, hNr1, hBw1⟩ := hrel
              clear hAp hNr2 hBw
              by_cases hlm : m < F.length
              · have dm : decide (m < F.length) = true := by simpa using hlm
                have hmi : (m : Int) < (F.length : Int) := by omega
                obtain ⟨g, c, cs, e, h1, h2⟩ := hNr1 (by omega)
                have hgb := hNg g c e
                obtain ⟨rfl, rfl⟩ : na = some ⟨g, 0, none⟩ ∧ nc = c := by cases e; exact ⟨rfl, rfl⟩
                obtain ⟨z, hz⟩ := h2 m hlm
                have hcell : wr.cell? ⟨g, m, none⟩ = some (.string z) := by rw [Lib.cell_of_heap h1]; exact hz
                have hfr : wr.frozen? ⟨g, m, none⟩ = false := Lib.frozen_of_heap h1 m
                have hset := heap_set1 (i := m) h1 (.string ⟨#[120]⟩)
                have Hst := hid (show NmRow F.length (.slice (some ⟨g, 0, none⟩) F.length nc) (wr.setCell ⟨g, m, none⟩ (.string ⟨#[120]⟩)) from fun _ => ⟨g, _, _, rfl, hset, fun i hi => by
                  obtain ⟨z', hz'⟩ := h2 i hi
                  by_cases hk : m = i
                  · subst hk
                    have hlt := (Array.getElem?_eq_some_iff.1 hz').1
                    exact ⟨_, by rw [Array.getElem?_setIfInBounds_self_of_lt hlt]⟩
                  · exact ⟨z', by rw [Array.getElem?_setIfInBounds_ne hk]; exact hz'⟩⟩)
                clear e h1 h2 hz hset hNr1
                go_wp2_with fail
                go_roundw
                case rel => exact ⟨m + 1, by omega, by go_num, hAp1.set hgb.1 hgb.2 _, Hst.out, hBw1.setCell (p := ⟨g, m, none⟩) (Nat.le_trans hbs hgb.1) _⟩
                case measure => simp [intOf]; omega
              · have dm : decide (m < F.length) = false := by simpa using hlm
                obtain ⟨hA, hB, iA, iB⟩ := keepW _ hAp1
                have keepL : ∀ V, Below wr.heap.size wr V → V.heap[w5.heap.size]? = some (.cells #[.int .i64 st.kind, .string (bs st.name), .int .i64 st.expr.kind, .string (bs st.expr.name), .int .i64 st.expr.val.kind, .slice xa st.expr.val.shape.length xc, .slice xe st.expr.val.elems.length xec, .int .i64 st.expr.fn.kind, .int .i64 st.expr.fn.f, .int .i64 st.expr.fn.g, .string (bs st.expr.fn.name), .slice xb st.expr.fn.body.len xbc, .slice xk st.expr.kids.len xkc, .slice xd st.body.len xdc] 38) ∧ V.heap[w7.heap.size]? = some (.cells #[.int .i64 st.kind, .string (bs st.name), .int .i64 st.expr.kind, .string (bs st.expr.name), .int .i64 st.expr.val.kind, .slice ya st.expr.val.shape.length yc, .slice ye st.expr.val.elems.length yec, .int .i64 st.expr.fn.kind, .int .i64 st.expr.fn.f, .int .i64 st.expr.fn.g, .string (bs st.expr.fn.name), .slice yb st.expr.fn.body.len ybc, .slice yk st.expr.kids.len ykc, .slice yd st.body.len ydc] 38) ∧ IsS V (.agg #[.int .i64 st.kind, .string (bs st.name), .int .i64 st.expr.kind, .string (bs st.expr.name), .int .i64 st.expr.val.kind, .slice xa st.expr.val.shape.length xc, .slice xe st.expr.val.elems.length xec, .int .i64 st.expr.fn.kind, .int .i64 st.expr.fn.f, .int .i64 st.expr.fn.g, .string (bs st.expr.fn.name), .slice xb st.expr.fn.body.len xbc, .slice xk st.expr.kids.len xkc, .slice xd st.body.len xdc]) st ∧ IsS V (.agg #[.int .i64 st.kind, .string (bs st.name), .int .i64 st.expr.kind, .string (bs st.expr.name), .int .i64 st.expr.val.kind, .slice ya st.expr.val.shape.length yc, .slice ye st.expr.val.elems.length yec, .int .i64 st.expr.fn.kind, .int .i64 st.expr.fn.f, .int .i64 st.expr.fn.g, .string (bs st.expr.fn.name), .slice yb st.expr.fn.body.len ybc, .slice yk st.expr.kids.len ykc, .slice yd st.body.len ydc]) st := fun V hV => keepW V ⟨Nat.le_trans hAp1.1 hV.size, fun q hq hh => (hV.block q (by have := hAp1.1; omega)).trans (hAp1.2 q hq hh)⟩
                clear keep keepW hAp1 hNr1
                go_wp2_with (first | (refine wpList_load_rowE rfl 38 _ rfl w5.heap.size rfl 38 _ _ _ hA Tryz.underlying38 rfl (by kernel_rfl) ?_; go_simp) | (refine wpList_load_rowE rfl 38 _ rfl w7.heap.size rfl 38 _ _ _ hB Tryz.underlying38 rfl (by kernel_rfl) ?_; go_simp))
                refine (r8same_any st st _ _ wr hok1 hok2 hok1 hok2 iA iB).mono ?_
                rintro e wd ⟨rfl, bd⟩
                rw [decide_eq_true rfl]
                clear hA hB iA iB
                obtain ⟨hA, hB, iA, iB⟩ := keepL _ bd
                obtain ⟨p0, p1, p2, p3, p4, p5, p6, p7, p8, p9, p10, p11, p12, p13⟩ := st_facts hA
                obtain ⟨q0, q1, q2, q3, q4, q5, q6, q7, q8, q9, q10, q11, q12, q13⟩ := st_facts hB
                go_wp2_with fail
                refine (pSame_any st st _ _ wd hok1 hok2 hok1 hok2 iA iB).mono ?_
                rintro e we ⟨rfl, be⟩
                rw [decide_eq_true rfl]
                replace be := bd.trans (be.mono bd.size)
                clear hA hB iA iB p0 p1 p2 p3 p4 p5 p6 p7 p8 p9 p10 p11 p12 p13 q0 q1 q2 q3 q4 q5 q6 q7 q8 q9 q10 q11 q12 q13
                obtain ⟨hA, hB, iA, iB⟩ := keepL _ be
                obtain ⟨p0, p1, p2, p3, p4, p5, p6, p7, p8, p9, p10, p11, p12, p13⟩ := st_facts hA
                obtain ⟨q0, q1, q2, q3, q4, q5, q6, q7, q8, q9, q10, q11, q12, q13⟩ := st_facts hB
                have jE : IsE we (.agg #[.int .i64 st.expr.kind, .string (bs st.expr.name), .int .i64 st.expr.val.kind, .slice xa st.expr.val.shape.length xc, .slice xe st.expr.val.elems.length xec, .int .i64 st.expr.fn.kind, .int .i64 st.expr.fn.f, .int .i64 st.expr.fn.g, .string (bs st.expr.fn.name), .slice xb st.expr.fn.body.len xbc, .slice xk st.expr.kids.len xkc]) st.expr := by
                  obtain ⟨_, _, _, _, _, e, h1, h2, h3, h4, h5, h6⟩ := iA
                  simp only [Value.agg.injEq, Array.mk.injEq, List.cons.injEq, true_and, and_true] at e
                  obtain ⟨rfl, rfl, rfl, rfl, rfl⟩ := e
                  exact ⟨_, _, _, _, rfl, h1, h2, h3, h4, h5⟩
                have kE : IsE we (.agg #[.int .i64 st.expr.kind, .string (bs st.expr.name), .int .i64 st.expr.val.kind, .slice ya st.expr.val.shape.length yc, .slice ye st.expr.val.elems.length yec, .int .i64 st.expr.fn.kind, .int .i64 st.expr.fn.f, .int .i64 st.expr.fn.g, .string (bs st.expr.fn.name), .slice yb st.expr.fn.body.len ybc, .slice yk st.expr.kids.len ykc]) st.expr := by
                  obtain ⟨_, _, _, _, _, e, h1, h2, h3, h4, h5, h6⟩ := iB
                  simp only [Value.agg.injEq, Array.mk.injEq, List.cons.injEq, true_and, and_true] at e
                  obtain ⟨rfl, rfl, rfl, rfl, rfl⟩ := e
                  exact ⟨_, _, _, _, rfl, h1, h2, h3, h4, h5⟩
                go_wp2_with fail
                refine (sameExpr_any (st.expr.sz) st.expr st.expr _ _ we (Nat.le_refl _) hok1 hok1 jE kE).mono ?_
                rintro e wf ⟨rfl, bf⟩
                rw [decide_eq_true rfl]
                replace bf := be.trans (bf.mono be.size)
                clear hA hB iA iB p0 p1 p2 p3 p4 p5 p6 p7 p8 p9 p10 p11 p12 p13 q0 q1 q2 q3 q4 q5 q6 q7 q8 q9 q10 q11 q12 q13 jE kE
                obtain ⟨hA, hB, iA, iB⟩ := keepL _ bf
                obtain ⟨p0, p1, p2, p3, p4, p5, p6, p7, p8, p9, p10, p11, p12, p13⟩ := st_facts hA
                obtain ⟨q0, q1, q2, q3, q4, q5, q6, q7, q8, q9, q10, q11, q12, q13⟩ := st_facts hB
                have jL : IsTs wf (.slice xd st.body.len xdc) st.body := by
                  obtain ⟨_, _, _, _, _, e, h1, h2, h3, h4, h5, h6⟩ := iA
                  simp only [Value.agg.injEq, Array.mk.injEq, List.cons.injEq, true_and, and_true] at e
                  obtain ⟨rfl, rfl, rfl, rfl, rfl⟩ := e
                  exact h6
                have kL : IsTs wf (.slice yd st.body.len ydc) st.body := by
                  obtain ⟨_, _, _, _, _, e, h1, h2, h3, h4, h5, h6⟩ := iB
                  simp only [Value.agg.injEq, Array.mk.injEq, List.cons.injEq, true_and, and_true] at e
                  obtain ⟨rfl, rfl, rfl, rfl, rfl⟩ := e
                  exact h6
                go_wp2_with fail
                refine (sameLines_step (st.body.sz) (sameExpr_any _) st.body st.body _ _ wf (Nat.le_refl _) hok2 hok2 jL kL).mono ?_
                rintro e wg ⟨rfl, bg⟩
                rw [decide_eq_true rfl]
                go_wp2_with fail
                go_ret
                exact ⟨rfl, hBw1.trans ((bf.trans (bg.mono bf.size)).mono hBw1.size)⟩
end Go.Proofs.YthlingdlehdlhaaGreatDoor.Par
