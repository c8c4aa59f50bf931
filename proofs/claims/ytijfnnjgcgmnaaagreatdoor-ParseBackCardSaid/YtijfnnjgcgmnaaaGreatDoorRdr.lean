/- lex's reader: numbers.
   lex's reader: chars.
   The package variables that the reading reads. -/
import Derived.Test.YtijfnnjgcgmnaaaGreatDoorTok
import Derived.Test.YtijfnnjgcgmnaaaGreatDoorChars
import Derived.Test.YtijfnnjgcgmnaaaGreatDoorArrB
namespace Go.Proofs.YtijfnnjgcgmnaaaGreatDoor
open Go.RowKit Go.Shelf
set_option linter.unusedVariables false
set_option linter.unusedSimpArgs false

/-- A token whose array lies in memory of its own. -/
def TokOwn (w : World) (base : Nat) (v : Value) (t : Tok) : Prop := ∃ vs ve, v = .agg #[.int .i64 t.kind, .string (bs t.txt), .int .i64 t.val.kind, vs, ve] ∧
  w.ownsRow base 3 1 vs t.val.shape.length (t.val.shape.map (.int .i64)) ∧ w.ownsRow base 2 1 ve t.val.elems.length (t.val.elems.map (.int .i64)) ∧ Rng t.val.elems
theorem TokOwn.below {w w' : World} {base : Nat} {v : Value} {x : Tok} (h : TokOwn w base v x) (hb : Below w.heap.size w w') : TokOwn w' base v x :=
  let ⟨vs, ve, e, h1, h2, h3⟩ := h
  ⟨vs, ve, e, owns_below h1 hb, owns_below h2 hb, h3⟩
theorem TokOwn.mono {w : World} {base base' : Nat} {v : Value} {x : Tok} (h : TokOwn w base v x) (hb : base' ≤ base) : TokOwn w base' v x :=
  let ⟨vs, ve, e, h1, h2, h3⟩ := h
  ⟨vs, ve, e, owns_mono h1 hb, owns_mono h2 hb, h3⟩
theorem owns_grown {A B : World} {b base e size : Nat} {v : Value} {n : Nat} {xs : List Value} (h : A.ownsRow base e size v n xs) (hg : A.grownBy B (some b)) (hb : b < base) : B.ownsRow base e size v n xs := by
  obtain ⟨h1, h2 | ⟨g, cap, cur, hv, h3, h4, h5⟩⟩ := h
  · exact ⟨h1, .inl h2⟩
  · exact ⟨h1, .inr ⟨g, cap, cur, hv, h3, (hg.block g (Array.getElem?_eq_some_iff.1 h4).1 (by simp; omega)).trans h4, h5⟩⟩
theorem TokOwn.grown {w w' : World} {base b : Nat} {v : Value} {x : Tok} (h : TokOwn w base v x) (hg : w.grownBy w' (some b)) (hb : b < base) : TokOwn w' base v x :=
  let ⟨vs, ve, e, h1, h2, h3⟩ := h
  ⟨vs, ve, e, owns_grown h1 hg hb, owns_grown h2 hg hb, h3⟩
def sliceLen : Value → Nat
  | .slice _ n _ => n
  | _ => 0

theorem numVal_rng (l : List UInt8) : -9223372036854775808 ≤ numVal l ∧ numVal l ≤ 9223372036854775807 := by
  unfold numVal
  split
  · rename_i v h
    have := Lib.parseIntB_bounds h
    omega
  · unfold Lib.intSat
    split <;> omega
  · omega

theorem rng_snoc {xs : List Int} {r : Int} (h : Rng xs) (hr : -9223372036854775808 ≤ r ∧ r ≤ 9223372036854775807) : Rng (xs ++ [r]) := by
  intro i hi
  by_cases h1 : i < xs.length
  · rw [List.getElem?_append_left h1]; exact h i h1
  · obtain rfl : i = xs.length := by simp at hi; omega
    simpa using hr

theorem errVars_lt {w : World} (hE : ErrVars w) : 6 < w.heap.size ∧ 7 < w.heap.size := by
  have key : ∀ (n : String) (g : Nat) cs, Tryz.prog.globalNamed n = some g → w.var? Tryz.prog n = some cs → g < w.heap.size := by
    intro n g cs hn hv
    unfold World.var? at hv
    rw [hn] at hv
    simp only [Option.bind_some] at hv
    rcases Nat.lt_or_ge g w.heap.size with h' | h'
    · exact h'
    · rw [Array.getElem?_eq_none h'] at hv; cases hv
  obtain ⟨⟨tp, p, e1⟩, ⟨tp', p', e2⟩⟩ := hE
  exact ⟨key _ _ _ (by kernel_rfl) e1, key _ _ _ (by kernel_rfl) e2⟩
theorem errVars_blocks {w w' : World} (hE : ErrVars w) (h1 : w'.heap[(6 : Nat)]? = w.heap[(6 : Nat)]?) (h2 : w'.heap[(7 : Nat)]? = w.heap[(7 : Nat)]?) : ErrVars w' := by
  have key : ∀ (n : String) (g : Nat) cs, Tryz.prog.globalNamed n = some g → w'.heap[g]? = w.heap[g]? → w.var? Tryz.prog n = some cs → w'.var? Tryz.prog n = some cs := by
    intro n g cs hn hh hv
    unfold World.var? at hv ⊢
    rw [hn] at hv ⊢
    simp only [Option.bind_some] at hv ⊢
    rw [hh]
    exact hv
  obtain ⟨⟨tp, p, e1⟩, ⟨tp', p', e2⟩⟩ := hE
  exact ⟨⟨tp, p, key _ _ _ (by kernel_rfl) h1 e1⟩, ⟨tp', p', key _ _ _ (by kernel_rfl) h2 e2⟩⟩
theorem errVars_below {w w' : World} (hE : ErrVars w) (hb : Below w.heap.size w w') : ErrVars w' :=
  errVars_blocks hE (hb.block _ (errVars_lt hE).1) (hb.block _ (errVars_lt hE).2)
theorem grown_own {w A C : World} {b : Nat} {r : Option Nat} (h : w.grownBy A (some b)) (k : A.grownBy C r) (hr : ∀ q, r = some q → w.heap.size ≤ q) : w.grownBy C (some b) :=
  ⟨k.os.trans h.os, k.tape.trans h.tape, k.output.trans h.output, Nat.le_trans h.size k.size, fun j hj hne => (k.block j (Nat.lt_of_lt_of_le hj h.size) (fun e => by have := hr j e.symm; omega)).trans (h.block j hj hne)⟩
theorem grown_alloc {w A : World} {b : Nat} (h : w.grownBy A (some b)) (o : Obj) : w.grownBy (A.alloc o) (some b) :=
  grown_below h ((Below.refl _ _).alloc (Nat.le_refl _) o)
theorem IsRd.set2 {w : World} {b : Nat} {l : List UInt8} {bad much : Bool} (h : IsRd w b l bad much) (m : Bool) : IsRd (w.setCell ⟨b, 2, none⟩ (.bool m)) b l bad m := by
  unfold IsRd at *
  simp [World.setCell, Array.getElem?_modify, h]

theorem owns_put5 {A : World} {R base e size n : Nat} {v : Value} {xs : List Value} (h : A.ownsRow base e size v n xs) (hR : R < base) (a0 a1 a2 a3 a4 : Value) :
    (((((A.setCell ⟨R, 0, none⟩ a0).setCell ⟨R, 1, none⟩ a1).setCell ⟨R, 2, none⟩ a2).setCell ⟨R, 3, none⟩ a3).setCell ⟨R, 4, none⟩ a4).ownsRow base e size v n xs :=
  ownsRow_setCell_below (ownsRow_setCell_below (ownsRow_setCell_below (ownsRow_setCell_below (ownsRow_setCell_below h hR _) hR _) hR _) hR _) hR _
theorem rd_put5 {A : World} {R b : Nat} {l : List UInt8} {bad much : Bool} (h : IsRd A b l bad much) (hR : b ≠ R) (a0 a1 a2 a3 a4 : Value) :
    IsRd (((((A.setCell ⟨R, 0, none⟩ a0).setCell ⟨R, 1, none⟩ a1).setCell ⟨R, 2, none⟩ a2).setCell ⟨R, 3, none⟩ a3).setCell ⟨R, 4, none⟩ a4) b l bad much := by
  unfold IsRd at h ⊢
  rw [Below.heap_setCell _ _ _ _ hR, Below.heap_setCell _ _ _ _ hR, Below.heap_setCell _ _ _ _ hR, Below.heap_setCell _ _ _ _ hR, Below.heap_setCell _ _ _ _ hR]
  exact h
theorem grown_put5 {w A : World} {R b : Nat} (h : w.grownBy A (some b)) (hR : w.heap.size ≤ R) (a0 a1 a2 a3 a4 : Value) :
    w.grownBy (((((A.setCell ⟨R, 0, none⟩ a0).setCell ⟨R, 1, none⟩ a1).setCell ⟨R, 2, none⟩ a2).setCell ⟨R, 3, none⟩ a3).setCell ⟨R, 4, none⟩ a4) (some b) :=
  grown_put (grown_put (grown_put (grown_put (grown_put h (.inr hR)) (.inr hR)) (.inr hR)) (.inr hR)) (.inr hR)
abbrev zeroTok : Array Value := #[.int .i64 0, .string ⟨#[]⟩, .int .i64 0, .slice none 0 0, .slice none 0 0]

set_option maxRecDepth 100000 in
set_option maxHeartbeats 4000000 in
theorem numbers_any (b : Nat) (l : List UInt8) (bad much : Bool) (w : World) (hr : IsRd w b l bad much) (hl : l.length ≤ 1000000) (hE : ErrVars w) (hb1 : b ≠ 6) (hb2 : b ≠ 7) :
    Calls Tryz.prog 122 #[.pointer (some ⟨b, 0, none⟩)] w fun e w' => (∃ v, e = .returned v ∧ TokOwn w' w.heap.size v ⟨1, [], numsArr (numsFrom l.length l).1⟩) ∧
      IsRd w' b (numsFrom l.length l).2.1 (bad || (numsFrom l.length l).2.2) (much || decide (4096 < (numsFrom l.length l).1.length)) ∧ w.grownBy w' (some b) := by
  have hlt : b < w.heap.size := (Array.getElem?_eq_some_iff.1 hr).1
  obtain ⟨i0, hi, hz0, hz1, hz2⟩ := info_parts (show (Tryz.prog.info? 2).map (fun i => (i.zero, i.size, i.bytes)) = some (some (.int .i64 0), 1, 8) by kernel_rfl)
  have hgl := errVars_lt hE
  obtain ⟨X, hX⟩ : ∃ X, (numsFrom l.length l).1 = X := ⟨_, rfl⟩
  obtain ⟨L, hL⟩ : ∃ L, (numsFrom l.length l).2.1 = L := ⟨_, rfl⟩
  obtain ⟨B, hB⟩ : ∃ B, (bad || (numsFrom l.length l).2.2) = B := ⟨_, rfl⟩
  rw [hX, hL, hB]
  go_enter Tryz.func122, Tryz.ntmps122
  go_wp2_with fail
  go_loopw [3] (fun v wr => ∃ (fuel : Nat) (l1 : List UInt8) (bad1 : Bool) (acc : List Int), IsRd wr b l1 bad1 much ∧ wr.ownsRow (w.heap.size + 1) 2 1 v acc.length (acc.map (.int .i64)) ∧ w.grownBy wr (some b) ∧
      wr.heap[w.heap.size]? = some (.cells zeroTok 88) ∧ ErrVars wr ∧ Hid (acc ++ (numsFrom fuel l1).1 = X) ∧ Hid ((numsFrom fuel l1).2.1 = L) ∧ Hid ((bad1 || (numsFrom fuel l1).2.2) = B) ∧ l1.length ≤ fuel ∧ acc.length + l1.length ≤ l.length ∧ Rng acc)
    (fun v _ => l.length + 1 - sliceLen v)
  case atStart =>
    refine ⟨l.length, l, bad, [], (heap_alloc_old w _ hlt).trans hr, World.ownsRow_nil _ _ _ _, ⟨rfl, rfl, rfl, by simp, fun j hj _ => heap_alloc_old w _ hj⟩, heap_alloc_new _ _, errVars_below hE ((Below.refl _ w).alloc (Nat.le_refl _) _), hid hX, hid hL, hid hB, Nat.le_refl _, by simp, fun i hi => by simp at hi⟩
  case round =>
    obtain ⟨fuel, l1, bad1, acc, hr1, hrow, hg1, hT, hE1, HX, HL, HB, hfu, hlen, hrng⟩ := hrel
    have hszw : w.heap.size + 1 ≤ _ := (Array.getElem?_eq_some_iff.1 hT).1
    clear hX hL hB hE hr
    cases hn : numB l1 with
    | true =>
      have hlt1 := numLeft_lt hn
      obtain ⟨f, rfl⟩ : ∃ f, fuel = f + 1 := ⟨fuel - 1, by omega⟩
      have hst : numsFrom (f + 1) l1 = (numVal l1 :: (numsFrom f (Lib.trimLeftB (numLeft l1) 32)).1, (numsFrom f (Lib.trimLeftB (numLeft l1) 32)).2.1, numBad l1 || (numsFrom f (Lib.trimLeftB (numLeft l1) 32)).2.2) := by rw [numsFrom, if_pos hn]
      have htl := trimLeft_len (numLeft l1) 32
      have HX2 : Hid ((acc ++ [numVal l1]) ++ (numsFrom f (Lib.trimLeftB (numLeft l1) 32)).1 = X) := hid (by rw [← HX.out, hst, List.append_assoc]; rfl)
      have HL2 : Hid ((numsFrom f (Lib.trimLeftB (numLeft l1) 32)).2.1 = L) := hid (by rw [← HL.out, hst])
      have HB2 : Hid ((bad1 || numBad l1 || (numsFrom f (Lib.trimLeftB (numLeft l1) 32)).2.2) = B) := hid (by rw [← HB.out, hst, Bool.or_assoc])
      have hrg2 := rng_snoc hrng (numVal_rng l1)
      clear hst HX HL HB
      go_wp2_with fail
      refine (numeric_any b l1 bad1 much _ hr1 (by omega)).mono ?_
      rintro e w' ⟨rfl, rfl⟩
      rw [hn]
      clear hn
      go_wp2_with fail
      refine (number_any b l1 bad1 much _ hr1 (by omega) hE1 hb1 hb2).mono ?_
      rintro e w2 ⟨rfl, hr2, hg2⟩
      have hrow2 := owns_grown hrow hg2 (by omega)
      have hG2 := grown_trans hg1 hg2
      have hT2 := (hg2.block w.heap.size (by omega) (by simp; omega)).trans hT
      have hE2 := errVars_grown hE1 hg2 hb1 hb2
      have hsz2 : w.heap.size + 1 ≤ w2.heap.size := (Array.getElem?_eq_some_iff.1 hT2).1
      obtain ⟨av, cv, rfl⟩ := own_slice hrow2
      have hne : (Value.slice av acc.length cv).ownBlock ≠ some b := fun e => by have := (hrow2.lt _ e).1; omega
      have hneT : (Value.slice av acc.length cv).ownBlock ≠ some w.heap.size := fun e => by have := (hrow2.lt _ e).1; omega
      have hrd2 : IsRd (w2.alloc (.cells #[.int .i64 (numVal l1)] 2)) b (numLeft l1) (bad1 || numBad l1) much := hr2.below ((Below.refl _ _).alloc (Nat.le_refl _) _)
      have hgA := grown_alloc hG2 (.cells #[.int .i64 (numVal l1)] 2)
      generalize numVal l1 = r at *
      clear hr1 hrow hg1 hT hE1 hg2
      go_wp2_with (at_builtin; go_must (refine wpList_append_own _ rfl _ _ 26 rfl (w.heap.size + 1) 2 i0 (.int .i64 0) 1 8 Tryz.underlying26 hi hz0 hz1 hz2 rfl (by decide) _ _ _ rfl (hrow2.alloc _) ⟨w2.heap.size, 0, none⟩ 1 1 [.int .i64 r] rfl rfl (one_new w2 (.int .i64 r) 2) (by simp [Value.oneCell']) (by simp [maxLen]; omega) (by omega) (by simp; omega) ?_); intro v' w3 hown' hgrow _; obtain ⟨g', cap', rfl⟩ := ownsRow_succ hown')
      have hlo := fun q e => (hrow2.lt q e).1
      have hg3 := grown_own hgA hgrow (fun q e => by have := hlo q e; omega)
      have hr3 : IsRd w3 b (numLeft l1) (bad1 || numBad l1) much := (hgrow.block b (by simp; have := hG2.size; omega) (Ne.symm hne)).trans hrd2
      have hT3 := (hgrow.block w.heap.size (by simp; omega) (Ne.symm hneT)).trans ((heap_alloc_old _ _ (by omega)).trans hT2)
      have hE3 : ErrVars w3 := errVars_blocks hE2 ((hgrow.block _ (by simp; have := (errVars_lt hE2).1; omega) (fun e => by have := hlo _ e.symm; omega)).trans (heap_alloc_old _ _ (errVars_lt hE2).1)) ((hgrow.block _ (by simp; have := (errVars_lt hE2).2; omega) (fun e => by have := hlo _ e.symm; omega)).trans (heap_alloc_old _ _ (errVars_lt hE2).2))
      clear hrd2 hgA hgrow hE2 hT2 hrow2 hr2 hne hneT hlo
      refine (blanks_any b (numLeft l1) (bad1 || numBad l1) much _ hr3).mono ?_
      rintro e w4 ⟨rfl, hr4, hg4⟩
      go_wp2_with fail
      go_roundw
      case rel =>
        exact ⟨f, _, _, acc ++ [r], hr4, owns_grown (by simpa using hown') hg4 (by omega), grown_trans hg3 hg4, (hg4.block w.heap.size (Array.getElem?_eq_some_iff.1 hT3).1 (by simp; omega)).trans hT3, errVars_grown hE3 hg4 hb1 hb2, HX2, HL2, HB2, by omega, by simp; omega, hrg2⟩
      case measure => simp [sliceLen]; omega
    | false =>
      have hst : numsFrom fuel l1 = ([], l1, false) := by cases fuel <;> simp [numsFrom, hn]
      have HX2 : Hid (acc = X) := hid (by rw [← HX.out, hst, List.append_nil])
      have HL2 : Hid (l1 = L) := hid (by rw [← HL.out, hst])
      have HB2 : Hid (bad1 = B) := hid (by rw [← HB.out, hst, Bool.or_false])
      clear hst HX HL HB
      go_wp2_with fail
      refine (numeric_any b l1 bad1 much _ hr1 (by omega)).mono ?_
      rintro e wr ⟨rfl, rfl⟩
      rw [hn]
      clear hn
      obtain rfl := HX2.out
      obtain rfl := HL2.out
      obtain rfl := HB2.out
      obtain ⟨c0, c1, c2, f0, f1, f2⟩ := hr1.cells
      obtain ⟨av, cv, rfl⟩ := own_slice hrow
      have hm : (∃ m : Bool, Hid ((much || decide (4096 < acc.length)) = m) ∧ ((much = true ∧ m = true) ∨ (much = false ∧ m = true ∧ decide ((4096 : Int) < (acc.length : Int)) = true) ∨ (much = false ∧ m = false ∧ decide ((4096 : Int) < (acc.length : Int)) = false))) := by
        cases much
        · by_cases h4 : 4096 < acc.length
          · exact ⟨true, hid (by simp [h4]), .inr (.inl ⟨rfl, rfl, by simp; omega⟩)⟩
          · exact ⟨false, hid (by simp [h4]), .inr (.inr ⟨rfl, rfl, by simp; omega⟩)⟩
        · exact ⟨true, hid rfl, .inl ⟨rfl, rfl⟩⟩
      obtain ⟨m, HM, hm⟩ := hm
      have hbw : b < wr.heap.size := Nat.lt_of_lt_of_le hlt hg1.size
      have hrm := hr1.set2 m
      have hgm := grown_put (v := .bool m) hg1 (p := ⟨b, 2, none⟩) (.inl rfl)
      have hTm := (Below.heap_setCell wr ⟨b, 2, none⟩ (.bool m) w.heap.size (by simp; omega)).trans hT
      have hrowm := ownsRow_setCell_below (a := ⟨b, 2, none⟩) hrow (by simp; omega) (.bool m)
      rcases hm with ⟨rfl, rfl⟩ | ⟨rfl, rfl, t⟩ | ⟨rfl, rfl, t⟩
      all_goals
        by_cases h1 : acc.length = 1
        · have t1 : ((acc.length : Int) == 1) = true := by simp [h1]
          obtain ⟨x, rfl⟩ : ∃ x, acc = [x] := List.length_eq_one_iff.1 h1
          have hx : -9223372036854775808 ≤ x ∧ x ≤ 9223372036854775807 := by simpa using hrng 0 (by simp)
          obtain ⟨bb, oo, rfl, hcx⟩ := (Ints.of_owns hrowm).cell 0 (by simp)
          simp only [Nat.add_zero, List.getElem?_cons_zero, Option.getD_some] at hcx
          have HA : Hid (numsArr [x] = ⟨1, [], [x]⟩) := hid rfl
          clear h1
          go_wp2_with fail
          all_goals
            refine (scalar_own x _ hx.1 hx.2).mono ?_
            rintro e w6 ⟨⟨v6, rfl, vs, ve, rfl, o1, o2, o3⟩, hb6⟩
            obtain ⟨aS, cS, rfl⟩ := own_slice o1
            obtain ⟨aE, cE, rfl⟩ := own_slice o2
            have hT6 := (hb6.block w.heap.size (by simp; omega)).trans hTm
            have hr6 := hrm.below hb6
            have hg6 := grown_below hgm hb6
            obtain ⟨k0, k1, k2, k3, k4, q0, q1, q2, q3, q4⟩ := five_facts hT6
            clear hTm hrm hgm hrowm hr1 hrow hg1 hT hb6 c0 c1 c2 f0 f1 f2
            go_wp2_with fail
            have hW := set5 hT6 (.int .i64 1) (.string ⟨#[]⟩) (.int .i64 1) (.slice aS 0 cS) (.slice aE 1 cE)
            refine bodyPost_ret (results_cell_row rfl _ _ w.heap.size _ _ _ _ rfl hW Tryz.underlying88 rfl (by kernel_rfl)) rfl ?_
            rw [HM.out, HA.out]
            exact ⟨⟨_, rfl, _, _, rfl, owns_mono (owns_put5 o1 (by simp; omega) _ _ _ _ _) (by simp; omega), owns_mono (owns_put5 o2 (by simp; omega) _ _ _ _ _) (by simp; omega), o3⟩, rd_put5 hr6 (by omega) _ _ _ _ _, grown_put5 hg6 (Nat.le_refl _) _ _ _ _ _⟩
        · have t1 : ((acc.length : Int) == 1) = false := by rw [beq_eq_false_iff_ne]; omega
          have HA : Hid (numsArr acc = ⟨1, [(acc.length : Int)], acc⟩) := hid (by unfold numsArr; rw [if_neg h1])
          clear h1
          go_wp2_with fail
          refine (vector_own _ acc _ (Ints.of_owns hrowm) hrng (by omega)).mono ?_
          rintro e w6 ⟨⟨v6, rfl, vs, ve, rfl, o1, o2, o3⟩, hb6⟩
          obtain ⟨aS, cS, rfl⟩ := own_slice o1
          obtain ⟨aE, cE, rfl⟩ := own_slice o2
          have hT6 := (hb6.block w.heap.size (by simp; omega)).trans hTm
          have hr6 := hrm.below hb6
          have hg6 := grown_below hgm hb6
          obtain ⟨k0, k1, k2, k3, k4, q0, q1, q2, q3, q4⟩ := five_facts hT6
          clear hTm hrm hgm hrowm hr1 hrow hg1 hT hb6 c0 c1 c2 f0 f1 f2
          go_wp2_with fail
          have hW := set5 hT6 (.int .i64 1) (.string ⟨#[]⟩) (.int .i64 1) (.slice aS 1 cS) (.slice aE acc.length cE)
          refine bodyPost_ret (results_cell_row rfl _ _ w.heap.size _ _ _ _ rfl hW Tryz.underlying88 rfl (by kernel_rfl)) rfl ?_
          rw [HM.out, HA.out]
          exact ⟨⟨_, rfl, _, _, rfl, owns_mono (owns_put5 o1 (by simp; omega) _ _ _ _ _) (by simp; omega), owns_mono (owns_put5 o2 (by simp; omega) _ _ _ _ _) (by simp; omega), o3⟩, rd_put5 hr6 (by omega) _ _ _ _ _, grown_put5 hg6 (Nat.le_refl _) _ _ _ _ _⟩
end Go.Proofs.YtijfnnjgcgmnaaaGreatDoor

namespace Go.Proofs.YtijfnnjgcgmnaaaGreatDoor
open Go.RowKit Go.Shelf
set_option linter.unusedVariables false
set_option linter.unusedSimpArgs false

def rdLen (w : World) (b : Nat) : Nat := match (w.heap[b]? : Option Obj) with
  | some (.cells cs _ _) => (match (cs[0]? : Option Value) with | some (Value.string s) => s.size | _ => 0)
  | _ => 0
theorem IsRd.len {w : World} {b : Nat} {l : List UInt8} {bad much : Bool} (h : IsRd w b l bad much) : rdLen w b = l.length := by
  unfold rdLen; unfold IsRd at h; rw [h]; exact bs_size l
theorem strCells_bs (l : List UInt8) : Lib.strCells (bs l) = Lib.byteCells l := rfl
theorem byteCells_append (a b : List UInt8) : Lib.byteCells a ++ Lib.byteCells b = Lib.byteCells (a ++ b) := by simp [Lib.byteCells]
theorem maxLen_belowB {A C : World} {m : Int} {B : Nat} (h : A.cell? ⟨4, 0, none⟩ = some (.int .i64 m)) (hb : Below B A C) (hB : 4 < B) : C.cell? ⟨4, 0, none⟩ = some (.int .i64 m) :=
  (World.cell?_of_block (hb.block _ hB)).trans h
theorem maxLen_grown {w w' : World} {m : Int} {b : Nat} (h : w.cell? ⟨4, 0, none⟩ = some (.int .i64 m)) (hg : w.grownBy w' (some b)) (hb : b ≠ 4) : w'.cell? ⟨4, 0, none⟩ = some (.int .i64 m) :=
  (hg.cell_far ⟨4, 0, none⟩ (World.block_lt_of_cell? w _ h) (by simpa using Ne.symm hb)).trans h

theorem IsRd.belowB {A C : World} {b B : Nat} {l : List UInt8} {bad much : Bool} (h : IsRd A b l bad much) (hb : Below B A C) (hB : b < B) : IsRd C b l bad much := (hb.block b hB).trans h
theorem grown_belowB {w A C : World} {b B : Nat} (h : w.grownBy A (some b)) (hb : Below B A C) (hB : w.heap.size ≤ B) : w.grownBy C (some b) :=
  ⟨hb.os.trans h.os, hb.tape.trans h.tape, hb.output.trans h.output, Nat.le_trans h.size hb.size, fun j hj hne => (hb.block j (Nat.lt_of_lt_of_le hj hB)).trans (h.block j hj hne)⟩
theorem builderAt_grown {T e : TypeId} {B c b : Nat} {p : Value} {xs : List Value} {A C : World} (h : Lib.BuilderAtF T e B c p xs A) (hg : A.grownBy C (some b)) (hb : b < B) : Lib.BuilderAtF T e B c p xs C := by
  obtain ⟨h1, v, h2, ⟨h3, h4⟩, h5⟩ := h
  refine ⟨h1, v, (hg.block c (Array.getElem?_eq_some_iff.1 h2).1 (by simp; omega)).trans h2, ⟨h3, ?_⟩, h5⟩
  rcases h4 with h4 | ⟨g, cap, cur, fz, e1, e2, e3, e4⟩
  · exact .inl h4
  · exact .inr ⟨g, cap, cur, fz, e1, e2, (hg.block g (Array.getElem?_eq_some_iff.1 e3).1 (by simp; omega)).trans e3, e4⟩
theorem builder_grown {T e : TypeId} {B c b : Nat} {xs : List Value} {A C : World} (h : Lib.IsBuilderF T e B c xs A) (hg : A.grownBy C (some b)) (hb : b < B) : Lib.IsBuilderF T e B c xs C :=
  h.imp (fun h => builderAt_grown h hg hb) (fun h => builderAt_grown h hg hb)
theorem grown_self (A : World) (b i : Nat) (v : Value) : A.grownBy (A.setCell ⟨b, i, none⟩ v) (some b) :=
  ⟨rfl, rfl, rfl, by simp [World.setCell], fun j _ hne => Below.heap_setCell A ⟨b, i, none⟩ v j (fun e => hne (by rw [e]))⟩
theorem _root_.Go.Lib.IsBuilderF.set_other {T e : TypeId} {B c : Nat} {xs : List Value} {A : World} (h : Lib.IsBuilderF T e B c xs A) (b i : Nat) (v : Value) (hb : b < B) : Lib.IsBuilderF T e B c xs (A.setCell ⟨b, i, none⟩ v) :=
  builder_grown h (grown_self A b i v) hb
theorem quoted_len1 (l : List UInt8) : (quoted l).1.length ≤ l.length := by
  induction h : l.length using Nat.strongRecOn generalizing l with
  | _ n ih =>
    subst h
    cases l with
    | nil => simp [quoted_nil]
    | cons c r =>
      rw [quoted_cons]
      split
      · cases r with
        | nil => simp
        | cons d r' =>
          simp only
          split
          · have := ih r'.length (by simp; omega) r' rfl
            simp only [List.length_cons]; omega
          · simp
      · have := ih r.length (by simp) r rfl
        simp only [List.length_cons]; omega

set_option maxRecDepth 100000 in
set_option maxHeartbeats 4000000 in
theorem rdchars_any (b : Nat) (l : List UInt8) (bad much : Bool) (w : World) (m : Int) (hr : IsRd w b (39 :: l) bad much) (hl : l.length ≤ 900000)
    (hm : w.cell? ⟨4, 0, none⟩ = some (.int .i64 m)) (hbm : b ≠ 4) :
    Calls Tryz.prog 123 #[.pointer (some ⟨b, 0, none⟩)] w fun e w' => (∃ v, e = .returned v ∧ TokOwn w' w.heap.size v ⟨1, [], chrsArr (runesOf (bs (quoted l).1))⟩) ∧
      IsRd w' b ((quoted l).2.getD []) (bad || (quoted l).2.isNone) (much || decide (4096 < (runesOf (bs (quoted l).1)).length)) ∧ w.grownBy w' (some b) := by
  have hlt : b < w.heap.size := (Array.getElem?_eq_some_iff.1 hr).1
  have hB1 : ∀ o o', Below w.heap.size w ((w.alloc o).alloc o') := fun o o' => ((Below.refl _ w).alloc (Nat.le_refl _) o).alloc (by simp) o'
  have hr0 := fun o o' => hr.below (hB1 o o')
  obtain ⟨Q1, hQ1⟩ : ∃ q, (quoted l).1 = q := ⟨_, rfl⟩
  obtain ⟨Q2, hQ2⟩ : ∃ q, (quoted l).2 = q := ⟨_, rfl⟩
  have HQ1 := hid hQ1
  have HQ2 := hid hQ2
  have hql : Q1.length ≤ l.length := by rw [← hQ1]; exact quoted_len1 l
  have HLT := hid (show 4 < w.heap.size + 1 from Nat.lt_succ_of_lt (World.block_lt_of_cell? w _ hm))
  rw [hQ1, hQ2]
  clear hQ1 hQ2
  go_enter Tryz.func123, Tryz.ntmps123
  go_wp2_with fail
  refine (take_any b 1 (39 :: l) bad much _ (hr0 _ _) (by simp) (by simp; omega)).mono ?_
  rintro e w1 ⟨rfl, hr1, hg1⟩
  have hG1 : w.grownBy w1 (some b) := ⟨hg1.os, hg1.tape, hg1.output, by have := hg1.size; simp at this; omega, fun j hj hne => (hg1.block j (by simp; omega) hne).trans ((hB1 _ _).block j hj)⟩
  have hT1 : w1.heap[w.heap.size]? = some (.cells zeroTok 88) := (hg1.block w.heap.size (by simp; omega) (by simp; omega)).trans ((heap_alloc_old _ _ (by simp)).trans (heap_alloc_new _ _))
  have hF1 := builder_grown (fresh_builder (B := w.heap.size + 1) (b := w.heap.size + 1) (w := w.alloc (.cells zeroTok 88)) (by simp) (Nat.le_refl _)) hg1 (by omega)
  have hM1 := maxLen_grown hm hG1 hbm
  have hz1 : w.heap.size + 2 ≤ w1.heap.size := by have := hg1.size; simp at this; omega
  clear hg1 hB1 hr0 hr
  go_wp2_with fail
  go_loopw [] (fun wr => ∃ (l1 acc : List UInt8), IsRd wr b l1 bad much ∧ Lib.IsBuilderF 73 5 (w.heap.size + 1) (w.heap.size + 1) (Lib.byteCells acc) wr ∧ w.grownBy wr (some b) ∧
      wr.heap[w.heap.size]? = some (.cells zeroTok 88) ∧ Hid (acc ++ (quoted l1).1 = Q1) ∧ Hid ((quoted l1).2 = Q2) ∧ acc.length + l1.length ≤ l.length ∧ wr.cell? ⟨4, 0, none⟩ = some (.int .i64 m) ∧ w.heap.size + 2 ≤ wr.heap.size)
    (fun wr => rdLen wr b)
  case atStart =>
    exact ⟨l, [], by simpa using hr1, hF1, hG1, hT1, HQ1, HQ2, by simp, hM1, hz1⟩
  case round =>
    obtain ⟨l1, acc, hr1, hF1, hG1, hT1, H1, H2, hlen, hM1, hz1⟩ := hrel
    have hmu : rdLen wr b = l1.length := hr1.len
    obtain ⟨c0, c1, c2, f0, f1, f2⟩ := hr1.cells
    go_wp2_with fail
    refine (Tryz.strings_Cut (bs l1) ⟨#[39]⟩ m _ (by rw [bs_size]; omega) hM1).mono ?_
    rintro e w2 ⟨rfl, nq, rfl⟩
    rw [bs_list, show (ByteArray.mk #[39]).data.toList = [39] from rfl, (cut39_eq l1).1]
    obtain ⟨q1, q2⟩ := quoted_cut l1
    have hr2 : IsRd (wr.drewN nq) b l1 bad much := hr1
    have hF2 : Lib.IsBuilderF 73 5 (w.heap.size + 1) (w.heap.size + 1) (Lib.byteCells acc) (wr.drewN nq) := hF1
    have hG2 : w.grownBy (wr.drewN nq) (some b) := grown_below hG1 (below_drewN (Below.refl _ _) _)
    have hT2 : (wr.drewN nq).heap[w.heap.size]? = some (.cells zeroTok 88) := hT1
    have hM2 : (wr.drewN nq).cell? ⟨4, 0, none⟩ = some (.int .i64 m) := hM1
    have hz2 : w.heap.size + 2 ≤ (wr.drewN nq).heap.size := hz1
    generalize wr.drewN nq = w2 at *
    clear hr1 hF1 hG1 hT1 hM1 hz1 c0 c1 c2 f0 f1 f2
    generalize hc : cut39 l1 = cc at *
    obtain ⟨p, r, f⟩ := cc
    simp only at q1 q2
    cases f with
    | false =>
      obtain ⟨e1, rfl, rfl⟩ := q1 rfl
      have HQ : Hid (acc ++ p = Q1) := hid (by rw [← H1.out, e1])
      have HN : Hid (Q2 = none) := hid (by rw [← H2.out, e1])
      clear q1 q2 e1 H1 H2 hc
      go_wp2_with fail
      rw [show (ByteArray.mk p.toArray) = bs p from rfl]
      refine (writeString_k (w.heap.size + 1) (w.heap.size + 1) (Lib.byteCells acc) (bs p) _ hF2 (by rw [Lib.byteCells_length, bs_size]; omega) (by omega)).mono ?_
      rintro e w3 ⟨rfl, hF3, hb3, -⟩
      have hr3 := hr2.belowB hb3 (by omega)
      have hG3 := grown_belowB hG2 hb3 (by omega)
      have hT3 := (hb3.block w.heap.size (by omega)).trans hT2
      have hz3 : w.heap.size + 2 ≤ w3.heap.size := by have := hb3.size; omega
      rw [strCells_bs, byteCells_append, HQ.out] at hF3
      obtain ⟨c0, c1, c2, f0, f1, f2⟩ := hr3.cells
      clear hr2 hF2 hG2 hT2 hM2 hz2 hb3
      go_wp2_with fail
      have hrF := (hr3.set0 []).set1 true
      have hgF := grown_put (v := .bool true) (grown_put (v := .string (bs [])) hG3 (p := ⟨b, 0, none⟩) (.inl rfl)) (p := ⟨b, 1, none⟩) (.inl rfl)
      have hbF := (Lib.IsBuilderF.set_other (.inr hF3) b 0 (.string (bs [])) (by omega)).set_other b 1 (.bool true) (by omega)
      have hTF := (Below.heap_setCell _ ⟨b, 1, none⟩ (.bool true) w.heap.size (by simp; omega)).trans ((Below.heap_setCell w3 ⟨b, 0, none⟩ (.string (bs [])) w.heap.size (by simp; omega)).trans hT3)
      have hszF : w.heap.size + 2 ≤ ((w3.setCell ⟨b, 0, none⟩ (.string (bs []))).setCell ⟨b, 1, none⟩ (.bool true)).heap.size := by simpa using hz3
      have HL : Hid (Q2.getD [] = [] ∧ (bad || Q2.isNone) = true) := hid (by rw [HN.out]; simp)
      rw [show (ByteArray.mk #[]) = bs [] from rfl]
      generalize ((w3.setCell ⟨b, 0, none⟩ (.string (bs []))).setCell ⟨b, 1, none⟩ (.bool true)) = wF at *
      clear hr3 hG3 hT3 hz3 c0 c1 c2 f0 f1 f2 hF3
      refine (Tryz.Builder_String_any_k (w.heap.size + 1) (w.heap.size + 1) Q1 _ hbF (by omega)).mono ?_
      rintro e w5 ⟨rfl, -, hb5, -⟩
      have hr5 := hrF.belowB hb5 (by omega)
      have hg5 := grown_belowB hgF hb5 (by omega)
      have hT5 := (hb5.block w.heap.size (by omega)).trans hTF
      have hsz5 : w.heap.size + 2 ≤ w5.heap.size := by have := hb5.size; omega
      clear hrF hbF hgF hTF hb5
      go_wp2_with fail
      rw [show (ByteArray.mk Q1.toArray) = bs Q1 from rfl]
      refine (chars_own (bs Q1) _ (by rw [bs_size]; omega)).mono ?_
      rintro e w6 ⟨⟨v6, rfl, vs, ve, rfl, o1, o2, o3⟩, hb6⟩
      have hr6 := hr5.below hb6
      have hg6 := grown_below hg5 hb6
      have hT6 := (hb6.block w.heap.size (by omega)).trans hT5
      have hsz6 : w5.heap.size ≤ w6.heap.size := hb6.size
      obtain ⟨aS, cS, rfl⟩ := own_slice o1
      obtain ⟨aE, cE, rfl⟩ := own_slice o2
      simp only [List.length_cons, List.length_nil, Nat.zero_add] at o1 ⊢
      clear hr5 hg5 hT5 hb6
      have HR := hid (rfl : runesOf (bs Q1) = runesOf (bs Q1))
      generalize hrs : runesOf (bs Q1) = rs at *
      have Hrs := hid hrs
      clear hrs HR
      have hm : (∃ m : Bool, Hid ((much || decide (4096 < rs.length)) = m) ∧ ((much = true ∧ m = true) ∨ (much = false ∧ m = true ∧ decide ((4096 : Int) < (rs.length : Int)) = true) ∨ (much = false ∧ m = false ∧ decide ((4096 : Int) < (rs.length : Int)) = false))) := by
        cases much
        · by_cases h4 : 4096 < rs.length
          · exact ⟨true, hid (by simp [h4]), .inr (.inl ⟨rfl, rfl, by simp; omega⟩)⟩
          · exact ⟨false, hid (by simp [h4]), .inr (.inr ⟨rfl, rfl, by simp; omega⟩)⟩
        · exact ⟨true, hid rfl, .inl ⟨rfl, rfl⟩⟩
      obtain ⟨m', HM, hm⟩ := hm
      obtain ⟨c0, c1, c2, f0, f1, f2⟩ := hr6.cells
      have hbw : b < w6.heap.size := by omega
      have hT7 : ∀ mm o, ((w6.setCell ⟨b, 2, none⟩ (.bool mm)).alloc o).heap[w.heap.size]? = some (.cells zeroTok 88) := fun mm o => (heap_alloc_old _ _ (by simp; omega)).trans ((Below.heap_setCell w6 ⟨b, 2, none⟩ (.bool mm) w.heap.size (by simp; omega)).trans hT6)
      have k0 := fun mm o => (five_facts (hT7 mm o)).1
      have k1 := fun mm o => (five_facts (hT7 mm o)).2.1
      have k2 := fun mm o => (five_facts (hT7 mm o)).2.2.1
      have k3 := fun mm o => (five_facts (hT7 mm o)).2.2.2.1
      have k4 := fun mm o => (five_facts (hT7 mm o)).2.2.2.2.1
      have g0 := fun mm o => (five_facts (hT7 mm o)).2.2.2.2.2.1
      have g1 := fun mm o => (five_facts (hT7 mm o)).2.2.2.2.2.2.1
      have g2 := fun mm o => (five_facts (hT7 mm o)).2.2.2.2.2.2.2.1
      have g3 := fun mm o => (five_facts (hT7 mm o)).2.2.2.2.2.2.2.2.1
      have g4 := fun mm o => (five_facts (hT7 mm o)).2.2.2.2.2.2.2.2.2
      rcases hm with ⟨rfl, rfl⟩ | ⟨rfl, rfl, t⟩ | ⟨rfl, rfl, t⟩
      · by_cases h1 : rs.length = 1
        · have t1 : ((rs.length : Int) == 1) = true := by simp [h1]
          have HA : Hid (chrsArr rs = ⟨2, [], rs⟩) := hid (by unfold chrsArr; rw [if_pos h1])
          clear h1
          go_wp2_with fail
          all_goals
            refine bodyPost_ret (results_cell_row rfl _ _ w.heap.size _ _ _ _ rfl (set5 (hT7 true (.cells #[.int .i64 2, .slice none 0 0, .slice aE rs.length cE] 28)) (.int .i64 1) (.string ⟨#[]⟩) (.int .i64 2) (.slice none 0 0) (.slice aE rs.length cE)) Tryz.underlying88 rfl (by kernel_rfl)) rfl ?_
            rw [Hrs.out, HL.out.1, HL.out.2]
            first | rw [HM.out] | (have hm0 := HM.out; rw [Bool.false_or] at hm0; rw [hm0]) | skip
            rw [HA.out]
            exact ⟨⟨_, rfl, _, _, rfl, World.ownsRow_nil _ _ _ _, owns_mono (owns_put5 ((ownsRow_setCell_below (a := ⟨b, 2, none⟩) o2 (by simp; omega) _).alloc _) (by omega) _ _ _ _ _) (by omega), o3⟩, rd_put5 ((hr6.set2 _).below ((Below.refl _ _).alloc (Nat.le_refl _) _)) (by omega) _ _ _ _ _, grown_put5 (grown_alloc (grown_put hg6 (.inl rfl)) _) (Nat.le_refl _) _ _ _ _ _⟩
        · have t1 : ((rs.length : Int) == 1) = false := by rw [beq_eq_false_iff_ne]; omega
          have HA : Hid (chrsArr rs = ⟨2, [(rs.length : Int)], rs⟩) := hid (by unfold chrsArr; rw [if_neg h1])
          clear h1
          go_wp2_with fail
          all_goals
            refine bodyPost_ret (results_cell_row rfl _ _ w.heap.size _ _ _ _ rfl (set5 (hT7 true (.cells #[.int .i64 2, .slice aS 1 cS, .slice aE rs.length cE] 28)) (.int .i64 1) (.string ⟨#[]⟩) (.int .i64 2) (.slice aS 1 cS) (.slice aE rs.length cE)) Tryz.underlying88 rfl (by kernel_rfl)) rfl ?_
            rw [Hrs.out, HL.out.1, HL.out.2]
            first | rw [HM.out] | (have hm0 := HM.out; rw [Bool.false_or] at hm0; rw [hm0]) | skip
            rw [HA.out]
            exact ⟨⟨_, rfl, _, _, rfl, owns_mono (owns_put5 ((ownsRow_setCell_below (a := ⟨b, 2, none⟩) o1 (by simp; omega) _).alloc _) (by omega) _ _ _ _ _) (by omega), owns_mono (owns_put5 ((ownsRow_setCell_below (a := ⟨b, 2, none⟩) o2 (by simp; omega) _).alloc _) (by omega) _ _ _ _ _) (by omega), o3⟩, rd_put5 ((hr6.set2 _).below ((Below.refl _ _).alloc (Nat.le_refl _) _)) (by omega) _ _ _ _ _, grown_put5 (grown_alloc (grown_put hg6 (.inl rfl)) _) (Nat.le_refl _) _ _ _ _ _⟩
      · by_cases h1 : rs.length = 1
        · exfalso
          simp at t
          omega
        · have t1 : ((rs.length : Int) == 1) = false := by rw [beq_eq_false_iff_ne]; omega
          have HA : Hid (chrsArr rs = ⟨2, [(rs.length : Int)], rs⟩) := hid (by unfold chrsArr; rw [if_neg h1])
          clear h1
          go_wp2_with fail
          all_goals
            refine bodyPost_ret (results_cell_row rfl _ _ w.heap.size _ _ _ _ rfl (set5 (hT7 true (.cells #[.int .i64 2, .slice aS 1 cS, .slice aE rs.length cE] 28)) (.int .i64 1) (.string ⟨#[]⟩) (.int .i64 2) (.slice aS 1 cS) (.slice aE rs.length cE)) Tryz.underlying88 rfl (by kernel_rfl)) rfl ?_
            rw [Hrs.out, HL.out.1, HL.out.2]
            first | rw [HM.out] | (have hm0 := HM.out; rw [Bool.false_or] at hm0; rw [hm0]) | skip
            rw [HA.out]
            exact ⟨⟨_, rfl, _, _, rfl, owns_mono (owns_put5 ((ownsRow_setCell_below (a := ⟨b, 2, none⟩) o1 (by simp; omega) _).alloc _) (by omega) _ _ _ _ _) (by omega), owns_mono (owns_put5 ((ownsRow_setCell_below (a := ⟨b, 2, none⟩) o2 (by simp; omega) _).alloc _) (by omega) _ _ _ _ _) (by omega), o3⟩, rd_put5 ((hr6.set2 _).below ((Below.refl _ _).alloc (Nat.le_refl _) _)) (by omega) _ _ _ _ _, grown_put5 (grown_alloc (grown_put hg6 (.inl rfl)) _) (Nat.le_refl _) _ _ _ _ _⟩
      · by_cases h1 : rs.length = 1
        · have t1 : ((rs.length : Int) == 1) = true := by simp [h1]
          have HA : Hid (chrsArr rs = ⟨2, [], rs⟩) := hid (by unfold chrsArr; rw [if_pos h1])
          clear h1
          go_wp2_with fail
          all_goals
            refine bodyPost_ret (results_cell_row rfl _ _ w.heap.size _ _ _ _ rfl (set5 (hT7 false (.cells #[.int .i64 2, .slice none 0 0, .slice aE rs.length cE] 28)) (.int .i64 1) (.string ⟨#[]⟩) (.int .i64 2) (.slice none 0 0) (.slice aE rs.length cE)) Tryz.underlying88 rfl (by kernel_rfl)) rfl ?_
            rw [Hrs.out, HL.out.1, HL.out.2]
            first | rw [HM.out] | (have hm0 := HM.out; rw [Bool.false_or] at hm0; rw [hm0]) | skip
            rw [HA.out]
            exact ⟨⟨_, rfl, _, _, rfl, World.ownsRow_nil _ _ _ _, owns_mono (owns_put5 ((ownsRow_setCell_below (a := ⟨b, 2, none⟩) o2 (by simp; omega) _).alloc _) (by omega) _ _ _ _ _) (by omega), o3⟩, rd_put5 ((hr6.set2 _).below ((Below.refl _ _).alloc (Nat.le_refl _) _)) (by omega) _ _ _ _ _, grown_put5 (grown_alloc (grown_put hg6 (.inl rfl)) _) (Nat.le_refl _) _ _ _ _ _⟩
        · have t1 : ((rs.length : Int) == 1) = false := by rw [beq_eq_false_iff_ne]; omega
          have HA : Hid (chrsArr rs = ⟨2, [(rs.length : Int)], rs⟩) := hid (by unfold chrsArr; rw [if_neg h1])
          clear h1
          go_wp2_with fail
          all_goals
            refine bodyPost_ret (results_cell_row rfl _ _ w.heap.size _ _ _ _ rfl (set5 (hT7 false (.cells #[.int .i64 2, .slice aS 1 cS, .slice aE rs.length cE] 28)) (.int .i64 1) (.string ⟨#[]⟩) (.int .i64 2) (.slice aS 1 cS) (.slice aE rs.length cE)) Tryz.underlying88 rfl (by kernel_rfl)) rfl ?_
            rw [Hrs.out, HL.out.1, HL.out.2]
            first | rw [HM.out] | (have hm0 := HM.out; rw [Bool.false_or] at hm0; rw [hm0]) | skip
            rw [HA.out]
            exact ⟨⟨_, rfl, _, _, rfl, owns_mono (owns_put5 ((ownsRow_setCell_below (a := ⟨b, 2, none⟩) o1 (by simp; omega) _).alloc _) (by omega) _ _ _ _ _) (by omega), owns_mono (owns_put5 ((ownsRow_setCell_below (a := ⟨b, 2, none⟩) o2 (by simp; omega) _).alloc _) (by omega) _ _ _ _ _) (by omega), o3⟩, rd_put5 ((hr6.set2 _).below ((Below.refl _ _).alloc (Nat.le_refl _) _)) (by omega) _ _ _ _ _, grown_put5 (grown_alloc (grown_put hg6 (.inl rfl)) _) (Nat.le_refl _) _ _ _ _ _⟩
    | true =>
      obtain ⟨e1, e2, e3⟩ := q2 rfl r rfl
      cases hp : Lib.hasPrefix r [39] with
      | false =>
        have e4 := e2 hp
        have HQ : Hid (acc ++ p = Q1) := hid (by rw [← H1.out, e4])
        have HN : Hid (Q2 = some r) := hid (by rw [← H2.out, e4])
        have HP := hid hp
        clear q1 q2 e1 e2 e4 H1 H2 hc hp
        go_wp2_with fail
        rw [show (ByteArray.mk p.toArray) = bs p from rfl]
        refine (writeString_k (w.heap.size + 1) (w.heap.size + 1) (Lib.byteCells acc) (bs p) _ hF2 (by rw [Lib.byteCells_length, bs_size]; omega) (by omega)).mono ?_
        rintro e w3 ⟨rfl, hF3, hb3, -⟩
        have hr3 := hr2.belowB hb3 (by omega)
        have hG3 := grown_belowB hG2 hb3 (by omega)
        have hT3 := (hb3.block w.heap.size (by omega)).trans hT2
        have hz3 : w.heap.size + 2 ≤ w3.heap.size := by have := hb3.size; omega
        rw [strCells_bs, byteCells_append, HQ.out] at hF3
        obtain ⟨c0, c1, c2, f0, f1, f2⟩ := hr3.cells
        clear hr2 hF2 hG2 hT2 hM2 hz2 hb3
        go_wp2_with fail
        have hrF := hr3.set0 r
        have hgF := grown_put (v := .string (bs r)) hG3 (p := ⟨b, 0, none⟩) (.inl rfl)
        have hbF := (Lib.IsBuilderF.set_other (.inr hF3) b 0 (.string (bs r)) (by omega))
        have hTF := (Below.heap_setCell w3 ⟨b, 0, none⟩ (.string (bs r)) w.heap.size (by simp; omega)).trans hT3
        have hszF : w.heap.size + 2 ≤ (w3.setCell ⟨b, 0, none⟩ (.string (bs r))).heap.size := by simpa using hz3
        have HL : Hid (Q2.getD [] = r ∧ (bad || Q2.isNone) = bad) := hid (by rw [HN.out]; simp)
        rw [show (ByteArray.mk r.toArray) = bs r from rfl]
        generalize (w3.setCell ⟨b, 0, none⟩ (.string (bs r))) = wF at *
        clear hr3 hG3 hT3 hz3 c0 c1 c2 f0 f1 f2 hF3
        refine (Tryz.strings_HasPrefix (bs r) ⟨#[39]⟩ _).mono ?_
        rintro e w4 ⟨rfl, rfl⟩
        rw [bs_list, show (ByteArray.mk #[39]).data.toList = [39] from rfl, HP.out]
        go_wp2_with fail
        refine (Tryz.Builder_String_any_k (w.heap.size + 1) (w.heap.size + 1) Q1 _ hbF (by omega)).mono ?_
        rintro e w5 ⟨rfl, -, hb5, -⟩
        have hr5 := hrF.belowB hb5 (by omega)
        have hg5 := grown_belowB hgF hb5 (by omega)
        have hT5 := (hb5.block w.heap.size (by omega)).trans hTF
        have hsz5 : w.heap.size + 2 ≤ w5.heap.size := by have := hb5.size; omega
        clear hrF hbF hgF hTF hb5
        go_wp2_with fail
        rw [show (ByteArray.mk Q1.toArray) = bs Q1 from rfl]
        refine (chars_own (bs Q1) _ (by rw [bs_size]; omega)).mono ?_
        rintro e w6 ⟨⟨v6, rfl, vs, ve, rfl, o1, o2, o3⟩, hb6⟩
        have hr6 := hr5.below hb6
        have hg6 := grown_below hg5 hb6
        have hT6 := (hb6.block w.heap.size (by omega)).trans hT5
        have hsz6 : w5.heap.size ≤ w6.heap.size := hb6.size
        obtain ⟨aS, cS, rfl⟩ := own_slice o1
        obtain ⟨aE, cE, rfl⟩ := own_slice o2
        simp only [List.length_cons, List.length_nil, Nat.zero_add] at o1 ⊢
        clear hr5 hg5 hT5 hb6
        have HR := hid (rfl : runesOf (bs Q1) = runesOf (bs Q1))
        generalize hrs : runesOf (bs Q1) = rs at *
        have Hrs := hid hrs
        clear hrs HR
        have hm : (∃ m : Bool, Hid ((much || decide (4096 < rs.length)) = m) ∧ ((much = true ∧ m = true) ∨ (much = false ∧ m = true ∧ decide ((4096 : Int) < (rs.length : Int)) = true) ∨ (much = false ∧ m = false ∧ decide ((4096 : Int) < (rs.length : Int)) = false))) := by
          cases much
          · by_cases h4 : 4096 < rs.length
            · exact ⟨true, hid (by simp [h4]), .inr (.inl ⟨rfl, rfl, by simp; omega⟩)⟩
            · exact ⟨false, hid (by simp [h4]), .inr (.inr ⟨rfl, rfl, by simp; omega⟩)⟩
          · exact ⟨true, hid rfl, .inl ⟨rfl, rfl⟩⟩
        obtain ⟨m', HM, hm⟩ := hm
        obtain ⟨c0, c1, c2, f0, f1, f2⟩ := hr6.cells
        have hbw : b < w6.heap.size := by omega
        have hT7 : ∀ mm o, ((w6.setCell ⟨b, 2, none⟩ (.bool mm)).alloc o).heap[w.heap.size]? = some (.cells zeroTok 88) := fun mm o => (heap_alloc_old _ _ (by simp; omega)).trans ((Below.heap_setCell w6 ⟨b, 2, none⟩ (.bool mm) w.heap.size (by simp; omega)).trans hT6)
        have k0 := fun mm o => (five_facts (hT7 mm o)).1
        have k1 := fun mm o => (five_facts (hT7 mm o)).2.1
        have k2 := fun mm o => (five_facts (hT7 mm o)).2.2.1
        have k3 := fun mm o => (five_facts (hT7 mm o)).2.2.2.1
        have k4 := fun mm o => (five_facts (hT7 mm o)).2.2.2.2.1
        have g0 := fun mm o => (five_facts (hT7 mm o)).2.2.2.2.2.1
        have g1 := fun mm o => (five_facts (hT7 mm o)).2.2.2.2.2.2.1
        have g2 := fun mm o => (five_facts (hT7 mm o)).2.2.2.2.2.2.2.1
        have g3 := fun mm o => (five_facts (hT7 mm o)).2.2.2.2.2.2.2.2.1
        have g4 := fun mm o => (five_facts (hT7 mm o)).2.2.2.2.2.2.2.2.2
        rcases hm with ⟨rfl, rfl⟩ | ⟨rfl, rfl, t⟩ | ⟨rfl, rfl, t⟩
        · by_cases h1 : rs.length = 1
          · have t1 : ((rs.length : Int) == 1) = true := by simp [h1]
            have HA : Hid (chrsArr rs = ⟨2, [], rs⟩) := hid (by unfold chrsArr; rw [if_pos h1])
            clear h1
            go_wp2_with fail
            all_goals
              refine bodyPost_ret (results_cell_row rfl _ _ w.heap.size _ _ _ _ rfl (set5 (hT7 true (.cells #[.int .i64 2, .slice none 0 0, .slice aE rs.length cE] 28)) (.int .i64 1) (.string ⟨#[]⟩) (.int .i64 2) (.slice none 0 0) (.slice aE rs.length cE)) Tryz.underlying88 rfl (by kernel_rfl)) rfl ?_
              rw [Hrs.out, HL.out.1, HL.out.2]
              first | rw [HM.out] | (have hm0 := HM.out; rw [Bool.false_or] at hm0; rw [hm0]) | skip
              rw [HA.out]
              exact ⟨⟨_, rfl, _, _, rfl, World.ownsRow_nil _ _ _ _, owns_mono (owns_put5 ((ownsRow_setCell_below (a := ⟨b, 2, none⟩) o2 (by simp; omega) _).alloc _) (by omega) _ _ _ _ _) (by omega), o3⟩, rd_put5 ((hr6.set2 _).below ((Below.refl _ _).alloc (Nat.le_refl _) _)) (by omega) _ _ _ _ _, grown_put5 (grown_alloc (grown_put hg6 (.inl rfl)) _) (Nat.le_refl _) _ _ _ _ _⟩
          · have t1 : ((rs.length : Int) == 1) = false := by rw [beq_eq_false_iff_ne]; omega
            have HA : Hid (chrsArr rs = ⟨2, [(rs.length : Int)], rs⟩) := hid (by unfold chrsArr; rw [if_neg h1])
            clear h1
            go_wp2_with fail
            all_goals
              refine bodyPost_ret (results_cell_row rfl _ _ w.heap.size _ _ _ _ rfl (set5 (hT7 true (.cells #[.int .i64 2, .slice aS 1 cS, .slice aE rs.length cE] 28)) (.int .i64 1) (.string ⟨#[]⟩) (.int .i64 2) (.slice aS 1 cS) (.slice aE rs.length cE)) Tryz.underlying88 rfl (by kernel_rfl)) rfl ?_
              rw [Hrs.out, HL.out.1, HL.out.2]
              first | rw [HM.out] | (have hm0 := HM.out; rw [Bool.false_or] at hm0; rw [hm0]) | skip
              rw [HA.out]
              exact ⟨⟨_, rfl, _, _, rfl, owns_mono (owns_put5 ((ownsRow_setCell_below (a := ⟨b, 2, none⟩) o1 (by simp; omega) _).alloc _) (by omega) _ _ _ _ _) (by omega), owns_mono (owns_put5 ((ownsRow_setCell_below (a := ⟨b, 2, none⟩) o2 (by simp; omega) _).alloc _) (by omega) _ _ _ _ _) (by omega), o3⟩, rd_put5 ((hr6.set2 _).below ((Below.refl _ _).alloc (Nat.le_refl _) _)) (by omega) _ _ _ _ _, grown_put5 (grown_alloc (grown_put hg6 (.inl rfl)) _) (Nat.le_refl _) _ _ _ _ _⟩
        · by_cases h1 : rs.length = 1
          · exfalso
            simp at t
            omega
          · have t1 : ((rs.length : Int) == 1) = false := by rw [beq_eq_false_iff_ne]; omega
            have HA : Hid (chrsArr rs = ⟨2, [(rs.length : Int)], rs⟩) := hid (by unfold chrsArr; rw [if_neg h1])
            clear h1
            go_wp2_with fail
            all_goals
              refine bodyPost_ret (results_cell_row rfl _ _ w.heap.size _ _ _ _ rfl (set5 (hT7 true (.cells #[.int .i64 2, .slice aS 1 cS, .slice aE rs.length cE] 28)) (.int .i64 1) (.string ⟨#[]⟩) (.int .i64 2) (.slice aS 1 cS) (.slice aE rs.length cE)) Tryz.underlying88 rfl (by kernel_rfl)) rfl ?_
              rw [Hrs.out, HL.out.1, HL.out.2]
              first | rw [HM.out] | (have hm0 := HM.out; rw [Bool.false_or] at hm0; rw [hm0]) | skip
              rw [HA.out]
              exact ⟨⟨_, rfl, _, _, rfl, owns_mono (owns_put5 ((ownsRow_setCell_below (a := ⟨b, 2, none⟩) o1 (by simp; omega) _).alloc _) (by omega) _ _ _ _ _) (by omega), owns_mono (owns_put5 ((ownsRow_setCell_below (a := ⟨b, 2, none⟩) o2 (by simp; omega) _).alloc _) (by omega) _ _ _ _ _) (by omega), o3⟩, rd_put5 ((hr6.set2 _).below ((Below.refl _ _).alloc (Nat.le_refl _) _)) (by omega) _ _ _ _ _, grown_put5 (grown_alloc (grown_put hg6 (.inl rfl)) _) (Nat.le_refl _) _ _ _ _ _⟩
        · by_cases h1 : rs.length = 1
          · have t1 : ((rs.length : Int) == 1) = true := by simp [h1]
            have HA : Hid (chrsArr rs = ⟨2, [], rs⟩) := hid (by unfold chrsArr; rw [if_pos h1])
            clear h1
            go_wp2_with fail
            all_goals
              refine bodyPost_ret (results_cell_row rfl _ _ w.heap.size _ _ _ _ rfl (set5 (hT7 false (.cells #[.int .i64 2, .slice none 0 0, .slice aE rs.length cE] 28)) (.int .i64 1) (.string ⟨#[]⟩) (.int .i64 2) (.slice none 0 0) (.slice aE rs.length cE)) Tryz.underlying88 rfl (by kernel_rfl)) rfl ?_
              rw [Hrs.out, HL.out.1, HL.out.2]
              first | rw [HM.out] | (have hm0 := HM.out; rw [Bool.false_or] at hm0; rw [hm0]) | skip
              rw [HA.out]
              exact ⟨⟨_, rfl, _, _, rfl, World.ownsRow_nil _ _ _ _, owns_mono (owns_put5 ((ownsRow_setCell_below (a := ⟨b, 2, none⟩) o2 (by simp; omega) _).alloc _) (by omega) _ _ _ _ _) (by omega), o3⟩, rd_put5 ((hr6.set2 _).below ((Below.refl _ _).alloc (Nat.le_refl _) _)) (by omega) _ _ _ _ _, grown_put5 (grown_alloc (grown_put hg6 (.inl rfl)) _) (Nat.le_refl _) _ _ _ _ _⟩
          · have t1 : ((rs.length : Int) == 1) = false := by rw [beq_eq_false_iff_ne]; omega
            have HA : Hid (chrsArr rs = ⟨2, [(rs.length : Int)], rs⟩) := hid (by unfold chrsArr; rw [if_neg h1])
            clear h1
            go_wp2_with fail
            all_goals
              refine bodyPost_ret (results_cell_row rfl _ _ w.heap.size _ _ _ _ rfl (set5 (hT7 false (.cells #[.int .i64 2, .slice aS 1 cS, .slice aE rs.length cE] 28)) (.int .i64 1) (.string ⟨#[]⟩) (.int .i64 2) (.slice aS 1 cS) (.slice aE rs.length cE)) Tryz.underlying88 rfl (by kernel_rfl)) rfl ?_
              rw [Hrs.out, HL.out.1, HL.out.2]
              first | rw [HM.out] | (have hm0 := HM.out; rw [Bool.false_or] at hm0; rw [hm0]) | skip
              rw [HA.out]
              exact ⟨⟨_, rfl, _, _, rfl, owns_mono (owns_put5 ((ownsRow_setCell_below (a := ⟨b, 2, none⟩) o1 (by simp; omega) _).alloc _) (by omega) _ _ _ _ _) (by omega), owns_mono (owns_put5 ((ownsRow_setCell_below (a := ⟨b, 2, none⟩) o2 (by simp; omega) _).alloc _) (by omega) _ _ _ _ _) (by omega), o3⟩, rd_put5 ((hr6.set2 _).below ((Below.refl _ _).alloc (Nat.le_refl _) _)) (by omega) _ _ _ _ _, grown_put5 (grown_alloc (grown_put hg6 (.inl rfl)) _) (Nat.le_refl _) _ _ _ _ _⟩
      | true =>
        obtain ⟨r', rfl⟩ : ∃ r', r = 39 :: r' := by
          cases r with
          | nil => simp [Lib.hasPrefix, List.isPrefixOf] at hp
          | cons d r' => exact ⟨r', by simp [Lib.hasPrefix, List.isPrefixOf] at hp; rw [← hp]⟩
        have e4 := e1 r' rfl
        have HQ : Hid ((acc ++ p ++ [39]) ++ (quoted r').1 = Q1) := hid (by rw [← H1.out, e4]; simp)
        have HN : Hid ((quoted r').2 = Q2) := hid (by rw [← H2.out, e4])
        have HP := hid hp
        simp only [List.length_cons] at e3
        clear q1 q2 e1 e2 e4 H1 H2 hc hp
        go_wp2_with fail
        rw [show (ByteArray.mk p.toArray) = bs p from rfl]
        refine (writeString_k (w.heap.size + 1) (w.heap.size + 1) (Lib.byteCells acc) (bs p) _ hF2 (by rw [Lib.byteCells_length, bs_size]; omega) (by omega)).mono ?_
        rintro e w3 ⟨rfl, hF3, hb3, -⟩
        have hr3 := hr2.belowB hb3 (by omega)
        have hG3 := grown_belowB hG2 hb3 (by omega)
        have hT3 := (hb3.block w.heap.size (by omega)).trans hT2
        have hM3 := maxLen_belowB hM2 hb3 HLT.out
        have hz3 : w.heap.size + 2 ≤ w3.heap.size := by have := hb3.size; omega
        rw [strCells_bs, byteCells_append] at hF3
        obtain ⟨c0, c1, c2, f0, f1, f2⟩ := hr3.cells
        clear hr2 hF2 hG2 hT2 hM2 hz2 hb3
        go_wp2_with fail
        have hrF := hr3.set0 (39 :: r')
        have hgF := grown_put (v := .string (bs (39 :: r'))) hG3 (p := ⟨b, 0, none⟩) (.inl rfl)
        have hbF := (Lib.IsBuilderF.set_other (.inr hF3) b 0 (.string (bs (39 :: r'))) (by omega))
        have hTF := (Below.heap_setCell w3 ⟨b, 0, none⟩ (.string (bs (39 :: r'))) w.heap.size (by simp; omega)).trans hT3
        have hMF := maxLen_grown hM3 (grown_self w3 b 0 (.string (bs (39 :: r')))) hbm
        have hszF : w.heap.size + 2 ≤ (w3.setCell ⟨b, 0, none⟩ (.string (bs (39 :: r')))).heap.size := by simpa using hz3
        rw [show (ByteArray.mk (39 :: r').toArray) = bs (39 :: r') from rfl]
        generalize (w3.setCell ⟨b, 0, none⟩ (.string (bs (39 :: r')))) = wF at *
        clear hr3 hG3 hT3 hM3 hz3 c0 c1 c2 f0 f1 f2 hF3
        refine (Tryz.strings_HasPrefix (bs (39 :: r')) ⟨#[39]⟩ _).mono ?_
        rintro e w4 ⟨rfl, rfl⟩
        rw [bs_list, show (ByteArray.mk #[39]).data.toList = [39] from rfl, HP.out]
        go_wp2_with fail
        refine (take_any b 1 (39 :: r') bad much _ hrF (by simp) (by simp; omega)).mono ?_
        rintro e w5 ⟨rfl, hr5, hg5⟩
        have hG5 := grown_trans hgF hg5
        have hb5 := builder_grown hbF hg5 (by omega)
        have hT5 := (hg5.block w.heap.size (by omega) (by simp; omega)).trans hTF
        have hM5 := maxLen_grown hMF hg5 hbm
        have hsz5 : w.heap.size + 2 ≤ w5.heap.size := by have := hg5.size; omega
        clear hrF hgF hbF hTF hMF hg5
        go_wp2_with fail
        refine (writeString_k (w.heap.size + 1) (w.heap.size + 1) (Lib.byteCells (acc ++ p)) (bs [39]) _ hb5 (by rw [Lib.byteCells_length, bs_size]; simp; omega) (by omega)).mono ?_
        rintro e w6 ⟨rfl, hF6, hb6, -⟩
        have hr6 := hr5.belowB hb6 (by omega)
        have hG6 := grown_belowB hG5 hb6 (by omega)
        have hT6 := (hb6.block w.heap.size (by omega)).trans hT5
        have hM6 := maxLen_belowB hM5 hb6 HLT.out
        have hz6 : w.heap.size + 2 ≤ w6.heap.size := by have := hb6.size; omega
        rw [strCells_bs, byteCells_append] at hF6
        clear hr5 hG5 hb5 hT5 hM5 hb6
        go_wp2_with fail
        go_roundw
        case rel =>
          exact ⟨r', acc ++ p ++ [39], hr6, .inr hF6, hG6, hT6, HQ, HN, by simp; omega, hM6, hz6⟩
        case measure => rw [hr6.len, hmu]; have : (List.drop 1 (39 :: r')).length = r'.length := rfl; omega
end Go.Proofs.YtijfnnjgcgmnaaaGreatDoor

namespace Go.Proofs.YtijfnnjgcgmnaaaGreatDoor
open Go.RowKit Go.Shelf
set_option linter.unusedVariables false

def isGlob (j : Nat) : Prop := j = 6 ∨ j = 7 ∨ j = 2 ∨ j = 3 ∨ j = 4
def Glob (w : World) : Prop := ErrVars w ∧ Lib.Utf8Tabs 2 3 w ∧ ∃ m, w.cell? ⟨4, 0, none⟩ = some (.int .i64 m)
theorem Glob.lt {w : World} (h : Glob w) (j : Nat) (hj : isGlob j) : j < w.heap.size := by
  obtain ⟨h1, ⟨h2, h3⟩, m, h4⟩ := h
  rcases hj with rfl | rfl | rfl | rfl | rfl
  · exact (errVars_lt h1).1
  · exact (errVars_lt h1).2
  · exact World.block_lt_of_cell? w _ (h2 0 (by omega))
  · exact World.block_lt_of_cell? w _ (h3 0 (by omega)).1
  · exact World.block_lt_of_cell? w _ h4
theorem Glob.keep {w w' : World} (h : Glob w) (k : ∀ j, isGlob j → w'.heap[j]? = w.heap[j]?) : Glob w' := by
  obtain ⟨h1, ⟨h2, h3⟩, m, h4⟩ := h
  have kc : ∀ j o, isGlob j → w'.cell? ⟨j, o, none⟩ = w.cell? ⟨j, o, none⟩ := fun j o hj => World.cell?_of_block (k j hj)
  exact ⟨errVars_blocks h1 (k _ (.inl rfl)) (k _ (.inr (.inl rfl))), ⟨fun c hc => (kc _ _ (.inr (.inr (.inl rfl)))).trans (h2 c hc), fun i hi => ⟨(kc _ _ (.inr (.inr (.inr (.inl rfl))))).trans (h3 i hi).1, (kc _ _ (.inr (.inr (.inr (.inl rfl))))).trans (h3 i hi).2⟩⟩, m, (kc _ _ (.inr (.inr (.inr (.inr rfl))))).trans h4⟩
theorem Glob.below {w w' : World} (h : Glob w) (hb : Below w.heap.size w w') : Glob w' := h.keep fun j hj => hb.block j (h.lt j hj)
theorem Glob.alloc {w : World} (h : Glob w) (o : Obj) : Glob (w.alloc o) := h.below ((Below.refl _ _).alloc (Nat.le_refl _) o)
end Go.Proofs.YtijfnnjgcgmnaaaGreatDoor
