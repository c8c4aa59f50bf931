/- The reference's reader: the walks of its leaves.
   The reference's reader: a name of a function, an operand's end, a function of two.
   The reference's reader: where a text is cut; functions' glyphs, and of how many they are.
   The reference's reader: of how many a function is, its number, whether a name is given something.
   The reference's reader: is a name given something; the brackets that match. -/
import Derived.Test.YthlingdlehdlhaaGreatDoorRPlain
import Derived.Test.YthlingdlehdlhaaGreatDoorPC
import Derived.Deep.Cut
import Derived.Maps.AppendAt
import Derived.Test.YthlingdlehdlhaaGreatDoorPInv2
namespace Go.Proofs.YthlingdlehdlhaaGreatDoor.Par
open Go.RowKit Go.Shelf
set_option linter.unusedVariables false
set_option linter.unusedSimpArgs false

set_option maxRecDepth 100000 in
theorem ris_any (t : Tok) (vs ve : Value) (g : List UInt8) (s : ByteArray) (hs : s = bs g) (w : World) :
    Calls Tryz.prog 38 #[.agg #[.int .i64 t.kind, .string (bs t.txt), .int .i64 t.val.kind, vs, ve], .string s] w fun e w' => e = .returned (.bool (isG t g)) ∧ Below w.heap.size w w' := by
  subst hs
  have hB := (Below.refl _ w).alloc (Nat.le_refl _) (.cells #[.int .i64 t.kind, .string (bs t.txt), .int .i64 t.val.kind, vs, ve] 48)
  have HG := hid (show isG t g = ((t.kind == 3) && ((bs t.txt).toList == (bs g).toList)) by unfold isG; rw [bs_txt, Bool.eq_iff_iff]; simp)
  go_enter Tryz.func38, Tryz.ntmps38
  cases hk : (t.kind == 3)
  all_goals have Hk := hid hk
  · go_wp2_with fail
    go_ret
    exact ⟨by rw [HG.out, Hk.out]; rfl, hB⟩
  · go_wp2_with fail
    go_ret
    exact ⟨by rw [HG.out, Hk.out]; rfl, hB⟩
/-- The reference's glyphs. -/
theorem gly_row (k : Nat) (h0 : 1 ≤ k) (h : k ≤ 17) : (#[.string ⟨#[]⟩, .string ⟨#[43]⟩, .string ⟨#[45]⟩, .string ⟨#[195, 151]⟩, .string ⟨#[195, 183]⟩, .string ⟨#[124]⟩, .string ⟨#[226, 140, 138]⟩, .string ⟨#[226, 140, 136]⟩, .string ⟨#[42]⟩, .string ⟨#[61]⟩, .string ⟨#[226, 137, 160]⟩, .string ⟨#[60]⟩, .string ⟨#[226, 137, 164]⟩, .string ⟨#[226, 137, 165]⟩, .string ⟨#[62]⟩, .string ⟨#[226, 136, 167]⟩, .string ⟨#[226, 136, 168]⟩, .string ⟨#[126]⟩] : Array Value)[k]? = some (.string (bs (glyph12F k))) := by
  rcases (by omega : k = 1 ∨ k = 2 ∨ k = 3 ∨ k = 4 ∨ k = 5 ∨ k = 6 ∨ k = 7 ∨ k = 8 ∨ k = 9 ∨ k = 10 ∨ k = 11 ∨ k = 12 ∨ k = 13 ∨ k = 14 ∨ k = 15 ∨ k = 16 ∨ k = 17) with rfl | rfl | rfl | rfl | rfl | rfl | rfl | rfl | rfl | rfl | rfl | rfl | rfl | rfl | rfl | rfl | rfl <;> rfl
set_option maxRecDepth 100000 in
theorem r2glyph_any (k : Nat) (h0 : 1 ≤ k) (h : k ≤ 17) (w : World) : Calls Tryz.prog 177 #[.int .i64 (k : Int)] w fun e w' => e = .returned (.string (bs (glyph12F k))) ∧ Below w.heap.size w w' := by
  have hrow := gly_row k h0 h
  generalize bs (glyph12F k) = X at *
  have hb := fun O => (Below.refl _ w).alloc (Nat.le_refl _) O
  have hc : (w.alloc (.cells #[.string ⟨#[]⟩, .string ⟨#[43]⟩, .string ⟨#[45]⟩, .string ⟨#[195, 151]⟩, .string ⟨#[195, 183]⟩, .string ⟨#[124]⟩, .string ⟨#[226, 140, 138]⟩, .string ⟨#[226, 140, 136]⟩, .string ⟨#[42]⟩, .string ⟨#[61]⟩, .string ⟨#[226, 137, 160]⟩, .string ⟨#[60]⟩, .string ⟨#[226, 137, 164]⟩, .string ⟨#[226, 137, 165]⟩, .string ⟨#[62]⟩, .string ⟨#[226, 136, 167]⟩, .string ⟨#[226, 136, 168]⟩, .string ⟨#[126]⟩] 9)).cell? ⟨w.heap.size, k, none⟩ = some (.string X) := by
    rw [Lib.cell_of_heap (heap_alloc_new w _)]; exact hrow
  have h1 : ¬ (k : Int) < 1 := by omega
  have h2 : ¬ (17 : Int) < (k : Int) := by omega
  have h3 : (k : Int) < 18 := by omega
  clear hrow
  go_enter Tryz.func177, Tryz.ntmps177
  go_wp2_with fail
  go_ret
  exact ⟨rfl, hb _⟩
theorem named_at (k : Nat) (h0 : 1 ≤ k) (h : k ≤ 17) : namedF (glyph12F k) = k := by
  rcases (by omega : k = 1 ∨ k = 2 ∨ k = 3 ∨ k = 4 ∨ k = 5 ∨ k = 6 ∨ k = 7 ∨ k = 8 ∨ k = 9 ∨ k = 10 ∨ k = 11 ∨ k = 12 ∨ k = 13 ∨ k = 14 ∨ k = 15 ∨ k = 16 ∨ k = 17) with rfl | rfl | rfl | rfl | rfl | rfl | rfl | rfl | rfl | rfl | rfl | rfl | rfl | rfl | rfl | rfl | rfl <;> decide
theorem named_no (t : List UInt8) (h : ∀ k : Nat, 1 ≤ k → k < 18 → glyph12F k ≠ t) : namedF t = 0 := by
  unfold namedF
  rw [if_neg]
  intro hm
  obtain ⟨i, hi, e⟩ := List.getElem_of_mem hm
  have hi2 : i < 17 := hi
  refine h (i + 1) (by omega) (by omega) ?_
  unfold glyph12F
  rw [if_pos (by omega), show (((i + 1 : Nat) : Int) - 1).toNat = i by omega, List.getElem?_eq_getElem hi, e]; rfl
set_option maxRecDepth 100000 in
set_option maxHeartbeats 1000000 in
theorem r2named_any (t : List UInt8) (w : World) : Calls Tryz.prog 166 #[.string (bs t)] w fun e w' => e = .returned (.int .i64 (namedF t)) ∧ Below w.heap.size w w' := by
  obtain ⟨R, hR⟩ : ∃ R, namedF t = R := ⟨_, rfl⟩
  have HR := hid hR
  rw [hR]
  clear hR
  go_enter Tryz.func166, Tryz.ntmps166
  go_wp2_with fail
  go_loopw [3] (fun vk wr => ∃ k : Nat, 1 ≤ k ∧ k ≤ 18 ∧ vk = .int .i64 (k : Nat) ∧ Hid (∀ j : Nat, 1 ≤ j → j < k → glyph12F j ≠ t) ∧ Below w.heap.size w wr) (fun vk _ => 18 - (intOf vk).toNat)
  case atStart => exact ⟨1, by omega, by omega, rfl, hid (fun j h1 h2 => by omega), Below.refl _ _⟩
  case round =>
    obtain ⟨k, hk1, hk, rfl, Hn, hB⟩ := hrel
    by_cases hlt : k ≤ 17
    · have hki : (k : Int) ≤ 17 := by omega
      have hg := r2glyph_any k hk1 hlt wr
      obtain ⟨D, hD⟩ : ∃ d, decide (glyph12F k = t) = d := ⟨_, rfl⟩
      have hcmp : ((bs (glyph12F k)).toList == (bs t).toList) = D := by rw [bs_txt]; exact hD
      have HD := hid hD
      clear hD
      have HK := hid (named_at k hk1 hlt)
      obtain ⟨G, hG⟩ : ∃ g, glyph12F k = g := ⟨_, rfl⟩
      rw [hG] at hg hcmp
      have HG := hid hG
      clear hG
      go_wp2_with fail
      refine hg.mono ?_
      rintro e w1 ⟨rfl, b1⟩
      have hB1 := hB.trans (b1.mono hB.size)
      clear hg
      cases D with
      | true =>
        go_wp2_with fail
        go_ret
        refine ⟨?_, hB1⟩
        have e1 : glyph12F k = t := of_decide_eq_true HD.out
        have e2 := HK.out
        rw [e1, HR.out] at e2
        rw [e2]; rfl
      | false =>
        go_wp2_with fail
        go_roundw
        case rel =>
          refine ⟨k + 1, by omega, by omega, by go_num, hid (fun j h1 h2 => ?_), hB1⟩
          by_cases hj : j = k
          · subst hj; exact of_decide_eq_false HD.out
          · exact Hn.out j h1 (by omega)
        case measure => simp [intOf]; omega
    · have hki : ¬ (k : Int) ≤ 17 := by omega
      have hR0 : R = 0 := by rw [← HR.out]; exact named_no t (fun j h1 h2 => Hn.out j h1 (by omega))
      have HR0 := hid hR0
      clear hR0
      go_wp2_with fail
      go_ret
      exact ⟨by rw [HR0.out]; rfl, hB⟩
set_option maxRecDepth 100000 in
theorem r2bin_any (f : Int) (w : World) : Calls Tryz.prog 167 #[.int .i64 f] w fun e w' => e = .returned (.bool (bin12 f)) ∧ w' = w := by
  obtain ⟨R, hR⟩ : ∃ R, bin12 f = R := ⟨_, rfl⟩
  have HR := hid hR
  rw [hR]
  clear hR
  by_cases h1 : 1 ≤ f
  · by_cases h2 : f ≤ 16
    · have HE := hid (show R = true by rw [← HR.out]; unfold bin12; simp [h1, h2])
      go_enter Tryz.func167, Tryz.ntmps167
      go_wp2_with fail
      go_ret
      exact ⟨by rw [HE.out]; rfl, rfl⟩
    · have HE := hid (show R = false by rw [← HR.out]; unfold bin12; simp [h2])
      go_enter Tryz.func167, Tryz.ntmps167
      go_wp2_with fail
      go_ret
      exact ⟨by rw [HE.out]; rfl, rfl⟩
  · have HE := hid (show R = false by rw [← HR.out]; unfold bin12; simp [h1])
    go_enter Tryz.func167, Tryz.ntmps167
    go_wp2_with fail
    go_ret
    exact ⟨by rw [HE.out]; rfl, rfl⟩
set_option maxRecDepth 100000 in
theorem r2un_any (f : Int) (w : World) : Calls Tryz.prog 169 #[.int .i64 f] w fun e w' => e = .returned (.bool (un12 f)) ∧ w' = w := by
  obtain ⟨R, hR⟩ : ∃ R, un12 f = R := ⟨_, rfl⟩
  have HR := hid hR
  rw [hR]
  clear hR
  unfold un12 at HR
  cases h1 : (f == 1)
  all_goals cases h2 : (f == 2)
  all_goals cases h3 : (f == 3)
  all_goals cases h5 : (f == 5)
  all_goals cases h17 : (f == 17)
  all_goals
    have HE : Hid (R = ((f == 1) || (f == 2) || (f == 3) || (f == 5) || (f == 17))) := hid HR.out.symm
    rw [h1, h2, h3, h5, h17] at HE
    clear HR
    go_enter Tryz.func169, Tryz.ntmps169
    go_wp2_with fail
    go_ret
    exact ⟨by rw [HE.out]; rfl, rfl⟩

/-- A text with the places that match, as a value. -/
def IsX (w : World) (v : Value) (T : List Tok) (A : List Nat) (F : List (List UInt8)) : Prop :=
  ∃ ta tc aa ac fa fc, v = .agg #[.slice ta T.length tc, .slice aa A.length ac, .slice fa F.length fc] ∧ IsToks w (.slice ta T.length tc) T ∧ Ints w (.slice aa A.length ac) (A.map fun n : Nat => (n : Int)) ∧ Strs w (.slice fa F.length fc) (F.map bs)
theorem IsX.below {w w' : World} {v : Value} {T : List Tok} {A : List Nat} {F : List (List UInt8)} (h : IsX w v T A F) (hb : Below w.heap.size w w') : IsX w' v T A F := by
  obtain ⟨ta, tc, aa, ac, fa, fc, e, h1, h2, h3⟩ := h
  exact ⟨ta, tc, aa, ac, fa, fc, e, h1.below hb, h2.below hb, h3.below hb⟩
theorem tok_get {w : World} {a : Option Addr} {n c : Nat} {T : List Tok} (h : IsToks w (.slice a n c) T) {i : Nat} {t : Tok} (hi : T[i]? = some t) :
    ∃ b o sa sc ea ec, a = some ⟨b, o, none⟩ ∧ TokAt w b (o + i * 5) t (.slice sa t.val.shape.length sc) (.slice ea t.val.elems.length ec) ∧ Ints w (.slice sa t.val.shape.length sc) t.val.shape ∧ Ints w (.slice ea t.val.elems.length ec) t.val.elems ∧ Rng t.val.elems := by
  obtain ⟨a', c', e, h1, h2, h3, h4⟩ := h
  injection e with e1 e2 e3
  subst e1
  obtain ⟨b, o, vs, ve, e4, q1, q2, q3, q4⟩ := h4 i t hi
  obtain ⟨sa, sc, rfl, -⟩ := q2.parts
  obtain ⟨ea, ec, rfl, -⟩ := q3.parts
  exact ⟨b, o, sa, sc, ea, ec, e4, q1, q2, q3, q4⟩
theorem strs_get {w : World} {a : Option Addr} {n c : Nat} {xs : List (List UInt8)} (h : Strs w (.slice a n c) (xs.map bs)) {k : Nat} {s : List UInt8} (hk : xs[k]? = some s) : ∃ b o, a = some ⟨b, o, none⟩ ∧ w.cell? ⟨b, o + k, none⟩ = some (.string (bs s)) := by
  obtain ⟨a', c', e, h1, h2, h3, h4⟩ := h
  injection e with e1 e2 e3
  subst e1
  obtain ⟨hlt, e5⟩ := List.getElem?_eq_some_iff.1 hk
  obtain ⟨b, o, e4, hc⟩ := h4 k (by simpa using hlt)
  refine ⟨b, o, e4, ?_⟩
  rw [hc]
  simp [e5]
end Go.Proofs.YthlingdlehdlhaaGreatDoor.Par

namespace Go.Proofs.YthlingdlehdlhaaGreatDoor.Par
open Go.RowKit Go.Shelf
set_option linter.unusedVariables false
set_option linter.unusedSimpArgs false

set_option maxRecDepth 100000 in
set_option maxHeartbeats 4000000 in
theorem rfun_any (T : List Tok) (A : List Nat) (F : List (List UInt8)) (i : Nat) (t : Tok) (hi : T[i]? = some t) (vx : Value) (w : World) (hx : IsX w vx T A F) :
    Calls Tryz.prog 135 #[vx, .int .i64 (i : Int)] w fun e w' => e = .returned (.bool (isFun F t)) ∧ Below w.heap.size w w' := by
  obtain ⟨ta, tc, aa, ac, fa, fc, rfl, h1, h2, h3⟩ := hx
  obtain ⟨b, o, sa, sc, ea, ec, rfl, ⟨g0, g1, g2, g3, g4⟩, -, -, -⟩ := tok_get h1 hi
  have hiT : (i : Int) < (T.length : Int) := by have := (List.getElem?_eq_some_iff.1 hi).1; omega
  have hX0 := heap_alloc_new w (.cells #[.slice (some ⟨b, o, none⟩) T.length tc, .slice aa A.length ac, .slice fa F.length fc] 80)
  have hB0 := (Below.refl _ w).alloc (Nat.le_refl _) (.cells #[.slice (some ⟨b, o, none⟩) T.length tc, .slice aa A.length ac, .slice fa F.length fc] 80)
  have hFl : F.length ≤ 9223372036854775807 := by
    obtain ⟨a', c', e, l1, l2, -, -⟩ := id h3
    rw [List.length_map] at l1; omega
  obtain ⟨R, hR⟩ : ∃ R, isFun F t = R := ⟨_, rfl⟩
  rw [hR]
  have HR := hid hR
  clear hi h1 h2 hR
  go_enter Tryz.func135, Tryz.ntmps135
  go_upto_region 1 with fail
  generalize w.alloc (.cells #[.slice (some ⟨b, o, none⟩) T.length tc, .slice aa A.length ac, .slice fa F.length fc] 80) = w1 at *
  have k0 := (hB0.cell (World.block_lt_of_cell? w _ g0)).trans g0
  have k1 := (hB0.cell (World.block_lt_of_cell? w _ g1)).trans g1
  have h3' := h3.below hB0
  clear g0 g1 g2 g3 g4 h3
  go_wp2_with fail
  go_loopw [5] (fun vk wr => ∃ k : Nat, k ≤ F.length ∧ vk = .int .i64 (k : Nat) ∧ Hid (¬ (t.kind = 2 ∧ t.txt ∈ F.take k)) ∧ Below w1.heap.size w1 wr) (fun vk _ => F.length - (intOf vk).toNat)
  case atStart => exact ⟨0, Nat.zero_le _, rfl, hid (by simp), Below.refl _ _⟩
  case round =>
    obtain ⟨k, hk, rfl, Hn, hB⟩ := hrel
    have hXr := (hB.block w.heap.size (Array.getElem?_eq_some_iff.1 hX0).1).trans hX0
    obtain ⟨d0, d1, d2⟩ := (ln_facts hXr).1
    have c0 := (hB.cell (World.block_lt_of_cell? w1 _ k0)).trans k0
    have c1 := (hB.cell (World.block_lt_of_cell? w1 _ k1)).trans k1
    by_cases hlt : k < F.length
    · have hkF : F[k]? = some F[k] := List.getElem?_eq_getElem hlt
      have hTk : F.take (k + 1) = F.take k ++ [F[k]] := by rw [List.take_add_one, hkF]; rfl
      generalize F[k] = s at *
      obtain ⟨fb, fo, rfl, cs0⟩ := strs_get h3' hkF
      have cs := (hB.cell (World.block_lt_of_cell? w1 _ cs0)).trans cs0
      have hki : (k : Int) < (F.length : Int) := by omega
      have hz : w.heap.size < wr.heap.size := (Array.getElem?_eq_some_iff.1 hXr).1
      by_cases h2 : t.kind = 2
      · have t2 : (t.kind == 2) = true := by simp [h2]
        obtain ⟨D, hD⟩ : ∃ d, decide (t.txt = s) = d := ⟨_, rfl⟩
        have hcmp : ((bs t.txt).toList == (bs s).toList) = D := by rw [bs_txt]; exact hD
        have HD := hid hD
        have H2 := hid h2
        have HTk := hid hTk
        have HkF := hid hkF
        clear hD h2 hTk hkF hX0 hXr h3' cs0 k0 k1
        go_upto_region 4 with fail
        go_quiet (fail)
        cases D with
        | true =>
          have HE : Hid (R = true) := hid (by
            rw [← HR.out]; unfold isFun
            rw [decide_eq_true H2.out, decide_eq_true (show t.txt ∈ F by rw [of_decide_eq_true HD.out]; exact List.mem_of_getElem? HkF.out)]; rfl)
          clear HR
          go_wp2
          go_ret
          exact ⟨by rw [HE.out]; rfl, below_drewN (hB0.trans (hB.mono hB0.size)) _⟩
        | false =>
          go_wp2
          go_roundw
          case rel =>
            refine ⟨k + 1, by omega, by go_num, hid (fun c => ?_), below_drewN hB _⟩
            have hm := c.2
            rw [HTk.out] at hm
            rcases List.mem_append.1 hm with hm | hm
            · exact Hn.out ⟨c.1, hm⟩
            · exact of_decide_eq_false HD.out (List.mem_singleton.1 hm)
          case measure => simp [intOf]; omega
      · have t2 : (t.kind == 2) = false := by simpa using h2
        have H2 := hid h2
        clear h2 hTk hkF hX0 hXr h3' cs0 k0 k1
        go_upto_region 4 with fail
        go_quiet (fail)
        go_wp2
        go_roundw
        case rel => exact ⟨k + 1, by omega, by go_num, hid (fun c => H2.out c.1), below_drewN hB _⟩
        case measure => simp [intOf]; omega
    · obtain rfl : k = F.length := by omega
      have hki : ¬ (F.length : Int) < (F.length : Int) := by omega
      have HE : Hid (R = false) := hid (by
        rw [← HR.out]
        have := Hn.out
        rw [List.take_length] at this
        unfold isFun
        rw [Bool.and_eq_false_iff, decide_eq_false_iff_not, decide_eq_false_iff_not]
        by_cases h2 : t.kind = 2
        · exact .inr (fun hm => this ⟨h2, hm⟩)
        · exact .inl h2)
      clear HR
      go_wp2_with fail
      go_ret
      exact ⟨by rw [HE.out]; rfl, hB0.trans (hB.mono hB0.size)⟩
-- OPERAND
set_option maxRecDepth 100000 in
set_option maxHeartbeats 4000000 in
theorem roperand_any (T : List Tok) (A : List Nat) (F : List (List UInt8)) (i : Nat) (t : Tok) (hi : T[i]? = some t) (vx : Value) (w : World) (hx : IsX w vx T A F) :
    Calls Tryz.prog 90 #[vx, .int .i64 (i : Int)] w fun e w' => e = .returned (.bool (endsT F t)) ∧ Below w.heap.size w w' := by
  have hx' := hx
  obtain ⟨ta, tc, aa, ac, fa, fc, rfl, h1, h2, h3⟩ := hx
  obtain ⟨b, o, sa, sc, ea, ec, rfl, ⟨g0, g1, g2, g3, g4⟩, -, -, -⟩ := tok_get h1 hi
  have hiT : (i : Int) < (T.length : Int) := by have := (List.getElem?_eq_some_iff.1 hi).1; omega
  have hX0 := heap_alloc_new w (.cells #[.slice (some ⟨b, o, none⟩) T.length tc, .slice aa A.length ac, .slice fa F.length fc] 80)
  have hB0 := (Below.refl _ w).alloc (Nat.le_refl _) (.cells #[.slice (some ⟨b, o, none⟩) T.length tc, .slice aa A.length ac, .slice fa F.length fc] 80)
  have hIX := hx'.below hB0
  obtain ⟨E, hE⟩ : ∃ E, endsT F t = E := ⟨_, rfl⟩
  rw [hE]
  have HE := hid (show E = (decide (t.kind = 1) || (decide (t.kind = 2) && !isFun F t) || isG t gRP || isG t gRB || isG t gAlpha || isG t gOmega) from hE.symm)
  have Hi := hid hi
  clear hE h1 h2 h3 hx' hi
  go_enter Tryz.func90, Tryz.ntmps90
  go_upto_region 1 with fail
  generalize w.alloc (.cells #[.slice (some ⟨b, o, none⟩) T.length tc, .slice aa A.length ac, .slice fa F.length fc] 80) = w1 at *
  have k0 := (hB0.cell (World.block_lt_of_cell? w _ g0)).trans g0
  have k1 := (hB0.cell (World.block_lt_of_cell? w _ g1)).trans g1
  have k2 := (hB0.cell (World.block_lt_of_cell? w _ g2)).trans g2
  have k3 := (hB0.cell (World.block_lt_of_cell? w _ g3)).trans g3
  have k4 := (hB0.cell (World.block_lt_of_cell? w _ g4)).trans g4
  obtain ⟨d0, d1, d2⟩ := (ln_facts hX0).1
  clear g0 g1 g2 g3 g4
  have hN := heap_alloc_new w1 (.cells #[.int .i64 t.kind, .string (bs t.txt), .int .i64 t.val.kind, .slice sa t.val.shape.length sc, .slice ea t.val.elems.length ec] 48)
  have b1 := (Below.refl _ w1).alloc (Nat.le_refl _) (.cells #[.int .i64 t.kind, .string (bs t.txt), .int .i64 t.val.kind, .slice sa t.val.shape.length sc, .slice ea t.val.elems.length ec] 48)
  have hO := heap_alloc_old w1 (.cells #[.int .i64 t.kind, .string (bs t.txt), .int .i64 t.val.kind, .slice sa t.val.shape.length sc, .slice ea t.val.elems.length ec] 48) (Array.getElem?_eq_some_iff.1 hX0).1
  go_upto_region 2 with fail
  generalize w1.alloc (.cells #[.int .i64 t.kind, .string (bs t.txt), .int .i64 t.val.kind, .slice sa t.val.shape.length sc, .slice ea t.val.elems.length ec] 48) = w2 at *
  have hX2 := hO.trans hX0
  have hB2 := hB0.trans (b1.mono hB0.size)
  have hIX2 := hIX.below b1
  generalize w1.heap.size = TB at *
  obtain ⟨x0, x1, x2⟩ := (ln_facts hX2).1
  have hcall := rfun_any T A F i t Hi.out _ w2 hIX2
  obtain ⟨N, hNe⟩ : ∃ n, isFun F t = n := ⟨_, rfl⟩
  rw [hNe] at hcall HE
  clear hNe k0 k1 k2 k3 k4 d0 d1 d2 hX0 hO hIX hB0 b1
  go_wp2_with fail
  refine hcall.mono ?_
  rintro e w3 ⟨rfl, b3⟩
  have hB3 := hB2.trans (b3.mono hB2.size)
  have q3 := (b3.block _ (Array.getElem?_eq_some_iff.1 hN).1).trans hN
  obtain ⟨m0, m1, m2, m3, m4⟩ := (fn_facts q3).1
  clear hcall x0 x1 x2 hX2 hN
  by_cases h1 : t.kind = 1
  · have t1 : (t.kind == 1) = true := by simp [h1]
    rw [decide_eq_true h1] at HE
    clear h1
    go_wp2_with fail
    go_ret
    exact ⟨by rw [HE.out]; simp, hB3⟩
  · have t1 : (t.kind == 1) = false := by simpa using h1
    rw [decide_eq_false h1] at HE
    by_cases h2 : t.kind = 2
    · have t2 : (t.kind == 2) = true := by simp [h2]
      rw [decide_eq_true h2] at HE
      clear h1 h2
      cases N with
      | false =>
        go_wp2_with fail
        go_ret
        exact ⟨by rw [HE.out]; simp, hB3⟩
      | true =>
        go_wp2_with fail
        refine (ris_any t _ _ gRP ⟨#[41]⟩ rfl _).mono ?_
        rintro e w4 ⟨rfl, b4⟩
        have hB4 := hB3.trans (b4.mono hB3.size)
        have q4 := (b4.block _ (Array.getElem?_eq_some_iff.1 q3).1).trans q3
        obtain ⟨m0, m1, m2, m3, m4⟩ := (fn_facts q4).1
        obtain ⟨B1, hB1e⟩ : ∃ x, isG t gRP = x := ⟨_, rfl⟩
        rw [hB1e]
        rw [hB1e] at HE
        clear hB1e
        cases B1 with
        | true =>
          go_wp2_with fail
          go_ret
          exact ⟨by rw [HE.out]; rfl, hB4⟩
        | false =>
          go_wp2_with fail
          refine (ris_any t _ _ gRB ⟨#[93]⟩ rfl _).mono ?_
          rintro e w5 ⟨rfl, b5⟩
          have hB5 := hB4.trans (b5.mono hB4.size)
          have q5 := (b5.block _ (Array.getElem?_eq_some_iff.1 q4).1).trans q4
          obtain ⟨m0, m1, m2, m3, m4⟩ := (fn_facts q5).1
          obtain ⟨B2, hB2e⟩ : ∃ x, isG t gRB = x := ⟨_, rfl⟩
          rw [hB2e]
          rw [hB2e] at HE
          clear hB2e
          cases B2 with
          | true =>
            go_wp2_with fail
            go_ret
            exact ⟨by rw [HE.out]; rfl, hB5⟩
          | false =>
            go_wp2_with fail
            refine (ris_any t _ _ gAlpha ⟨#[226, 141, 186]⟩ rfl _).mono ?_
            rintro e w6 ⟨rfl, b6⟩
            have hB6 := hB5.trans (b6.mono hB5.size)
            have q6 := (b6.block _ (Array.getElem?_eq_some_iff.1 q5).1).trans q5
            obtain ⟨m0, m1, m2, m3, m4⟩ := (fn_facts q6).1
            obtain ⟨B3, hB3e⟩ : ∃ x, isG t gAlpha = x := ⟨_, rfl⟩
            rw [hB3e]
            rw [hB3e] at HE
            clear hB3e
            cases B3 with
            | true =>
              go_wp2_with fail
              go_ret
              exact ⟨by rw [HE.out]; rfl, hB6⟩
            | false =>
              go_wp2_with fail
              refine (ris_any t _ _ gOmega ⟨#[226, 141, 181]⟩ rfl _).mono ?_
              rintro e w7 ⟨rfl, b7⟩
              have hB7 := hB6.trans (b7.mono hB6.size)
              have q7 := (b7.block _ (Array.getElem?_eq_some_iff.1 q6).1).trans q6
              obtain ⟨B4, hB4e⟩ : ∃ x, isG t gOmega = x := ⟨_, rfl⟩
              rw [hB4e]
              rw [hB4e] at HE
              clear hB4e
              cases B4 with
              | true =>
                go_wp2_with fail
                go_ret
                exact ⟨by rw [HE.out]; rfl, hB7⟩
              | false =>
                go_wp2_with fail
                go_ret
                exact ⟨by rw [HE.out]; rfl, hB7⟩
    · have t2 : (t.kind == 2) = false := by simpa using h2
      rw [decide_eq_false h2] at HE
      clear h1 h2
      go_wp2_with fail
      refine (ris_any t _ _ gRP ⟨#[41]⟩ rfl _).mono ?_
      rintro e w4 ⟨rfl, b4⟩
      have hB4 := hB3.trans (b4.mono hB3.size)
      have q4 := (b4.block _ (Array.getElem?_eq_some_iff.1 q3).1).trans q3
      obtain ⟨m0, m1, m2, m3, m4⟩ := (fn_facts q4).1
      obtain ⟨B1, hB1e⟩ : ∃ x, isG t gRP = x := ⟨_, rfl⟩
      rw [hB1e]
      rw [hB1e] at HE
      clear hB1e
      cases B1 with
      | true =>
        go_wp2_with fail
        go_ret
        exact ⟨by rw [HE.out]; rfl, hB4⟩
      | false =>
        go_wp2_with fail
        refine (ris_any t _ _ gRB ⟨#[93]⟩ rfl _).mono ?_
        rintro e w5 ⟨rfl, b5⟩
        have hB5 := hB4.trans (b5.mono hB4.size)
        have q5 := (b5.block _ (Array.getElem?_eq_some_iff.1 q4).1).trans q4
        obtain ⟨m0, m1, m2, m3, m4⟩ := (fn_facts q5).1
        obtain ⟨B2, hB2e⟩ : ∃ x, isG t gRB = x := ⟨_, rfl⟩
        rw [hB2e]
        rw [hB2e] at HE
        clear hB2e
        cases B2 with
        | true =>
          go_wp2_with fail
          go_ret
          exact ⟨by rw [HE.out]; rfl, hB5⟩
        | false =>
          go_wp2_with fail
          refine (ris_any t _ _ gAlpha ⟨#[226, 141, 186]⟩ rfl _).mono ?_
          rintro e w6 ⟨rfl, b6⟩
          have hB6 := hB5.trans (b6.mono hB5.size)
          have q6 := (b6.block _ (Array.getElem?_eq_some_iff.1 q5).1).trans q5
          obtain ⟨m0, m1, m2, m3, m4⟩ := (fn_facts q6).1
          obtain ⟨B3, hB3e⟩ : ∃ x, isG t gAlpha = x := ⟨_, rfl⟩
          rw [hB3e]
          rw [hB3e] at HE
          clear hB3e
          cases B3 with
          | true =>
            go_wp2_with fail
            go_ret
            exact ⟨by rw [HE.out]; rfl, hB6⟩
          | false =>
            go_wp2_with fail
            refine (ris_any t _ _ gOmega ⟨#[226, 141, 181]⟩ rfl _).mono ?_
            rintro e w7 ⟨rfl, b7⟩
            have hB7 := hB6.trans (b7.mono hB6.size)
            have q7 := (b7.block _ (Array.getElem?_eq_some_iff.1 q6).1).trans q6
            obtain ⟨B4, hB4e⟩ : ∃ x, isG t gOmega = x := ⟨_, rfl⟩
            rw [hB4e]
            rw [hB4e] at HE
            clear hB4e
            cases B4 with
            | true =>
              go_wp2_with fail
              go_ret
              exact ⟨by rw [HE.out]; rfl, hB7⟩
            | false =>
              go_wp2_with fail
              go_ret
              exact ⟨by rw [HE.out]; rfl, hB7⟩
set_option maxRecDepth 100000 in
set_option maxHeartbeats 2000000 in
theorem rtwo_any (T : List Tok) (A : List Nat) (F : List (List UInt8)) (i : Nat) (t : Tok) (hi : T[i]? = some t) (vx : Value) (w : World) (hx : IsX w vx T A F) :
    Calls Tryz.prog 134 #[vx, .int .i64 (i : Int)] w fun e w' => e = .returned (.int .i64 (binT t)) ∧ Below w.heap.size w w' := by
  obtain ⟨ta, tc, aa, ac, fa, fc, rfl, h1, h2, h3⟩ := hx
  obtain ⟨b, o, sa, sc, ea, ec, rfl, ⟨g0, g1, g2, g3, g4⟩, -, -, -⟩ := tok_get h1 hi
  have hiT : (i : Int) < (T.length : Int) := by have := (List.getElem?_eq_some_iff.1 hi).1; omega
  have hi0 : ¬ (i : Int) < 0 := by omega
  have hX0 := heap_alloc_new w (.cells #[.slice (some ⟨b, o, none⟩) T.length tc, .slice aa A.length ac, .slice fa F.length fc] 80)
  have hB0 := (Below.refl _ w).alloc (Nat.le_refl _) (.cells #[.slice (some ⟨b, o, none⟩) T.length tc, .slice aa A.length ac, .slice fa F.length fc] 80)
  obtain ⟨R, hR⟩ : ∃ R, binT t = R := ⟨_, rfl⟩
  rw [hR]
  have HR := hid hR
  clear hi h1 h2 h3 hR
  go_enter Tryz.func134, Tryz.ntmps134
  go_upto_region 1 with fail
  generalize w.alloc (.cells #[.slice (some ⟨b, o, none⟩) T.length tc, .slice aa A.length ac, .slice fa F.length fc] 80) = w1 at *
  have k0 := (hB0.cell (World.block_lt_of_cell? w _ g0)).trans g0
  have k1 := (hB0.cell (World.block_lt_of_cell? w _ g1)).trans g1
  obtain ⟨d0, d1, d2⟩ := (ln_facts hX0).1
  clear g0 g1 g2 g3 g4
  by_cases h3 : t.kind = 3
  · have t3 : (t.kind != 3) = false := by simp [h3]
    have hn := r2named_any t.txt w1
    obtain ⟨n, hnn⟩ : ∃ n, namedF t.txt = n := ⟨_, rfl⟩
    rw [hnn] at hn
    have HRn := hid (show R = if bin12 n = true then n else 0 by rw [← HR.out]; unfold binT; rw [hnn]; simp [h3])
    clear HR hnn h3
    go_wp2_with fail
    refine hn.mono ?_
    rintro e w2 ⟨rfl, b2⟩
    have hb := r2bin_any n w2
    obtain ⟨B, hBe⟩ : ∃ x, bin12 n = x := ⟨_, rfl⟩
    rw [hBe] at hb HRn
    clear hBe hn
    go_wp2_with fail
    refine hb.mono ?_
    rintro e w3 ⟨rfl, rfl⟩
    cases B with
    | true =>
      go_wp2_with fail
      go_ret
      exact ⟨by rw [HRn.out]; rfl, hB0.trans (b2.mono hB0.size)⟩
    | false =>
      go_wp2_with fail
      go_ret
      exact ⟨by rw [HRn.out]; rfl, hB0.trans (b2.mono hB0.size)⟩
  · have t3 : (t.kind != 3) = true := by simpa using h3
    have HR0 := hid (show R = 0 by rw [← HR.out]; unfold binT; rw [if_neg (fun c => h3 c.1)])
    clear HR h3
    go_wp2_with fail
    go_ret
    exact ⟨by rw [HR0.out]; rfl, hB0⟩
end Go.Proofs.YthlingdlehdlhaaGreatDoor.Par

namespace Go.Proofs.YthlingdlehdlhaaGreatDoor.Par
open Go.RowKit Go.Shelf
set_option linter.unusedVariables false
set_option linter.unusedSimpArgs false

theorem own_weak {w : World} {base base' : Nat} {e : TypeId} {size : Nat} {v : Value} {n : Nat} {xs : List Value} (h : w.ownsRow base e size v n xs) (hb : base' ≤ base) : w.ownsRow base' e size v n xs := by
  refine ⟨h.1, ?_⟩
  rcases h.2 with h | ⟨g, cap, cur, e, h1, h2⟩
  · exact .inl h
  · exact .inr ⟨g, cap, cur, e, Nat.le_trans hb h1, h2⟩
/-- A part's bounds, as cells. -/
def boundC (p : Nat × Nat) : List Value := [.int .i64 (p.1 : Int), .int .i64 (p.2 : Int)]
theorem boundC_one (p : Nat × Nat) : ∀ u ∈ boundC p, u.oneCell' = true := fun u hu => by
  simp only [boundC, List.mem_cons, List.not_mem_nil, or_false] at hu
  rcases hu with rfl | rfl <;> rfl
/-- What a cut answers. -/
def CutA (w : World) (T : List Tok) (a b : Nat) (g : List UInt8) (e : Ending) (w' : World) : Prop :=
  (∃ (v : Value) (out : List (Nat × Nat)), e = .returned v ∧ w'.ownsRow w.heap.size 136 2 v out.length (out.map boundC).flatten ∧ (∀ p ∈ out, a ≤ p.1 ∧ p.1 ≤ p.2 ∧ p.2 ≤ b ∧ Dyck (sg T p.1 p.2)) ∧ partsF (sg T a b) g = out.map fun p => sg T p.1 p.2) ∧ Below w.heap.size w w'
set_option maxRecDepth 100000 in
set_option maxHeartbeats 8000000 in
theorem rcut_any (T : List Tok) (A : List Nat) (F : List (List UInt8)) (hA : AtOK T A) (hgd : ∀ t ∈ T, Good t) (a b : Nat) (g : List UInt8) (S : ByteArray) (hS : S = bs g) (hw : wt (gl g) = 0) (hab : a ≤ b) (hbT : b ≤ T.length) (hd : Dyck (sg T a b)) (hTl : T.length ≤ 8000000) (vx : Value) (w : World) (hx : IsX w vx T A F) :
    Calls Tryz.prog 91 #[vx, .int .i64 (a : Int), .int .i64 (b : Int), .string S] w fun e w' => CutA w T a b g e w' := by
  subst hS
  obtain ⟨ta, tc, aa, ac, fa, fc, rfl, h1, h2, h3⟩ := hx
  obtain ⟨i0, hi, hz0, hz1, hz2⟩ := info_parts (show (Tryz.prog.info? 136).map (fun i => (i.zero, i.size, i.bytes)) = some (some (.agg #[.int .i64 0, .int .i64 0]), 2, 16) by kernel_rfl)
  have hX0 := heap_alloc_new w (.cells #[.slice ta T.length tc, .slice aa A.length ac, .slice fa F.length fc] 80)
  have hB0 := (Below.refl _ w).alloc (Nat.le_refl _) (.cells #[.slice ta T.length tc, .slice aa A.length ac, .slice fa F.length fc] 80)
  clear h3
  go_enter Tryz.func91, Tryz.ntmps91
  go_upto_region 1 with fail
  generalize w.alloc (.cells #[.slice ta T.length tc, .slice aa A.length ac, .slice fa F.length fc] 80) = w1 at *
  have h1' := h1.below hB0
  have h2' := h2.below hB0
  have hz0' : w.heap.size < w1.heap.size := (Array.getElem?_eq_some_iff.1 hX0).1
  clear h1 h2
  go_wp2_with fail
  go_loopw [9, 10, 11] (fun vo vb vi wr => ∃ (i begin : Nat) (out : List (Nat × Nat)), CutI T g a b i begin out ∧ out.length ≤ i ∧ vb = .int .i64 (begin : Int) ∧ vi = .int .i64 (i : Int) ∧ wr.ownsRow w1.heap.size 136 2 vo out.length (out.map boundC).flatten ∧ Below w1.heap.size w1 wr) (fun _ _ vi _ => b - (intOf vi).toNat)
  case atStart => exact ⟨a, a, [], CutI.start hab hd, Nat.zero_le _, by first | trivial | rfl, by first | trivial | rfl, World.ownsRow_nil _ _ _ _, Below.refl _ _⟩
  case round =>
    obtain ⟨i, begin, out, hI, hol, rfl, rfl, hown, hB⟩ := hrel
    have hXr := (hB.block w.heap.size hz0').trans hX0
    obtain ⟨d0, d1, d2⟩ := (ln_facts hXr).1
    have hib := hI.ib
    by_cases hlt : i < b
    · obtain ⟨t, ht⟩ : ∃ t, T[i]? = some t := ⟨_, List.getElem?_eq_getElem (by omega)⟩
      obtain ⟨bb, o, sa, sc, ea, ec, rfl, ⟨g0, g1, g2, g3, g4⟩, -, -, -⟩ := tok_get h1' ht
      have k0 := (hB.cell (World.block_lt_of_cell? w1 _ g0)).trans g0
      have k1 := (hB.cell (World.block_lt_of_cell? w1 _ g1)).trans g1
      have k2 := (hB.cell (World.block_lt_of_cell? w1 _ g2)).trans g2
      have k3 := (hB.cell (World.block_lt_of_cell? w1 _ g3)).trans g3
      have k4 := (hB.cell (World.block_lt_of_cell? w1 _ g4)).trans g4
      have hii : (i : Int) < (b : Int) := by omega
      have hiT : (i : Int) < (T.length : Int) := by omega
      have hiA : (i : Int) < (A.length : Int) := by rw [hA.len]; omega
      -- where the next unit begins
      have hcl := unit_close hI.rest hlt ht
      obtain ⟨m, hm, hmI⟩ : ∃ m, A[i]? = some m ∧ i ≤ m ∧ m < b ∧ (isG t g = false → CutI T g a b (m + 1) begin out) ∧ (isG t g = true → m = i) := by
        rcases wt_cases t with hwt | hwt | hwt
        · obtain ⟨c, u, q1, q2, q3, q4, q5, q6⟩ := hA.opens i t ht hwt
          refine ⟨c, q1, by omega, (unit_open hI.rest hlt hbT ht hwt q2 q3 q4 q6).1, fun hg => hI.skip hlt hbT ht hg hwt q2 q3 q4 q6, fun hg => ?_⟩
          rw [wt_isG hg] at hwt
          rw [show (⟨3, g, noArr⟩ : Tok) = gl g from rfl, hw] at hwt; omega
        · exact ⟨i, hA.no i t ht hwt, Nat.le_refl _, hlt, fun hg => hI.go hlt ht hg hwt, fun _ => rfl⟩
        · exact absurd hwt hcl
      obtain ⟨hm1, hm2, hm3, hm4⟩ := hmI
      obtain ⟨ab, ao, rfl, hcA⟩ : ∃ ab ao, aa = some ⟨ab, ao, none⟩ ∧ w1.cell? ⟨ab, ao + i, none⟩ = some (.int .i64 (m : Int)) := by
        obtain ⟨a', c', e, l1, l2, l3, l4⟩ := h2'
        injection e with e1 e2 e3
        subst e1
        obtain ⟨ab, ao, e4, hc⟩ := l4 i (by rw [List.length_map, List.length_map]; have := (List.getElem?_eq_some_iff.1 hm).1; omega)
        refine ⟨ab, ao, e4, ?_⟩
        rw [hc, List.getElem_map, List.getElem_map]
        have := (List.getElem?_eq_some_iff.1 hm).2
        rw [this]
      have hcAr := (hB.cell (World.block_lt_of_cell? w1 _ hcA)).trans hcA
      have hmi : (m : Int) < (b : Int) := by omega
      have hcall := ris_any t (.slice sa t.val.shape.length sc) (.slice ea t.val.elems.length ec) g _ rfl wr
      have hgt := hgd t (List.mem_of_getElem? ht)
      obtain ⟨D, hD⟩ : ∃ d, isG t g = d := ⟨_, rfl⟩
      rw [hD] at hcall hm3 hm4
      have HM3 := hid hm3
      have HM4 := hid hm4
      have HD := hid hD
      have HI := hid hI
      have Ht := hid ht
      clear hD hm3 hm4 hI ht hm hcl g0 g1 g2 g3 g4 hA hd
      go_wp2_with fail
      refine hcall.mono ?_
      rintro e w2 ⟨rfl, b2⟩
      have hB2 := hB.trans (b2.mono hB.size)
      have hown2 := own_below hown b2
      clear hcall k0 k1 k2 k3 k4 d0 d1 d2 hcAr hXr hown
      cases D with
      | false =>
        have hX2 := (hB2.block w.heap.size hz0').trans hX0
        have hcA2 := (hB2.cell (World.block_lt_of_cell? w1 _ hcA)).trans hcA
        obtain ⟨d0, d1, d2⟩ := (ln_facts hX2).1
        clear hX0 hcA
        go_wp2_with fail
        go_roundw
        case rel => exact ⟨m + 1, begin, out, HM3.out (by first | trivial | rfl), by omega, by first | trivial | rfl, by go_num, hown2, hB2⟩
        case measure => simp [intOf]; omega
      | true =>
        have hmi2 := HM4.out (by first | trivial | rfl)
        subst hmi2
        have hN := heap_alloc_new w2 (.cells #[.int .i64 (begin : Int), .int .i64 (m : Int)] 136)
        have hb3 := hB2.alloc hB2.size (.cells #[.int .i64 (begin : Int), .int .i64 (m : Int)] 136)
        have ho3 := hown2.alloc (.cells #[.int .i64 (begin : Int), .int .i64 (m : Int)] 136)
        have hnews : ∀ j u, (boundC (begin, m))[j]? = some u → (w2.alloc (.cells #[.int .i64 (begin : Int), .int .i64 (m : Int)] 136)).cell? ((⟨w2.heap.size, 0, none⟩ : Addr).add j) = some u := fun j u hu => by
          rw [Addr.add_lit, Lib.cell_of_heap hN]
          simpa [boundC] using hu
        have hlen2 : out.length + 1 ≤ 8000001 := by omega
        clear hown2 hN
        go_upto_region 8 with (at_builtin; go_must (refine wpList_append_own_at _ rfl _ _ 134 rfl w1.heap.size 136 i0 (.agg #[.int .i64 0, .int .i64 0]) 2 16 Tryz.underlying134 hi hz0 hz1 hz2 rfl (by decide) _ _ _ rfl ho3 ⟨w2.heap.size, 0, none⟩ 1 1 (boundC (begin, m)) rfl rfl hnews (boundC_one _) (by unfold maxLen; omega) (by omega) hb3.size ?_); intro v' w5 hown' hgrow _ _)
        have hB5 := hb3.grown hgrow hb3.size (fun q e => (ho3.lt q e).1)
        have hX5 := (hB5.block w.heap.size hz0').trans hX0
        have hcA5 := (hB5.cell (World.block_lt_of_cell? w1 _ hcA)).trans hcA
        obtain ⟨d0, d1, d2⟩ := (ln_facts hX5).1
        have hIn := HI.out.sep hlt (by rw [good_isG hgt HD.out] at Ht; exact Ht.out) hw
        have HIn := hid hIn
        clear hX0 hcA hIn hnews ho3 hb3 hgrow
        go_wp2_with fail
        go_roundw
        case rel => exact ⟨m + 1, m + 1, out ++ [(begin, m)], HIn.out, by simp; omega, by go_num, by go_num, by rw [List.length_append, List.map_append, List.flatten_append]; simpa using hown', hB5⟩
        case measure => simp [intOf]; omega
    · obtain rfl : i = b := by omega
      have hii : ¬ (i : Int) < (i : Int) := by omega
      have hN := heap_alloc_new wr (.cells #[.int .i64 (begin : Int), .int .i64 (i : Int)] 136)
      have hb3 := hB.alloc hB.size (.cells #[.int .i64 (begin : Int), .int .i64 (i : Int)] 136)
      have ho3 := hown.alloc (.cells #[.int .i64 (begin : Int), .int .i64 (i : Int)] 136)
      have hnews : ∀ j u, (boundC (begin, i))[j]? = some u → (wr.alloc (.cells #[.int .i64 (begin : Int), .int .i64 (i : Int)] 136)).cell? ((⟨wr.heap.size, 0, none⟩ : Addr).add j) = some u := fun j u hu => by
        rw [Addr.add_lit, Lib.cell_of_heap hN]
        simpa [boundC] using hu
      have hlen2 : out.length + 1 ≤ 8000001 := by omega
      have HI := hid hI
      clear hN hI hX0 hXr d0 d1 d2 hown
      go_wp2_with (at_builtin; go_must (refine wpList_append_own_at _ rfl _ _ 134 rfl w1.heap.size 136 i0 (.agg #[.int .i64 0, .int .i64 0]) 2 16 Tryz.underlying134 hi hz0 hz1 hz2 rfl (by decide) _ _ _ rfl ho3 ⟨wr.heap.size, 0, none⟩ 1 1 (boundC (begin, i)) rfl rfl hnews (boundC_one _) (by unfold maxLen; omega) (by omega) hb3.size ?_); intro v' w5 hown' hgrow _ _)
      go_ret
      have hB5 := hb3.grown hgrow hb3.size (fun q e => (ho3.lt q e).1)
      refine ⟨⟨_, out ++ [(begin, i)], rfl, ?_, fun p hp => ?_, HI.out.done hw⟩, hB0.trans (hB5.mono hB0.size)⟩
      · rw [List.length_append, List.map_append, List.flatten_append]
        exact own_weak (by simpa using hown') hB0.size
      · rcases List.mem_append.1 hp with hp | hp
        · have := HI.out.parts p hp
          exact ⟨this.1, this.2.1, this.2.2.1, this.2.2.2.2⟩
        · rw [List.mem_singleton.1 hp]
          exact ⟨HI.out.ab, HI.out.bi, Nat.le_refl _, HI.out.cur.2⟩
end Go.Proofs.YthlingdlehdlhaaGreatDoor.Par

namespace Go.Proofs.YthlingdlehdlhaaGreatDoor.Par
open Go.RowKit Go.Shelf
set_option linter.unusedVariables false
set_option linter.unusedSimpArgs false

set_option maxRecDepth 100000 in
set_option maxHeartbeats 2000000 in
theorem rval_any (f : Int) (w : World) : Calls Tryz.prog 137 #[.int .i64 f] w fun e w' => e = .returned (.tuple #[.bool (valF f).1, .bool (valF f).2]) ∧ Below w.heap.size w w' := by
  obtain ⟨A, hA⟩ : ∃ A, (valF f).1 = A := ⟨_, rfl⟩
  obtain ⟨B, hB⟩ : ∃ B, (valF f).2 = B := ⟨_, rfl⟩
  rw [hA, hB]
  have HA := hid hA
  have HB := hid hB
  clear hA hB
  by_cases h : 20 ≤ f ∧ f ≤ 31
  · have h1 := h.1
    have h2 := h.2
    have e1 := hid (show A = decide (f ≤ 27) by rw [← HA.out]; unfold valF; rw [if_pos h])
    have e2 := hid (show B = (decide (f ≤ 24) || decide (28 ≤ f)) by rw [← HB.out]; unfold valF; rw [if_pos h])
    clear HA HB h
    by_cases h27 : f ≤ 27
    · have E1 := hid (show A = true by rw [e1.out]; exact decide_eq_true h27)
      by_cases h24 : f ≤ 24
      · have E2 := hid (show B = true by rw [e2.out, decide_eq_true h24]; rfl)
        clear e1 e2
        go_enter Tryz.func137, Tryz.ntmps137
        go_wp2_with fail
        refine bodyPost_ret (results_tmp2 rfl _ _ _) rfl ?_
        exact ⟨by rw [E1.out, E2.out]; rfl, Below.refl _ _⟩
      · have h28 : ¬ 28 ≤ f := by omega
        have E2 := hid (show B = false by rw [e2.out, decide_eq_false h24, decide_eq_false h28]; rfl)
        clear e1 e2
        go_enter Tryz.func137, Tryz.ntmps137
        go_wp2_with fail
        refine bodyPost_ret (results_tmp2 rfl _ _ _) rfl ?_
        exact ⟨by rw [E1.out, E2.out]; rfl, Below.refl _ _⟩
    · have h24 : ¬ f ≤ 24 := by omega
      have h28 : 28 ≤ f := by omega
      have E1 := hid (show A = false by rw [e1.out]; exact decide_eq_false h27)
      have E2 := hid (show B = true by rw [e2.out, decide_eq_false h24, decide_eq_true h28]; rfl)
      clear e1 e2
      go_enter Tryz.func137, Tryz.ntmps137
      go_wp2_with fail
      refine bodyPost_ret (results_tmp2 rfl _ _ _) rfl ?_
      exact ⟨by rw [E1.out, E2.out]; rfl, Below.refl _ _⟩
  · have e1 : A = un12 f := by rw [← HA.out]; unfold valF; rw [if_neg h]
    have e2 : B = bin12 f := by rw [← HB.out]; unfold valF; rw [if_neg h]
    have c1 := r2un_any f w
    have c2 := r2bin_any f w
    rw [← e1] at c1
    rw [← e2] at c2
    clear e1 e2 HA HB
    by_cases h20 : 20 ≤ f
    · have h31 : ¬ f ≤ 31 := fun h2 => h ⟨h20, h2⟩
      clear h
      go_enter Tryz.func137, Tryz.ntmps137
      go_wp2_with fail
      refine c1.mono ?_
      rintro e w1 ⟨rfl, rfl⟩
      go_wp2_with fail
      refine c2.mono ?_
      rintro e w2 ⟨rfl, rfl⟩
      go_wp2_with fail
      refine bodyPost_ret (results_tmp2 rfl _ _ _) rfl ?_
      exact ⟨rfl, Below.refl _ _⟩
    · clear h
      go_enter Tryz.func137, Tryz.ntmps137
      go_wp2_with fail
      refine c1.mono ?_
      rintro e w1 ⟨rfl, rfl⟩
      go_wp2_with fail
      refine c2.mono ?_
      rintro e w2 ⟨rfl, rfl⟩
      go_wp2_with fail
      refine bodyPost_ret (results_tmp2 rfl _ _ _) rfl ?_
      exact ⟨rfl, Below.refl _ _⟩
set_option maxRecDepth 100000 in
set_option maxHeartbeats 2000000 in
theorem rofn_any (f : Fn) (b : Option Addr) (n c : Nat) (w : World) : Calls Tryz.prog 89 #[.agg #[.int .i64 f.kind, .int .i64 f.f, .int .i64 f.g, .string (bs f.name), .slice b n c]] w fun e w' => e = .returned (.tuple #[.bool (takesF f).1, .bool (takesF f).2]) ∧ Below w.heap.size w w' := by
  obtain ⟨A, hA⟩ : ∃ A, (takesF f).1 = A := ⟨_, rfl⟩
  obtain ⟨B, hB⟩ : ∃ B, (takesF f).2 = B := ⟨_, rfl⟩
  rw [hA, hB]
  have HA := hid hA
  have HB := hid hB
  clear hA hB
  have hX0 := heap_alloc_new w (.cells #[.int .i64 f.kind, .int .i64 f.f, .int .i64 f.g, .string (bs f.name), .slice b n c] 33)
  have hB0 := (Below.refl _ w).alloc (Nat.le_refl _) (.cells #[.int .i64 f.kind, .int .i64 f.f, .int .i64 f.g, .string (bs f.name), .slice b n c] 33)
  go_enter Tryz.func89, Tryz.ntmps89
  go_upto_region 1 with fail
  generalize w.alloc (.cells #[.int .i64 f.kind, .int .i64 f.f, .int .i64 f.g, .string (bs f.name), .slice b n c] 33) = w1 at *
  obtain ⟨c0, c1, c2, c3, c4⟩ := (fn_facts hX0).1
  by_cases h1 : f.kind = 1
  · have t1 : (f.kind == 1) = true := by simp [h1]
    have hv := rval_any f.f w1
    have e1 : A = (valF f.f).1 := by rw [← HA.out]; unfold takesF; rw [if_pos h1]
    have e2 : B = (valF f.f).2 := by rw [← HB.out]; unfold takesF; rw [if_pos h1]
    rw [← e1, ← e2] at hv
    clear h1 e1 e2 HA HB
    go_wp2_with fail
    refine hv.mono ?_
    rintro e w2 ⟨rfl, b2⟩
    go_wp2_with fail
    refine bodyPost_ret (results_tmp2 rfl _ _ _) rfl ?_
    exact ⟨rfl, hB0.trans (b2.mono hB0.size)⟩
  · have t1 : (f.kind == 1) = false := by simpa using h1
    by_cases h2 : f.kind = 2
    · have q4 : (f.kind != 4) = true := by simp [h2]
      have q5 : (f.kind != 5) = true := by simp [h2]
      have q2 : (f.kind != 2) = false := by simp [h2]
      have E1 := hid (show A = true by rw [← HA.out]; unfold takesF; rw [if_neg h1, if_pos (.inl h2)])
      have E2 := hid (show B = false by rw [← HB.out]; unfold takesF; rw [if_neg h1, if_pos (.inl h2)])
      clear h1 h2 HA HB
      go_wp2_with fail
      go_quiet (fail)
      go_wp2
      refine bodyPost_ret (results_tmp2 rfl _ _ _) rfl ?_
      exact ⟨by rw [E1.out, E2.out]; rfl, below_drewN hB0 _⟩
    · have q2 : (f.kind != 2) = true := by simpa using h2
      by_cases h3 : f.kind = 3
      · have q4 : (f.kind != 4) = true := by simp [h3]
        have q5 : (f.kind != 5) = true := by simp [h3]
        have q3 : (f.kind != 3) = false := by simp [h3]
        have E1 := hid (show A = true by rw [← HA.out]; unfold takesF; rw [if_neg h1, if_pos (.inr h3)])
        have E2 := hid (show B = false by rw [← HB.out]; unfold takesF; rw [if_neg h1, if_pos (.inr h3)])
        clear h1 h2 h3 HA HB
        go_wp2_with fail
        go_quiet (fail)
        go_wp2
        refine bodyPost_ret (results_tmp2 rfl _ _ _) rfl ?_
        exact ⟨by rw [E1.out, E2.out]; rfl, below_drewN hB0 _⟩
      · have q3 : (f.kind != 3) = true := by simpa using h3
        have hn : ¬ (f.kind = 2 ∨ f.kind = 3) := by omega
        by_cases h4 : f.kind = 4
        · have q4 : (f.kind != 4) = false := by simp [h4]
          have E1 := hid (show A = false by rw [← HA.out]; unfold takesF; rw [if_neg h1, if_neg hn, if_pos (.inl h4)])
          have E2 := hid (show B = true by rw [← HB.out]; unfold takesF; rw [if_neg h1, if_neg hn, if_pos (.inl h4)])
          clear h1 h2 h3 h4 hn HA HB
          go_wp2_with fail
          go_quiet (fail)
          go_wp2
          refine bodyPost_ret (results_tmp2 rfl _ _ _) rfl ?_
          exact ⟨by rw [E1.out, E2.out]; rfl, below_drewN hB0 _⟩
        · have q4 : (f.kind != 4) = true := by simpa using h4
          by_cases h5 : f.kind = 5
          · have q5 : (f.kind != 5) = false := by simp [h5]
            have E1 := hid (show A = false by rw [← HA.out]; unfold takesF; rw [if_neg h1, if_neg hn, if_pos (.inr h5)])
            have E2 := hid (show B = true by rw [← HB.out]; unfold takesF; rw [if_neg h1, if_neg hn, if_pos (.inr h5)])
            clear h1 h2 h3 h4 h5 hn HA HB
            go_wp2_with fail
            go_quiet (fail)
            go_wp2
            refine bodyPost_ret (results_tmp2 rfl _ _ _) rfl ?_
            exact ⟨by rw [E1.out, E2.out]; rfl, below_drewN hB0 _⟩
          · have q5 : (f.kind != 5) = true := by simpa using h5
            have hn2 : ¬ (f.kind = 4 ∨ f.kind = 5) := by omega
            have E1 := hid (show A = true by rw [← HA.out]; unfold takesF; rw [if_neg h1, if_neg hn, if_neg hn2])
            have E2 := hid (show B = true by rw [← HB.out]; unfold takesF; rw [if_neg h1, if_neg hn, if_neg hn2])
            clear h1 h2 h3 h4 h5 hn hn2 HA HB
            go_wp2_with fail
            go_quiet (fail)
            go_wp2
            refine bodyPost_ret (results_tmp2 rfl _ _ _) rfl ?_
            exact ⟨by rw [E1.out, E2.out]; rfl, below_drewN hB0 _⟩
theorem mixed_row (k : Nat) (h : k < 12) : (#[.string ⟨#[226, 141, 180]⟩, .string ⟨#[44]⟩, .string ⟨#[226, 140, 189]⟩, .string ⟨#[226, 141, 137]⟩, .string ⟨#[226, 141, 179]⟩, .string ⟨#[226, 137, 162]⟩, .string ⟨#[226, 141, 139]⟩, .string ⟨#[226, 141, 146]⟩, .string ⟨#[226, 134, 145]⟩, .string ⟨#[226, 134, 147]⟩, .string ⟨#[226, 136, 138]⟩, .string ⟨#[47]⟩] : Array Value)[k]? = some (.string (bs (mixedG[k]'h))) := by
  rcases (by omega : k = 0 ∨ k = 1 ∨ k = 2 ∨ k = 3 ∨ k = 4 ∨ k = 5 ∨ k = 6 ∨ k = 7 ∨ k = 8 ∨ k = 9 ∨ k = 10 ∨ k = 11) with rfl | rfl | rfl | rfl | rfl | rfl | rfl | rfl | rfl | rfl | rfl | rfl <;> rfl
theorem mixed_fn (k : Nat) (h : k < 12) : fnF (mixedG[k]'h) = 20 + k := by
  have key : ∀ i : Fin 12, fnF (mixedG[i.1]'i.2) = 20 + i.1 := by decide
  exact key ⟨k, h⟩
theorem fn_no (t : List UInt8) (h : ∀ k (hk : k < 12), mixedG[k]'hk ≠ t) : fnF t = namedF t := by
  unfold fnF
  rw [if_neg]
  intro hm
  obtain ⟨i, hi, e⟩ := List.getElem_of_mem hm
  exact h i hi e
set_option maxRecDepth 100000 in
theorem rmixed_any (w : World) : Calls Tryz.prog 168 #[] w fun e w' => e = .returned (.slice (some ⟨w.heap.size, 0, none⟩) 12 12) ∧ w' = w.alloc (.cells #[.string ⟨#[226, 141, 180]⟩, .string ⟨#[44]⟩, .string ⟨#[226, 140, 189]⟩, .string ⟨#[226, 141, 137]⟩, .string ⟨#[226, 141, 179]⟩, .string ⟨#[226, 137, 162]⟩, .string ⟨#[226, 141, 139]⟩, .string ⟨#[226, 141, 146]⟩, .string ⟨#[226, 134, 145]⟩, .string ⟨#[226, 134, 147]⟩, .string ⟨#[226, 136, 138]⟩, .string ⟨#[47]⟩] 9) := by
  go_enter Tryz.func168, Tryz.ntmps168
  go_wp2_with fail
  go_ret
  exact ⟨rfl, rfl⟩
set_option maxRecDepth 100000 in
set_option maxHeartbeats 2000000 in
theorem rfn_any (t : List UInt8) (w : World) : Calls Tryz.prog 136 #[.string (bs t)] w fun e w' => e = .returned (.int .i64 (fnF t)) ∧ Below w.heap.size w w' := by
  obtain ⟨R, hR⟩ : ∃ R, fnF t = R := ⟨_, rfl⟩
  have HR := hid hR
  rw [hR]
  clear hR
  go_enter Tryz.func136, Tryz.ntmps136
  go_wp2_with fail
  refine (rmixed_any _).mono ?_
  rintro e w1 ⟨rfl, hW⟩
  have hN := heap_alloc_new w (.cells #[.string ⟨#[226, 141, 180]⟩, .string ⟨#[44]⟩, .string ⟨#[226, 140, 189]⟩, .string ⟨#[226, 141, 137]⟩, .string ⟨#[226, 141, 179]⟩, .string ⟨#[226, 137, 162]⟩, .string ⟨#[226, 141, 139]⟩, .string ⟨#[226, 141, 146]⟩, .string ⟨#[226, 134, 145]⟩, .string ⟨#[226, 134, 147]⟩, .string ⟨#[226, 136, 138]⟩, .string ⟨#[47]⟩] 9)
  have hB0 := (Below.refl _ w).alloc (Nat.le_refl _) (.cells #[.string ⟨#[226, 141, 180]⟩, .string ⟨#[44]⟩, .string ⟨#[226, 140, 189]⟩, .string ⟨#[226, 141, 137]⟩, .string ⟨#[226, 141, 179]⟩, .string ⟨#[226, 137, 162]⟩, .string ⟨#[226, 141, 139]⟩, .string ⟨#[226, 141, 146]⟩, .string ⟨#[226, 134, 145]⟩, .string ⟨#[226, 134, 147]⟩, .string ⟨#[226, 136, 138]⟩, .string ⟨#[47]⟩] 9)
  rw [← hW] at hN hB0
  clear hW
  go_wp2_with fail
  go_loopw [4] (fun vk wr => ∃ k : Nat, k ≤ 12 ∧ vk = .int .i64 (k : Nat) ∧ Hid (∀ j (hj : j < 12), j < k → mixedG[j]'hj ≠ t) ∧ wr = w1) (fun vk _ => 12 - (intOf vk).toNat)
  case atStart => exact ⟨0, by omega, rfl, hid (fun j h1 h2 => by omega), rfl⟩
  case round =>
    obtain ⟨k, hk, rfl, Hn, rfl⟩ := hrel
    by_cases hlt : k < 12
    · have hki : (k : Int) < 12 := by omega
      have hc : wr.cell? ⟨w.heap.size, k, none⟩ = some (.string (bs (mixedG[k]'hlt))) := by rw [Lib.cell_of_heap hN]; exact mixed_row k hlt
      obtain ⟨D, hD⟩ : ∃ d, decide (mixedG[k]'hlt = t) = d := ⟨_, rfl⟩
      have hcmp : ((bs (mixedG[k]'hlt)).toList == (bs t).toList) = D := by rw [bs_txt]; exact hD
      have HD := hid hD
      have HK := hid (mixed_fn k hlt)
      obtain ⟨G, hG⟩ : ∃ g, mixedG[k]'hlt = g := ⟨_, rfl⟩
      rw [hG] at hc hcmp
      have HG := hid hG
      have hw20 : IntKind.i64.wrap (20 + (k : Int)) = 20 + (k : Int) := IntWalk.i64_in _ (by omega)
      clear hD hG hN
      cases D with
      | true =>
        have HE := hid (show R = 20 + (k : Int) by
          have e1 := of_decide_eq_true HD.out
          rw [← HR.out, ← e1]; exact HK.out)
        clear HR
        go_wp2_with fail
        go_ret
        exact ⟨by rw [HE.out]; rfl, hB0⟩
      | false =>
        go_wp2_with fail
        go_roundw
        case rel =>
          refine ⟨k + 1, by omega, by go_num, hid (fun j h1 h2 => ?_), by first | trivial | rfl⟩
          by_cases hj : j = k
          · subst hj; exact of_decide_eq_false HD.out
          · exact Hn.out j h1 (by omega)
        case measure => simp [intOf]; omega
    · have hki : ¬ (k : Int) < 12 := by omega
      have hR0 : R = namedF t := by rw [← HR.out]; exact fn_no t (fun j h1 => Hn.out j h1 (by omega))
      have hn := r2named_any t wr
      rw [← hR0] at hn
      clear hR0 HR hN
      go_wp2_with fail
      refine hn.mono ?_
      rintro e w2 ⟨rfl, b2⟩
      go_wp2_with fail
      go_ret
      exact ⟨rfl, hB0.trans (b2.mono hB0.size)⟩
end Go.Proofs.YthlingdlehdlhaaGreatDoor.Par

namespace Go.Proofs.YthlingdlehdlhaaGreatDoor.Par
open Go.RowKit Go.Shelf
set_option linter.unusedVariables false
set_option linter.unusedSimpArgs false

def noTok : Tok := ⟨0, [], noArr⟩
set_option maxRecDepth 100000 in
set_option maxHeartbeats 2000000 in
theorem rsets_any (T : List Tok) (A : List Nat) (F : List (List UInt8)) (a b : Nat) (hab : a ≤ b) (hb : b ≤ T.length) (hTl : T.length ≤ 8000000) (vx : Value) (w : World) (hx : IsX w vx T A F) :
    Calls Tryz.prog 36 #[vx, .int .i64 (a : Int), .int .i64 (b : Int)] w fun e w' => e = .returned (.bool (decide (a + 1 < b) && decide (((T[a]?).getD noTok).kind = 2) && isG ((T[a + 1]?).getD noTok) gGets)) ∧ Below w.heap.size w w' := by
  obtain ⟨ta, tc, aa, ac, fa, fc, rfl, h1, h2, h3⟩ := hx
  have hB0 := (Below.refl _ w).alloc (Nat.le_refl _) (.cells #[.slice ta T.length tc, .slice aa A.length ac, .slice fa F.length fc] 80)
  have hX0 := heap_alloc_new w (.cells #[.slice ta T.length tc, .slice aa A.length ac, .slice fa F.length fc] 80)
  obtain ⟨R, hR⟩ : ∃ R, (decide (a + 1 < b) && decide (((T[a]?).getD noTok).kind = 2) && isG ((T[a + 1]?).getD noTok) gGets) = R := ⟨_, rfl⟩
  rw [hR]
  have HR := hid hR
  have h1' := h1.below hB0
  have hsub : IntKind.i64.wrap ((b : Int) - (a : Int)) = (b : Int) - (a : Int) := IntWalk.i64_in _ (by omega)
  have hadd : IntKind.i64.wrap ((a : Int) + 1) = (a : Int) + 1 := IntWalk.i64_in _ (by omega)
  clear h1 h2 h3 hR
  go_enter Tryz.func36, Tryz.ntmps36
  go_upto_region 1 with fail
  generalize w.alloc (.cells #[.slice ta T.length tc, .slice aa A.length ac, .slice fa F.length fc] 80) = w1 at *
  obtain ⟨d0, d1, d2⟩ := (ln_facts hX0).1
  by_cases hlt : a + 1 < b
  · obtain ⟨t, ht⟩ : ∃ t, T[a]? = some t := ⟨_, List.getElem?_eq_getElem (by omega)⟩
    obtain ⟨u, hu⟩ : ∃ u, T[a + 1]? = some u := ⟨_, List.getElem?_eq_getElem (by omega)⟩
    obtain ⟨bb, o, sa, sc, ea, ec, rfl, ⟨g0, g1, g2, g3, g4⟩, -, -, -⟩ := tok_get h1' ht
    obtain ⟨bb', o', ua, uc, va, vc, eq, ⟨k0, k1, k2, k3, k4⟩, -, -, -⟩ := tok_get h1' hu
    simp only [Option.some.injEq, Addr.mk.injEq, and_true] at eq
    obtain ⟨rfl, rfl⟩ := eq
    have HE := hid (show R = (decide (t.kind = 2) && isG u gGets) by rw [← HR.out, ht, hu, decide_eq_true hlt]; rfl)
    have h2i : (2 : Int) ≤ (b : Int) - (a : Int) := by omega
    have hai : (a : Int) < (T.length : Int) := by omega
    have hai2 : (a : Int) + 1 < (T.length : Int) := by omega
    have ha0 : (0 : Int) ≤ (a : Int) + 1 := by omega
    have han : ((a : Int) + 1).toNat = a + 1 := by omega
    clear HR hX0 ht hu h1'
    by_cases hk : t.kind = 2
    · have t2 : (t.kind == 2) = true := by simp [hk]
      have hcall := ris_any u (.slice ua u.val.shape.length uc) (.slice va u.val.elems.length vc) gGets ⟨#[226, 134, 144]⟩ rfl w1
      obtain ⟨D, hD⟩ : ∃ d, isG u gGets = d := ⟨_, rfl⟩
      rw [hD, decide_eq_true hk] at HE
      rw [hD] at hcall
      clear hk hD
      go_wp2_with fail
      refine hcall.mono ?_
      rintro e w2 ⟨rfl, b2⟩
      go_wp2_with fail
      go_ret
      exact ⟨by rw [HE.out]; cases D <;> rfl, hB0.trans (b2.mono hB0.size)⟩
    · have t2 : (t.kind == 2) = false := by simpa using hk
      rw [decide_eq_false hk] at HE
      clear hk
      go_wp2_with fail
      go_ret
      exact ⟨by rw [HE.out]; rfl, hB0⟩
  · have HE := hid (show R = false by rw [← HR.out, decide_eq_false hlt]; rfl)
    have h2i : ¬ (2 : Int) ≤ (b : Int) - (a : Int) := by omega
    clear HR hX0 h1'
    go_wp2_with fail
    go_ret
    exact ⟨by rw [HE.out]; rfl, hB0⟩
end Go.Proofs.YthlingdlehdlhaaGreatDoor.Par
