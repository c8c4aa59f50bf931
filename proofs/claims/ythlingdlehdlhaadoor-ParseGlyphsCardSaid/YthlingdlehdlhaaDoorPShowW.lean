/- parse: a tree's text: the walks of its leaves. -/
import Derived.Test.YthlingdlehdlhaaDoorPTrees
import Derived.Test.YthlingdlehdlhaaDoorPShow0
namespace Go.Proofs.YthlingdlehdlhaaDoor.Par
open Go.RowKit Go.Shelf
set_option linter.unusedVariables false
set_option linter.unusedSimpArgs false

theorem strs_cell {w : World} {b n c : Nat} {xs : List (List UInt8)} (h : Strs w (.slice (some ⟨b, 0, none⟩) n c) (xs.map bs)) (k : Nat) (hk : k < xs.length) : w.cell? ⟨b, k, none⟩ = some (.string (bs xs[k])) := by
  obtain ⟨a, c2, e, h1, h2, h3, h4⟩ := h
  injection e with e1 e2 e3
  subst e1
  obtain ⟨g, o, e, hc⟩ := h4 k (by simpa using hk)
  injection e with e; injection e with e4 e5
  subst e4 e5
  simpa using hc
set_option maxRecDepth 100000 in
theorem sglyph_any (f : Int) (w : World) (h : Gly w) : Calls Tryd.prog 19 #[.int .i64 f] w fun e w' => e = .returned (.string (bs (glyph12F f))) ∧ Below w.heap.size w w' := by
  obtain ⟨R, hR⟩ : ∃ R, bs (glyph12F f) = R := ⟨_, rfl⟩
  rw [hR]
  by_cases h0 : f < 0
  · have HR : Hid (R = ⟨#[]⟩) := hid (by rw [← hR]; unfold glyph12F; rw [if_neg (by omega)]; rfl)
    clear hR
    go_enter Tryd.func19, Tryd.ntmps19
    go_wp2_with fail
    go_ret
    exact ⟨by rw [HR.out]; rfl, Below.refl _ _⟩
  · by_cases h1 : 18 ≤ f
    · have HR : Hid (R = ⟨#[]⟩) := hid (by rw [← hR]; unfold glyph12F; rw [if_neg (by omega)]; rfl)
      clear hR
      go_enter Tryd.func19, Tryd.ntmps19
      go_wp2_with fail
      go_ret
      exact ⟨by rw [HR.out]; rfl, Below.refl _ _⟩
    · obtain ⟨k, rfl⟩ : ∃ k : Nat, f = k := ⟨f.toNat, by omega⟩
      have hk : k < (([] : List UInt8) :: glyph12).length := by show k < 18; omega
      have c := strs_cell h.a k hk
      have HR : Hid (R = bs (([] : List UInt8) :: glyph12)[k]) := hid (by
        rw [← hR]
        unfold glyph12F
        cases k with
        | zero => rfl
        | succ j =>
          have hj : j < glyph12.length := by simpa using hk
          rw [if_pos (by omega), show ((((j + 1 : Nat) : Int) - 1).toNat) = j by omega, List.getElem?_eq_getElem hj]; rfl)
      generalize bs (([] : List UInt8) :: glyph12)[k] = X at *
      have h2 : (k : Int) < 18 := by omega
      clear hR hk
      go_enter Tryd.func19, Tryd.ntmps19
      go_wp2_with fail
      go_ret
      exact ⟨by rw [HR.out]; rfl, Below.refl _ _⟩
set_option maxRecDepth 100000 in
theorem pglyph_any (f : Int) (w : World) (h : Gly w) : Calls Tryd.prog 7 #[.int .i64 f] w fun e w' => e = .returned (.string (bs (glyphF f))) ∧ Below w.heap.size w w' := by
  have hs := fun W (hw : Below w.heap.size w W) => sglyph_any f W (h.below hw)
  obtain ⟨R, hR⟩ : ∃ R, bs (glyphF f) = R := ⟨_, rfl⟩
  rw [hR]
  generalize hQ : bs (glyph12F f) = Q at hs
  by_cases h0 : f < 20
  · have HR : Hid (R = Q) := hid (by rw [← hR, ← hQ]; unfold glyphF; rw [if_neg (by omega)])
    clear hR hQ
    go_enter Tryd.func7, Tryd.ntmps7
    go_wp2_with fail
    refine (hs _ (Below.refl _ _)).mono ?_
    rintro e w' ⟨rfl, b⟩
    go_wp2_with fail
    go_ret
    exact ⟨by rw [HR.out]; rfl, b⟩
  · by_cases h1 : 32 ≤ f
    · have HR : Hid (R = Q) := hid (by rw [← hR, ← hQ]; unfold glyphF; rw [if_neg (by omega)])
      clear hR hQ
      go_enter Tryd.func7, Tryd.ntmps7
      go_wp2_with fail
      refine (hs _ (Below.refl _ _)).mono ?_
      rintro e w' ⟨rfl, b⟩
      go_wp2_with fail
      go_ret
      exact ⟨by rw [HR.out]; rfl, b⟩
    · obtain ⟨k, hf⟩ : ∃ k : Nat, f - 20 = (k : Int) := ⟨(f - 20).toNat, by omega⟩
      have hk : k < mixedG.length := by show k < 12; omega
      have c := strs_cell h.b k hk
      have HR : Hid (R = bs mixedG[k]) := hid (by
        rw [← hR]
        unfold glyphF
        rw [if_pos (by omega), hf, Int.toNat_natCast, List.getElem?_eq_getElem hk]; rfl)
      generalize bs mixedG[k] = X at *
      have h2 : (k : Int) < 12 := by omega
      have h3 : f < 32 := by omega
      have hw : IntKind.i64.wrap (f - 20) = (k : Int) := by rw [IntWalk.i64_in _ (by omega)]; omega
      clear hR hk hs h1 hf
      go_enter Tryd.func7, Tryd.ntmps7
      go_wp2_with fail
      go_ret
      exact ⟨by rw [HR.out]; rfl, Below.refl _ _⟩
end Go.Proofs.YthlingdlehdlhaaDoor.Par
