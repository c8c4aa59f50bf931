/- The reference's Glyph, at any number. -/
import Derived.Test.YthlingdlehdlhaaDoorRLeaf
import Derived.Test.YthlingdlehdlhaaDoorPShow0
import Derived.Deep.Cut
namespace Go.Proofs.YthlingdlehdlhaaDoor.Par
open Go.RowKit Go.Shelf
set_option linter.unusedVariables false
set_option linter.unusedSimpArgs false

set_option maxRecDepth 100000 in
theorem rgreat18_any (S : ByteArray) (a : Option Addr) (n c : Nat) (w : World) :
    Calls Tryd.prog 4 #[.string S, .slice a n c] w fun e w' => e = .returned (.bool (decide (8000 < S.size) || decide (50 < n))) ∧ Below w.heap.size w w' := by
  obtain ⟨D, hD⟩ : ∃ d, (decide (8000 < S.size) || decide (50 < n)) = d := ⟨_, rfl⟩
  rw [hD]
  have HD := hid hD.symm
  clear hD
  generalize hN : S.size = N at *
  by_cases h1 : 8000 < N
  · have h1' : (8000 : Int) < (N : Int) := by omega
    have HN : Hid (D = true) := hid (by rw [HD.out]; simp [h1])
    clear HD
    go_enter Tryd.func4, Tryd.ntmps4
    go_wp2_with fail
    go_ret
    exact ⟨by rw [HN.out]; rfl, Below.refl _ _⟩
  · have h1' : ¬ (8000 : Int) < (N : Int) := by omega
    by_cases h2 : 50 < n
    · have h2' : (50 : Int) < (n : Int) := by omega
      have HN : Hid (D = true) := hid (by rw [HD.out]; simp [h2])
      clear HD
      go_enter Tryd.func4, Tryd.ntmps4
      go_wp2_with fail
      go_ret
      exact ⟨by rw [HN.out]; simp, Below.refl _ _⟩
    · have h2' : ¬ (50 : Int) < (n : Int) := by omega
      have HN : Hid (D = false) := hid (by rw [HD.out]; simp [h1, h2])
      clear HD
      go_enter Tryd.func4, Tryd.ntmps4
      go_wp2_with fail
      go_ret
      exact ⟨by rw [HN.out]; simp, Below.refl _ _⟩
set_option maxRecDepth 100000 in
theorem r2glyph_all (f : Int) (w : World) : Calls Tryd.prog 21 #[.int .i64 f] w fun e w' => e = .returned (.string (bs (glyph12F f))) ∧ Below w.heap.size w w' := by
  obtain ⟨R, hR⟩ : ∃ R, bs (glyph12F f) = R := ⟨_, rfl⟩
  by_cases h0 : f < 1
  · rw [hR]
    have HR : Hid (R = ⟨#[]⟩) := hid (by rw [← hR]; unfold glyph12F; rw [if_neg (by omega)]; rfl)
    clear hR
    go_enter Tryd.func21, Tryd.ntmps21
    go_wp2_with fail
    go_ret
    exact ⟨by rw [HR.out]; rfl, Below.refl _ _⟩
  · by_cases h1 : 17 < f
    · rw [hR]
      have HR : Hid (R = ⟨#[]⟩) := hid (by rw [← hR]; unfold glyph12F; rw [if_neg (by omega)]; rfl)
      clear hR
      go_enter Tryd.func21, Tryd.ntmps21
      go_wp2_with fail
      go_ret
      exact ⟨by rw [HR.out]; rfl, Below.refl _ _⟩
    · obtain ⟨k, rfl⟩ : ∃ k : Nat, f = k := ⟨f.toNat, by omega⟩
      exact r2glyph_any k (by omega) (by omega) w
set_option maxRecDepth 100000 in
theorem r8glyph_any (f : Int) (w : World) : Calls Tryd.prog 8 #[.int .i64 f] w fun e w' => e = .returned (.string (bs (glyphF f))) ∧ Below w.heap.size w w' := by
  obtain ⟨R, hR⟩ : ∃ R, bs (glyphF f) = R := ⟨_, rfl⟩
  rw [hR]
  have hs := fun W => r2glyph_all f W
  generalize hQ : bs (glyph12F f) = Q at hs
  have hmix := rmixed_any w
  by_cases h0 : f < 20
  · have HR : Hid (R = Q) := hid (by rw [← hR, ← hQ]; unfold glyphF; rw [if_neg (by omega)])
    clear hR hQ
    go_enter Tryd.func8, Tryd.ntmps8
    go_wp2_with fail
    refine hmix.mono ?_
    rintro e w1 ⟨rfl, hw1⟩
    have b1 : Below w.heap.size w w1 := by rw [hw1]; exact (Below.refl _ w).alloc (Nat.le_refl _) _
    clear hw1 hmix
    go_wp2_with fail
    refine (hs _).mono ?_
    rintro e w' ⟨rfl, b⟩
    go_wp2_with fail
    go_ret
    exact ⟨by rw [HR.out]; rfl, b1.trans (b.mono b1.size)⟩
  · by_cases h1 : 32 ≤ f
    · have HR : Hid (R = Q) := hid (by rw [← hR, ← hQ]; unfold glyphF; rw [if_neg (by omega)])
      clear hR hQ
      go_enter Tryd.func8, Tryd.ntmps8
      go_wp2_with fail
      refine hmix.mono ?_
      rintro e w1 ⟨rfl, hw1⟩
      have b1 : Below w.heap.size w w1 := by rw [hw1]; exact (Below.refl _ w).alloc (Nat.le_refl _) _
      clear hw1 hmix
      go_wp2_with fail
      refine (hs _).mono ?_
      rintro e w' ⟨rfl, b⟩
      go_wp2_with fail
      go_ret
      exact ⟨by rw [HR.out]; rfl, b1.trans (b.mono b1.size)⟩
    · obtain ⟨k, rfl⟩ : ∃ k : Nat, f = ((k + 20 : Nat) : Int) := ⟨(f - 20).toNat, by omega⟩
      have hk : k < 12 := by omega
      have HR : Hid (R = bs (mixedG[k]'hk)) := hid (by
        rw [← hR]; unfold glyphF
        rw [if_pos (by omega), show ((((k + 20 : Nat) : Int) - 20).toNat) = k by omega, List.getElem?_eq_getElem hk]; rfl)
      have hw20 : IntKind.i64.wrap (((k + 20 : Nat) : Int) - 20) = (k : Int) := by rw [show ((k + 20 : Nat) : Int) - 20 = (k : Int) by omega]; exact IntWalk.i64_in _ (by omega)
      have h20 : (20 : Int) ≤ ((k + 20 : Nat) : Int) := by omega
      have h32 : ((k + 20 : Nat) : Int) < 32 := by omega
      have hk12 : (k : Int) < 12 := by omega
      generalize ((k + 20 : Nat) : Int) = f at *
      clear hR hQ hs h0 h1
      go_enter Tryd.func8, Tryd.ntmps8
      go_wp2_with fail
      refine hmix.mono ?_
      rintro e w1 ⟨rfl, hw1⟩
      have b1 : Below w.heap.size w w1 := by rw [hw1]; exact (Below.refl _ w).alloc (Nat.le_refl _) _
      have hcell : w1.cell? ⟨w.heap.size, k, none⟩ = some (.string (bs (mixedG[k]'hk))) := by
        rw [hw1, Lib.cell_of_heap (heap_alloc_new w _)]
        exact mixed_row k hk
      clear hw1 hmix
      generalize bs (mixedG[k]'hk) = X at *
      go_wp2_with fail
      go_ret
      exact ⟨by rw [HR.out]; rfl, b1⟩
end Go.Proofs.YthlingdlehdlhaaDoor.Par
