/- ArrayPlaces: the walk of the law. -/
import Derived.Test.YtcfjinbcjdjeaaaProg
import Derived.Test.YtcfjinbcjdjeaaaRAt
import Derived.Test.YtcfjinbcjdjeaaaRPlace
namespace Go.Proofs.Ytcfjinbcjdjeaaa
open Go.RowKit Go.Shelf
set_option linter.unusedVariables false

set_option maxRecDepth 100000 in
set_option maxHeartbeats 1000000 in
theorem places_walk (va vb : Value) (xs at_ : List Int) (n : Int) (w : World) (hx : Ints w va xs) (hy : Ints w vb at_) (hn0 : -9223372036854775808 ≤ n) (hn1 : n ≤ 9223372036854775807) :
    Calls Try.prog 3 #[va, vb, .int .i64 n] w fun e w' => e = .returned (.bool true) ∧ Below w.heap.size w w' := by
  obtain ⟨a, cap, rfl, h1, h2, h3, -⟩ := hx.parts
  obtain ⟨a', cap', rfl, h1', h2', h3', -⟩ := hy.parts
  by_cases hl1 : 100 < xs.length
  · have hd : decide ((100 : Int) < (xs.length : Int)) = true := by simp; omega
    go_enter Try.func3, Try.ntmps3
    go_wp2_with fail
    go_ret
    exact ⟨rfl, Below.refl _ _⟩
  by_cases hl2 : 100 < at_.length
  · have hd : decide ((100 : Int) < (xs.length : Int)) = false := by simp; omega
    have hd2 : decide ((100 : Int) < (at_.length : Int)) = true := by simp; omega
    go_enter Try.func3, Try.ntmps3
    go_wp2_with fail
    go_ret
    exact ⟨rfl, Below.refl _ _⟩
  have hd : decide ((100 : Int) < (xs.length : Int)) = false := by simp; omega
  have hd2 : decide ((100 : Int) < (at_.length : Int)) = false := by simp; omega
  go_enter Try.func3, Try.ntmps3
  go_wp2_with fail
  refine (rints_any _ xs _ hx (by omega)).mono ?_
  rintro e w1 ⟨vo, rfl, ho, hb1⟩
  go_wp2_with fail
  refine (rints_any _ at_ _ (hy.below hb1) (by omega)).mono ?_
  rintro e w2 ⟨vs, rfl, hs, hb2⟩
  have io : Ints w2 vo xs := (Ints.of_owns ho).below hb2
  have is_ : Ints w2 vs at_ := Ints.of_owns hs
  have hB2 : Below w.heap.size w w2 := hb1.trans (hb2.mono hb1.size)
  clear ho hs
  go_wp2_with fail
  refine (place_any _ _ xs at_ _ io is_).mono ?_
  rintro e w3 ⟨rfl, hb3⟩
  have io3 := io.below hb3
  have is3 := is_.below hb3
  have hB3 : Below w.heap.size w w3 := hB2.trans (hb3.mono hB2.size)
  clear io is_ hb1 hb2 hb3 hB2
  obtain ⟨p1, p2, hp⟩ : ∃ p1 p2, pRes (place xs at_) = .tuple #[.int .i64 p1, .bool p2] := by cases place xs at_ <;> exact ⟨_, _, rfl⟩
  rw [hp]
  have Hp := hid hp
  clear hp
  go_wp2_with fail
  refine (rplace_any _ _ xs at_ _ (hx.below hB3) (hy.below hB3)).mono ?_
  rintro e w4 ⟨rfl, hq4⟩
  have io4 := io3.quiet hq4
  have is4 := is3.quiet hq4
  have hB4 : Below w.heap.size w w4 := hB3.trans (hq4.below _)
  rw [Hp.out]
  clear io3 is3 hq4 hB3
  go_wp2_with fail
  refine (at_any _ xs n _ io4 hn0 hn1).mono ?_
  rintro e w5 ⟨vc, rfl, hc, hb5⟩
  generalize hres : atRes xs n = res at hc
  generalize hL : res.getD [] = L at hc
  generalize hbo : res.isSome = bo
  have Hres := hid hres
  have HL := hid hL
  have Hbo := hid hbo
  clear hres hL hbo
  go_wp2_with fail
  refine (rat_any _ xs n _ ((hx.below hB4).below hb5) hn0 hn1).mono ?_
  rintro e w6 ⟨vd, rfl, hd6, hb6⟩
  rw [Hres.out, HL.out] at hd6
  rw [Hres.out, Hbo.out]
  have ic6 : Ints w6 vc L := (Ints.of_owns hc).below hb6
  have id6 : Ints w6 vd L := Ints.of_owns hd6
  have hc6 : w6.ownsRow w4.heap.size 3 1 vc L.length (L.map (.int .i64)) := owns_below hc hb6
  have hb46 : Below w4.heap.size w4 w6 := hb5.trans (hb6.mono hb5.size)
  clear hc hd6 hb5 hb6
  go_wp2_with fail
  refine (rshapes_any _ _ L L _ ic6 id6).mono ?_
  rintro e W ⟨rfl, hqW⟩
  have hbW : Below w4.heap.size w4 W := hb46.trans (hqW.below _)
  have hcW : W.ownsRow w4.heap.size 3 1 vc L.length (L.map (.int .i64)) := owns_below hc6 (hqW.below _)
  have hdec : decide (L = L) = true := by simp
  rw [hdec]
  clear hqW hb46 hc6 ic6 id6 hdec
  obtain ⟨ac, cc, rfl⟩ : ∃ ac cc, vc = .slice ac L.length cc := by
    obtain ⟨_, ⟨rfl, h⟩ | ⟨g, cap, cur, rfl, _⟩⟩ := hcW
    · exact ⟨none, 0, by rw [h]⟩
    · exact ⟨_, _, rfl⟩
  have hLm := Hid.out (hid (Ints.of_owns hcW).parts)
  obtain ⟨_, _, heq, hLc, hLc2, -⟩ := hLm
  simp only [Value.slice.injEq] at heq
  obtain ⟨rfl, -, rfl⟩ := heq
  go_wp2_with fail
  go_loopw [17, 75] (fun _ i wr => ∃ (k : Nat) (ys : List Int), k ≤ L.length ∧ ys.length = L.length ∧ i = .int .i64 k ∧ wr.ownsRow w4.heap.size 3 1 (.slice ac L.length cc) L.length (ys.map (.int .i64)) ∧ Below w4.heap.size w4 wr) (fun _ i _ => L.length - (intOf i).toNat)
  case atStart => exact ⟨0, L, by omega, rfl, rfl, hcW, hbW⟩
  case round =>
    obtain ⟨k, ys, hk, hys, rfl, hrow, hB⟩ := hrel
    by_cases hlt : k < L.length
    · obtain ⟨g, rfl, hg⟩ : ∃ g, ac = some ⟨g, 0, none⟩ ∧ w4.heap.size ≤ g := by
        obtain ⟨_, ⟨e, h⟩ | ⟨g, cap, cur, e, hg, _⟩⟩ := hrow
        · omega
        · simp only [Value.slice.injEq] at e; exact ⟨g, e.1, hg⟩
      have hcell : wr.cell? ⟨g, k, none⟩ = some (.int .i64 (ys[k]?.getD 0)) := by
        rw [hrow.cellAt k (by omega)]; simp [show k < ys.length by omega]
      have hfr := hrow.frozenAt k
      have hst := hid ((hrow.stored k (.int .i64 (wrap64 (ys[k]?.getD 0 + 1)))).1)
      have hki : (k : Int) < (L.length : Int) := by omega
      have Hys := hid hys
      clear hrow hys
      generalize ys[k]?.getD 0 = y at *
      go_wp2_with fail
      go_roundw
      case rel => exact ⟨k + 1, ys.set k (wrap64 (y + 1)), by omega, by simp [Hys.out], by go_num, by rw [List.map_set]; exact hst.out, hB.setCell hg _⟩
      case measure => simp [intOf]; omega
    · have hki : (L.length : Int) ≤ (k : Int) := by omega
      clear hrow hys
      go_wp2_with fail
      refine (rshapes_any _ _ xs xs _ (io4.below hB) ((hx.below hB4).below hB)).mono ?_
      rintro e W2 ⟨rfl, hq2⟩
      have hdec : decide (xs = xs) = true := by simp
      rw [hdec]
      have hB2 := hB.trans (hq2.below _)
      clear hdec hq2 hB
      go_wp2_with fail
      refine (rshapes_any _ _ at_ at_ _ (is4.below hB2) ((hy.below hB4).below hB2)).mono ?_
      rintro e W3 ⟨rfl, hq3⟩
      have hdec : decide (at_ = at_) = true := by simp
      rw [hdec]
      have hB3 := hB2.trans (hq3.below _)
      clear hdec hq3 hB2
      go_wp2_with fail
      go_ret
      exact ⟨rfl, hB4.trans (hB3.mono hB4.size)⟩

end Go.Proofs.Ytcfjinbcjdjeaaa
