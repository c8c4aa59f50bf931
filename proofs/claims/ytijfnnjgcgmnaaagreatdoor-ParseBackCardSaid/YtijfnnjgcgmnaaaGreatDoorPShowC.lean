/- parse: a tree's text: slices.Grow and slices.Concat of tokens. -/
import Derived.Test.YtijfnnjgcgmnaaaGreatDoorPTrees
import Derived.Lib.AppendZeros
import Derived.Laws.AppendOwnNone
namespace Go.Proofs.YtijfnnjgcgmnaaaGreatDoor.Par
open Go.RowKit Go.Shelf
set_option linter.unusedVariables false
set_option linter.unusedSimpArgs false

set_option maxRecDepth 100000 in
set_option maxHeartbeats 2000000 in
theorem tgrow_nil (n : Nat) (hn : n ≤ 1000000) (w : World) : Calls Tryz.prog 106 #[.slice none 0 0, .int .i64 (n : Nat)] w fun e w' => (∃ v, e = .returned v ∧ w'.ownsRow w.heap.size 88 5 v 0 []) ∧ Below w.heap.size w w' := by
  obtain ⟨i0, hi, hz0, hz1, hz2⟩ := info_parts (show (Tryz.prog.info? 88).map (fun i => (i.zero, i.size, i.bytes)) = some (some (.agg zeroTok), 5, 80) by kernel_rfl)
  have hw : IntKind.i64.wrap ((n : Int) - 0) = (n : Int) := by rw [Int.sub_zero]; exact IntWalk.i64_in _ (by omega)
  by_cases h0 : n = 0
  · subst h0
    go_enter Tryz.func106, Tryz.ntmps106
    go_wp2_with fail
    go_ret
    exact ⟨⟨_, rfl, World.ownsRow_nil _ _ _ _⟩, Below.refl _ _⟩
  · have hp : (0 : Int) < (n : Int) := by omega
    have hp2 : ¬ ((n : Int) < 0) := by omega
    have happ := Lib.run_append_nil_zeros (P := Tryz.prog) w 58 3 58 88 i0 (.agg zeroTok) .i64 .i64 Tryz.underlying58 Tryz.underlying3 hi hz0 n (by omega) (by omega) (by omega) (by rw [hz2]; omega)
    generalize hcap : grownCap w n 0 88 = cap2 at happ
    have hcapge : n ≤ cap2 := by rw [← hcap]; exact grownCap_ge w _ 0 _
    have hcaple : cap2 ≤ maxLen := by rw [← hcap]; exact grownCap_le_maxLen w _ 0 _ (by unfold maxLen; omega)
    generalize hZ : (Builtin.zeroCells (Value.agg zeroTok).cells n ++ Builtin.zeroCells (Value.agg zeroTok).cells (cap2 - n)) = Z at happ
    have hZs : Z.size = cap2 * 5 := by rw [← hZ, Array.size_append, size_zeroCells, size_zeroCells, show (Value.agg zeroTok).cells.size = 5 from rfl]; omega
    have hown := World.ownsRow_made (e := 88) (size := 5) (base := w.heap.size) w.drew Z cap2 (Nat.le_refl _) hcaple hZs
    have hB := ((Below.refl w.heap.size w).drew).alloc (Nat.le_refl _) (.cells Z 88)
    clear hcap hZ
    go_enter Tryz.func106, Tryz.ntmps106
    go_wp2_with (at_builtin; refine Lib.wpList_append_run _ rfl _ _ _ _ rfl _ _ rfl rfl _ _ happ ?_)
    go_ret
    exact ⟨⟨_, rfl, hown⟩, hB⟩
/-- A slice of so many tokens, whose cells are these. -/
def Src (w : World) (v : Value) (us : List (List Value)) : Prop :=
  ∃ a c, v = .slice a us.length c ∧ (a = none → us = [] ∧ c = 0) ∧ (∀ ad, a = some ad → ∀ j u, us.flatten[j]? = some u → w.cell? (ad.add j) = some u) ∧ (∀ u ∈ us, u.length = 5 ∧ ∀ x ∈ u, x.oneCell' = true)
def sumL (uss : List (List (List Value))) : Nat := (uss.map List.length).sum
theorem sumL_take (uss : List (List (List Value))) (k : Nat) (us : List (List Value)) (h : uss[k]? = some us) : sumL (uss.take (k + 1)) = sumL (uss.take k) + us.length := by
  unfold sumL
  rw [List.take_add_one, h]; simp
theorem sumL_le (uss : List (List (List Value))) (k : Nat) : sumL (uss.take k) ≤ sumL uss := by
  conv => rhs; rw [← List.take_append_drop k uss]
  unfold sumL
  rw [List.map_append, List.sum_append]; omega
def flatL (uss : List (List (List Value))) : List Value := (uss.map List.flatten).flatten
theorem flatL_take (uss : List (List (List Value))) (k : Nat) (us : List (List Value)) (h : uss[k]? = some us) : flatL (uss.take (k + 1)) = flatL (uss.take k) ++ us.flatten := by
  unfold flatL
  rw [List.take_add_one, h]; simp
theorem flat5 {us : List (List Value)} (h : ∀ u ∈ us, u.length = 5 ∧ ∀ x ∈ u, x.oneCell' = true) : us.flatten.length = us.length * 5 := by
  induction us with
  | nil => rfl
  | cons u r ih =>
    rw [List.flatten_cons, List.length_append, ih fun x hx => h x (by simp [hx]), (h u (by simp)).1, List.length_cons]; omega
set_option maxRecDepth 100000 in
set_option maxHeartbeats 4000000 in
theorem tconcat_any (g : Nat) (vs : List Value) (uss : List (List (List Value))) (w : World) (Tg : TypeId) (hrow : w.heap[g]? = some (.cells vs.toArray Tg)) (m : Nat) (hm : vs.length = m) (hm2 : uss.length = m)
    (hsrc : ∀ (k : Nat) (v : Value) (us : List (List Value)), vs[k]? = some v → uss[k]? = some us → Src w v us) (hN : sumL uss ≤ 1000000) (hmle : m ≤ 1000) :
    Calls Tryz.prog 70 #[.slice (some ⟨g, 0, none⟩) m m] w fun e w' => (∃ v, e = .returned v ∧ w'.ownsRow w.heap.size 88 5 v (sumL uss) (flatL uss)) ∧ Below w.heap.size w w' := by
  obtain ⟨i0, hi, hz0, hz1, hz2⟩ := info_parts (show (Tryz.prog.info? 88).map (fun i => (i.zero, i.size, i.bytes)) = some (some (.agg zeroTok), 5, 80) by kernel_rfl)
  have hget : ∀ W, Below w.heap.size w W → ∀ k, k < m → ∃ v us, uss[k]? = some us ∧ W.cell? ⟨g, k, none⟩ = some v ∧ Src w v us := fun W hW k hk => by
    have h1 := List.getElem?_eq_getElem (show k < vs.length by omega)
    have h2 := List.getElem?_eq_getElem (show k < uss.length by omega)
    refine ⟨_, _, h2, ?_, hsrc k _ _ h1 h2⟩
    rw [Lib.cell_of_heap ((hW.block _ (Array.getElem?_eq_some_iff.1 hrow).1).trans hrow)]
    simp [h1]
  clear hrow hm hsrc
  have hgrow := fun W => tgrow_nil (sumL uss) hN W
  have Hm := hid hm2
  clear hm2
  go_enter Tryz.func70, Tryz.ntmps70
  go_wp2_with fail
  go_loopw [3, 11] (fun vo vi wr => ∃ k : Nat, k ≤ m ∧ vo = .int .i64 (sumL (uss.take k) : Nat) ∧ vi = .int .i64 (k : Nat) ∧ w = wr) (fun _ vi _ => m - (intOf vi).toNat)
  case atStart => exact ⟨0, Nat.zero_le _, rfl, rfl, rfl⟩
  case round =>
    obtain ⟨k, hk, rfl, rfl, rfl⟩ := hrel
    by_cases hlt : k < m
    · obtain ⟨v, us, hu, hc, a, c, rfl, -⟩ := hget w (Below.refl _ _) k hlt
      have hki : (k : Int) < (m : Int) := by omega
      have Hs := hid (sumL_take uss k us hu)
      have hle := sumL_le uss (k + 1)
      rw [Hs.out] at hle
      have hwr : IntKind.i64.wrap ((sumL (uss.take k) : Int) + (us.length : Int)) = ((sumL (uss.take k) + us.length : Nat) : Int) := by rw [IntWalk.i64_in _ (by omega)]; omega
      have hng : ¬ (((sumL (uss.take k) + us.length : Nat) : Int) < 0) := by omega
      generalize hS : sumL (uss.take k) = S0 at *
      clear hu hle hgrow hget
      go_wp2_with fail
      go_roundw
      case rel => exact ⟨k + 1, by omega, by rw [Hs.out, Int.natCast_add], by go_num, trivial⟩
      case measure => simp [intOf]; omega
    · obtain rfl : k = m := by omega
      have hki : ¬ (k : Int) < (k : Int) := by omega
      have ht : uss.take k = uss := List.take_of_length_le (by rw [Hm.out]; exact Nat.le_refl _)
      rw [ht]
      clear ht
      go_wp2_with fail
      refine (hgrow _).mono ?_
      rintro e w1 ⟨⟨v1, rfl, hown⟩, b1⟩
      clear hgrow
      go_wp2_with fail
      go_loopw [6, 27] (fun vo vi wr => ∃ j : Nat, j ≤ k ∧ vi = .int .i64 (j : Nat) ∧ wr.ownsRow w.heap.size 88 5 vo (sumL (uss.take j)) (flatL (uss.take j)) ∧ Below w.heap.size w wr) (fun _ vi _ => k - (intOf vi).toNat)
      case atStart => exact ⟨0, Nat.zero_le _, rfl, hown, b1⟩
      case round =>
        obtain ⟨j, hj, rfl, hown, hB⟩ := hrel
        by_cases hlt : j < k
        · obtain ⟨v, us, hu, hc, a, c, rfl, hn, hcells, hone⟩ := hget _ hB j hlt
          have hji : (j : Int) < (k : Int) := by omega
          have Hs := hid (sumL_take uss j us hu)
          have Hf := hid (flatL_take uss j us hu)
          have hle := sumL_le uss (j + 1)
          rw [Hs.out] at hle
          have h5 := flat5 hone
          have hone2 : ∀ x ∈ us.flatten, x.oneCell' = true := fun x hx => by
            obtain ⟨u, hu1, hu2⟩ := List.mem_flatten.1 hx
            exact (hone u hu1).2 x hu2
          cases a with
          | none =>
            obtain ⟨hus, rfl⟩ := hn rfl
            subst hus
            clear hcells hu h5 hone hone2 hle
            simp only [List.length_nil] at *
            go_wp2_with (at_builtin; go_must (refine wpList_append_own_none rfl _ _ 58 rfl w.heap.size 88 i0 5 Tryz.underlying58 hi _ _ _ rfl hown rfl ?_))
            go_roundw
            case rel => exact ⟨j + 1, by omega, by go_num, by rw [Hs.out, Hf.out]; simpa using hown, hB⟩
            case measure => simp [intOf]; omega
          | some ad =>
            have hnews : ∀ q u, us.flatten[q]? = some u → wr.cell? (ad.add q) = some u := fun q u hq => by
              have := hcells ad rfl q u hq
              exact (hB.cell (World.block_lt_of_cell? w _ this)).trans this
            generalize sumL (List.take j uss) = S0 at *
            generalize flatL (List.take j uss) = F0 at *
            clear hcells hn hu hone hget
            go_wp2_with (at_builtin; go_must (refine wpList_append_own_at _ rfl _ _ 58 rfl w.heap.size 88 i0 (.agg zeroTok) 5 80 Tryz.underlying58 hi hz0 hz1 hz2 rfl (by decide) _ _ _ rfl hown ad us.length c us.flatten rfl h5 hnews hone2 (by unfold maxLen; omega) (by omega) hB.size ?_); intro v' w5 hown' hgrow _ hat)
            go_roundw
            case rel => exact ⟨j + 1, by omega, by go_num, by rw [Hs.out, Hf.out]; exact hown', hB.grown hgrow hB.size (fun q e => (hown.lt q e).1)⟩
            case measure => simp [intOf]; omega
        · obtain rfl : j = k := by omega
          have hji : ¬ (j : Int) < (j : Int) := by omega
          have ht : uss.take j = uss := List.take_of_length_le (by rw [Hm.out]; exact Nat.le_refl _)
          rw [ht] at hown
          clear ht hget
          go_wp2_with fail
          go_ret
          exact ⟨⟨_, rfl, hown⟩, hB⟩
end Go.Proofs.YtijfnnjgcgmnaaaGreatDoor.Par
