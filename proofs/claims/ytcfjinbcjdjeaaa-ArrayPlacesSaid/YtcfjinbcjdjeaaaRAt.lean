/- The reference's At. -/
import Derived.Test.YtcfjinbcjdjeaaaProg
import Derived.Test.YtcfjinbcjdjeaaaRead11
import Derived.Test.YtcfjinbcjdjeaaaAt
namespace Go.Proofs.Ytcfjinbcjdjeaaa
open Go.RowKit Go.Shelf
set_option linter.unusedVariables false

theorem atList_length (xs : List Int) (n : Int) : (atList xs n).length = xs.length := by simp [atList]
theorem atList_get (xs : List Int) (n : Int) (i : Nat) (h : i < xs.length) : (atList xs n)[i]? = some (atVal xs n i) := by simp [atList, h]
theorem atList_last (xs : List Int) (n : Int) (k : Nat) (h : k < xs.length) : (atList xs n).drop (xs.length - (k + 1)) = atVal xs n (xs.length - 1 - k) :: (atList xs n).drop (xs.length - k) := by
  rw [List.drop_eq_getElem_cons (by rw [atList_length]; omega)]
  congr 1
  · have := atList_get xs n (xs.length - (k + 1)) (by omega)
    rw [List.getElem?_eq_getElem (by rw [atList_length]; omega)] at this
    rw [Option.some.inj this, show xs.length - (k + 1) = xs.length - 1 - k from by omega]
  · rw [show xs.length - (k + 1) + 1 = xs.length - k from by omega]

theorem owns_lies {w : World} {base e : Nat} {v : Value} {xs : List Int} (h : w.ownsRow base e 1 v xs.length (xs.map (.int .i64))) :
    (v = .slice none 0 0 ∧ xs = []) ∨ ∃ g cap, v = .slice (some ⟨g, 0, none⟩) xs.length cap ∧ base ≤ g ∧ ∀ j u, (xs.map (Value.int .i64))[j]? = some u → w.cell? ((⟨g, 0, none⟩ : Addr).add j) = some u := by
  have h' := h
  obtain ⟨_, ⟨rfl, h2⟩ | ⟨g, cap, cur, rfl, h3, _⟩⟩ := h
  · exact .inl ⟨rfl, List.eq_nil_of_length_eq_zero h2⟩
  · exact .inr ⟨g, cap, rfl, h3, h'.cells rfl⟩

theorem owns_one {w : World} {base : Nat} (e : TypeId) (v : Value) (h : base ≤ w.heap.size) : (w.alloc (.cells #[v] e)).ownsRow base e 1 (.slice (some ⟨w.heap.size, 0, none⟩) 1 1) 1 [v] :=
  ⟨rfl, .inr ⟨w.heap.size, 1, #[v], rfl, h, World.alloc_heap_new w _, Nat.le_refl _, by simp [maxLen], rfl, rfl⟩⟩

set_option maxRecDepth 100000 in
set_option maxHeartbeats 1000000 in
theorem rat_any (va : Value) (xs : List Int) (n : Int) (w : World) (hx : Ints w va xs) (hn0 : -9223372036854775808 ≤ n) (hn1 : n ≤ 9223372036854775807) :
    Calls Try.prog 8 #[va, .int .i64 n] w (RetAt w xs n) := by
  obtain ⟨a, cap, rfl, h1, h2, h3, hc⟩ := hx.parts
  obtain ⟨i0, hi, hz0, hz1, hz2⟩ := info_parts Try.infoInt
  go_enter Try.func8, Try.ntmps8
  go_wp2_with fail
  refine (rcount_any _ xs _ hx).mono ?_
  rintro e w' ⟨rfl, rfl⟩
  cases hcount : count xs with
  | none =>
    have H : Hid (atRes xs n = none) := hid (by simp [atRes, hcount])
    simp only [cRes]
    go_wp2_with fail
    go_ret2
    exact RetAt.none H.out (Below.refl _ w)
  | some m =>
    by_cases hr : 0 ≤ n ∧ n < m
    · obtain ⟨hr0, hr1⟩ := hr
      have hr2 : ¬ n < 0 := by omega
      have hr3 : ¬ m ≤ n := by omega
      simp only [cRes]
      have hfit := hid (fits_of_count xs m hcount)
      have hm := hid (count_strd xs m hcount)
      have hlen : xs.length ≤ 4 := hfit.out.1
      have hpos : 1 ≤ strd xs xs.length := by rw [← hm.out]; omega
      have H : Hid (atRes xs n = some (atList xs n)) := hid (by simp only [atRes, hcount]; rw [if_pos ⟨hr0, hr1⟩])
      go_wp2_with fail
      go_loopw [1, 8, 9] (fun q v i wr => ∃ k m' : Nat, k + m' = xs.length ∧ i = .int .i64 ((m' : Int) - 1) ∧ q = .int .i64 (n / strd xs k) ∧
        wr.ownsRow w.heap.size 3 1 v ((atList xs n).drop (xs.length - k)).length (((atList xs n).drop (xs.length - k)).map (.int .i64)) ∧ Below w.heap.size w wr) (fun _ _ i _ => (intOf i + 1).toNat)
      case atStart =>
        refine ⟨0, xs.length, by omega, rfl, by simp [strd_zero], ?_, Below.refl _ _⟩
        have e : (atList xs n).drop (xs.length - 0) = [] := List.drop_of_length_le (by simp [atList_length])
        rw [e]
        exact World.ownsRow_nil _ _ _ _
      case round =>
        obtain ⟨k, m', hkm, rfl, rfl, hown, hB⟩ := hrel
        cases m' with
        | succ m' =>
          have em : ((m' + 1 : Nat) : Int) - 1 = (m' : Int) := by omega
          rw [em]
          rcases hc with rfl | ⟨b, o, rfl, hc⟩
          · simp at hkm
          have hcx : wr.cell? ⟨b, o + m', none⟩ = some (.int .i64 (xs[m']?.getD 0)) := (hB.cell (World.block_lt_of_cell? w _ (hc m' (by omega)))).trans (hc m' (by omega))
          have hi1 : (m' : Int) < (xs.length : Int) := by omega
          have hbx : b < w.heap.size := World.block_lt_of_cell? w _ (hc m' (by omega))
          have hsz : w.heap.size ≤ wr.heap.size := hB.size
          have hbx2 : b < wr.heap.size := by omega
          have hby := strd_pos xs hfit.out hpos (m' + 1) (by omega)
          rw [show xs.length - (m' + 1) = k from by omega] at hby
          have hx1 := entry_pos xs hfit.out hpos m' (by omega)
          have hq0 : 0 ≤ n / strd xs k := Int.ediv_nonneg hr0 (by omega)
          have hq1 : n / strd xs k ≤ n := Int.ediv_le_self _ hr0
          have hlast := hid (atList_last xs n k (by omega))
          have hval : Hid (n / strd xs k % xs[m']?.getD 0 = atVal xs n (xs.length - 1 - k)) := hid (by unfold atVal; rw [show xs.length - 1 - (xs.length - 1 - k) = k from by omega, show xs.length - 1 - k = m' from by omega])
          have hdiv : Hid (n / strd xs k / xs[m']?.getD 0 = n / strd xs (k + 1)) := hid (by rw [strd_succ xs k (by omega), show xs.length - 1 - k = m' from by omega, Int.ediv_ediv_of_nonneg (by omega)])
          have hLl : ((atList xs n).drop (xs.length - k)).length = k := by rw [List.length_drop, atList_length]; omega
          have HL := hid hLl
          have H0 := hid hkm
          clear hc em hkm hLl
          generalize (atList xs n).drop (xs.length - k) = L at hown HL hlast
          generalize xs[m']?.getD 0 = x at *
          have hLs : L.length ≤ 4 := by rw [HL.out]; have := H0.out; omega
          rcases owns_lies hown with ⟨rfl, rfl⟩ | ⟨g, cap', rfl, hg, hnew⟩
          · go_wp2_with fail
            go_roundw
            case rel =>
              refine ⟨k + 1, m', by have := H0.out; omega, rfl, by rw [hdiv.out], ?_, hB.alloc hsz _⟩
              rw [hlast.out, ← hval.out]
              exact owns_one _ _ hsz
            case measure => simp [intOf]
          · have hone := owns_one 3 (.int .i64 (n / strd xs k % x)) hsz
            have hnew2 : ∀ j u, (L.map (Value.int .i64))[j]? = some u → (wr.alloc (.cells #[.int .i64 (n / strd xs k % x)] 3)).cell? ((⟨g, 0, none⟩ : Addr).add j) = some u := fun j u h => cell_alloc _ (hnew j u h)
            have hone' := hid hone
            have hnew' := hid hnew2
            clear hone hnew2 hnew hown
            go_wp2_with (at_builtin; refine wpList_append_own _ rfl _ _ 22 rfl w.heap.size 3 i0 (.int .i64 0) 1 8 Try.underlying22 hi hz0 hz1 hz2 rfl (by decide) _ _ _ rfl hone'.out ⟨g, 0, none⟩ L.length cap' (L.map (.int .i64)) rfl (by simp) hnew'.out (ints_oneCell _ _) (by simp [maxLen]; omega) (by omega) (by simp; omega) ?_)
            intro v' w' hown' hgrow _
            have hcx2 : w'.cell? ⟨b, o + m', none⟩ = some (.int .i64 x) := hgrow.cell (cell_alloc _ hcx) (by simp [Value.ownBlock]; omega)
            go_wp2
            go_roundw
            case rel =>
              refine ⟨k + 1, m', by have := H0.out; omega, rfl, by rw [hdiv.out], ?_, (hB.alloc hsz _).grown hgrow (by simp; omega) (fun k e => by simp [Value.ownBlock] at e; omega)⟩
              rw [hlast.out, ← hval.out]
              simpa [Nat.add_comm] using hown'
            case measure => simp [intOf]
        | zero =>
          obtain rfl : k = xs.length := by omega
          have em : ((0 : Nat) : Int) - 1 = -1 := by omega
          rw [em]
          rw [Nat.sub_self, List.drop_zero] at hown
          clear em hc
          go_wp2_with fail
          go_ret2
          exact ⟨_, by rw [H.out]; rfl, by rw [H.out]; exact hown, hB⟩
    · have H : Hid (atRes xs n = none) := hid (by simp only [atRes, hcount]; rw [if_neg hr])
      simp only [cRes]
      by_cases hr0 : n < 0
      · clear hr
        go_wp2_with fail
        go_ret2
        exact RetAt.none H.out (Below.refl _ w)
      · have hr1 : m ≤ n := by omega
        have hr0' : decide (n < 0) = false := by simpa using hr0
        clear hr
        go_wp2_with fail
        go_ret2
        exact RetAt.none H.out (Below.refl _ w)

end Go.Proofs.Ytcfjinbcjdjeaaa
