/- array.At: the place of a number. -/
import Derived.Test.YtjapijkgjgfcnaaDoorProg
import Derived.Test.YtjapijkgjgfcnaaDoorPlace
import Derived.Test.YtjapijkgjgfcnaaDoorNewInts
namespace Go.Proofs.YtjapijkgjgfcnaaDoor
open Go.RowKit Go.Shelf
set_option linter.unusedVariables false
attribute [local go_sem] Oper.semAt_some

def atVal (xs : List Int) (n : Int) (i : Nat) : Int := n / strd xs (xs.length - 1 - i) % xs[i]?.getD 0
def atList (xs : List Int) (n : Int) : List Int := (List.range xs.length).map (atVal xs n)
/-- What stands when k rounds are over. -/
def atRow (xs : List Int) (n : Int) (k : Nat) : List Int := (List.range xs.length).map fun i => if xs.length ≤ i + k then atVal xs n i else 0

theorem atRow_all (xs : List Int) (n : Int) : atRow xs n xs.length = atList xs n := by simp [atRow, atList]
theorem atRow_length (xs : List Int) (n : Int) (k : Nat) : (atRow xs n k).length = xs.length := by simp [atRow]
theorem atRow_zero (xs : List Int) (n : Int) : atRow xs n 0 = List.replicate xs.length 0 := by
  apply List.ext_getElem
  · simp [atRow]
  · intro i h1 h2
    simp [atRow] at h1 ⊢
    omega
theorem atRow_succ (xs : List Int) (n : Int) (k : Nat) (h : k < xs.length) : atRow xs n (k + 1) = (atRow xs n k).set (xs.length - 1 - k) (atVal xs n (xs.length - 1 - k)) := by
  apply List.ext_getElem
  · simp [atRow]
  · intro i h1 h2
    simp only [atRow, List.length_map, List.length_range] at h1
    rw [List.getElem_set]
    simp only [atRow, List.getElem_map, List.getElem_range]
    by_cases e : xs.length - 1 - k = i
    · subst e; simp; omega
    · rw [if_neg e]
      by_cases h3 : xs.length ≤ i + k
      · rw [if_pos h3, if_pos (by omega)]
      · rw [if_neg h3, if_neg (by omega)]

theorem countFold_prod (xs : List Int) (a m : Int) (h : countFold xs a = some m) : m = a * xs.foldr (· * ·) 1 := by
  induction xs generalizing a with
  | nil => simp only [countFold] at h; split at h <;> simp_all
  | cons x r ih =>
    by_cases hb : x < 0 ∨ x > 4096
    · rw [countFold_bad _ _ _ hb] at h; cases h
    · rw [countFold_ok _ _ _ hb] at h
      rw [ih _ h, List.foldr_cons, Int.mul_assoc]

theorem count_strd (xs : List Int) (m : Int) (h : count xs = some m) : m = strd xs xs.length := by
  unfold count at h
  by_cases hl : xs.length > 4
  · simp [hl] at h
  · rw [if_neg hl] at h
    rw [countFold_prod _ _ _ h]; simp [strd]

theorem strd_pos (xs : List Int) (hf : Fits xs) (h : 1 ≤ strd xs xs.length) (j : Nat) (hj : j ≤ xs.length) : 1 ≤ strd xs (xs.length - j) := by
  induction j with
  | zero => simpa using h
  | succ j ih =>
    have := ih (by omega)
    rw [show xs.length - j = (xs.length - (j + 1)) + 1 from by omega, strd_succ xs _ (by omega)] at this
    have h0 := (strd_bd xs hf (xs.length - (j + 1)) (by omega)).1
    by_cases e : strd xs (xs.length - (j + 1)) = 0
    · rw [e] at this; simp at this
    · omega

theorem entry_pos (xs : List Int) (hf : Fits xs) (h : 1 ≤ strd xs xs.length) (i : Nat) (hi : i < xs.length) : 1 ≤ xs[i]?.getD 0 := by
  have h1 := strd_pos xs hf h i (by omega)
  have e := strd_succ xs (xs.length - 1 - i) (by omega)
  rw [show xs.length - 1 - i + 1 = xs.length - i from by omega, show xs.length - 1 - (xs.length - 1 - i) = i from by omega] at e
  rw [e] at h1
  have h0 := (hf.2 i hi).1
  by_cases e2 : xs[i]?.getD 0 = 0
  · rw [e2] at h1; simp at h1
  · omega

def atRes (xs : List Int) (n : Int) : Option (List Int) :=
  match count xs with
  | none => none
  | some m => if 0 ≤ n ∧ n < m then some (atList xs n) else none

def RetAt (w : World) (xs : List Int) (n : Int) (e : Ending) (w' : World) : Prop :=
  ∃ v, e = .returned (.tuple #[v, .bool (atRes xs n).isSome]) ∧ NewInts w ((atRes xs n).getD []) v w'

theorem RetAt.none {w w' : World} {xs : List Int} {n : Int} (h : atRes xs n = none) (hB : Below w.heap.size w w') : RetAt w xs n (.returned (.tuple #[.slice none 0 0, .bool false])) w' :=
  ⟨_, by rw [h]; rfl, by rw [h]; exact World.ownsRow_nil _ _ _ _, hB⟩

set_option maxRecDepth 100000 in
set_option maxHeartbeats 1000000 in
theorem at_any (va : Value) (xs : List Int) (n : Int) (w : World) (hx : Ints w va xs) (hn0 : -9223372036854775808 ≤ n) (hn1 : n ≤ 9223372036854775807) :
    Calls Tryd.prog 12 #[va, .int .i64 n] w (RetAt w xs n) := by
  obtain ⟨a, cap, rfl, h1, h2, h3, hc⟩ := hx.parts
  obtain ⟨i0, hi, hz0, hz1, hz2⟩ := info_parts Tryd.infoInt
  refine calls_of_wp_m Tryd.func12 rfl ?_
  simp only [Tryd.ntmps12, List.size_toArray, List.length_cons, List.length_nil, Nat.reduceAdd, Nat.reduceSub, Array.replicate_succ, Array.replicate_zero, List.push_toArray, List.append_toArray, List.nil_append, List.cons_append]
  go_wp2_with fail
  refine (count_any _ xs _ (hx.below (((Below.refl _ w).alloc (Nat.le_refl _) _).alloc (by simp) _))).mono ?_
  rintro e w' ⟨rfl, rfl⟩
  cases hcount : count xs with
  | none =>
    have H : Hid (atRes xs n = none) := hid (by simp [atRes, hcount])
    simp only [cRes]
    go_wp2_with fail
    refine post_plain (results_tmp2 rfl _ _ _) ?_
    exact RetAt.none H.out (((Below.refl _ w).alloc (Nat.le_refl _) _).alloc (by simp) _)
  | some m =>
    by_cases hr : 0 ≤ n ∧ n < m
    · obtain ⟨hr0, hr1⟩ := hr
      have hr2 : ¬ n < 0 := by omega
      have hr3 : ¬ m ≤ n := by omega
      simp only [cRes]
      have hfit := hid (fits_of_count xs m hcount)
      have hm := hid (count_strd xs m hcount)
      have hlen : xs.length ≤ 4 := hfit.out.1
      go_wp2_with (at_make; refine wpList_make_full _ rfl _ _ 22 rfl w.heap.size 3 i0 (.int .i64 0) 1 Tryd.underlying22 hi hz0 hz1 _ _ _ _ xs.length rfl rfl rfl rfl (by rw [hz2]; omega) (by simp [maxLen]; omega) (by simp; omega) ?_)
      intro w1 hown hgrow
      have hB1 : Below w.heap.size w w1 := (((Below.refl _ w).alloc (Nat.le_refl _) _).alloc (by simp) _).grown hgrow (by simp; omega) (fun k e => by cases e)
      have hb0 : w1.cell? ⟨w.heap.size, 0, none⟩ = some (.slice a xs.length cap) := hgrow.cell (by go_simp) (by simp)
      have hb1 : w1.cell? ⟨w.heap.size + 1, 0, none⟩ = some (.int .i64 n) := hgrow.cell (by go_simp) (by simp)
      have hsz : w.heap.size + 1 + 1 < w1.heap.size := (hown.lt _ rfl).2
      have hz0 : w.heap.size < w1.heap.size := by omega
      have hz1 : w.heap.size + 1 < w1.heap.size := by omega
      have hown' : w1.ownsRow w.heap.size 3 1 (.slice (some ⟨w.heap.size + 1 + 1, 0, none⟩) xs.length xs.length) xs.length ((atRow xs n 0).map (.int .i64)) := by
        have e : (madeCells #[Value.int IntKind.i64 0] xs.length).toList = (atRow xs n 0).map (.int .i64) := by
          rw [atRow_zero]
          apply List.ext_getElem
          · simp [madeCells]
          · intro i h1 h2
            simp [madeCells, Nat.mod_one]
        simpa [e] using hown
      clear hown hgrow
      go_wp2_with fail
      refine (strides_any _ _ _ _).mono ?_
      rintro e w' ⟨rfl, rfl⟩
      go_wp2_with fail
      refine range_law0 rfl (enters_of Tryd.func66 (by kernel_rfl) rfl) (S := fun b => b < w.heap.size ∨ b = w1.heap.size + 1)
        (strides1_seq (w1.heap.size + 1) _ a cap xs w _ hfit.out hx ((hB1.alloc (by omega) _).alloc (by simp; omega) _) (fun b h => .inl h) (.inr rfl) (by go_simp))
        (by intro b h; simp; omega) (fun _ => rfl)
        (fun k W => (W.ownsRow w.heap.size 3 1 (.slice (some ⟨w.heap.size + 1 + 1, 0, none⟩) xs.length xs.length) xs.length ((atRow xs n k).map (.int .i64)) ∧
          W.cell? ⟨w1.heap.size, 0, none⟩ = some (.slice (some ⟨w.heap.size + 1 + 1, 0, none⟩) xs.length xs.length) ∧ W.cell? ⟨w.heap.size, 0, none⟩ = some (.slice a xs.length cap) ∧ W.cell? ⟨w.heap.size + 1, 0, none⟩ = some (.int .i64 n)) ∧ Below w.heap.size w W)
        (fun _ _ => False)
        (OwnFrom.and (Own.from (fun s A B row hs hg hr => ⟨owns_turn hs.1 hg hr, cell_kept hs.2.1 hg hr, cell_kept hs.2.2.1 hg hr, cell_kept hs.2.2.2 hg hr⟩) _) (ownFrom_below (Nat.le_refl _) (by simp; omega)))
        (fun _ _ _ _ hs _ _ => hs)
        ⟨⟨(hown'.alloc _).alloc _, by go_simp, by go_simp, by go_simp⟩, (hB1.alloc (by omega) _).alloc (by simp; omega) _⟩
        ?a1 ?assign ?body ?done ?stop
      case assign =>
        intro l k W K hK
        simp only [strEnc]
        gi_wp2
        exact hK
      case body =>
        rintro l k W hk ⟨⟨hrow, hc2, hc3, hc4⟩, hB⟩
        obtain ⟨m', hm'⟩ : ∃ m' : Nat, k + m' + 1 = xs.length := ⟨xs.length - 1 - k, by omega⟩
        have em : (xs.length : Int) - 1 - (k : Int) = (m' : Int) := by omega
        rw [em]
        rcases hc with rfl | ⟨b, o, rfl, hc⟩
        · simp at hk
        have hcx : W.cell? ⟨b, o + m', none⟩ = some (.int .i64 (xs[m']?.getD 0)) := (hB.cell (World.block_lt_of_cell? w _ (hc m' (by omega)))).trans (hc m' (by omega))
        have hi1 : (m' : Int) < (xs.length : Int) := by omega
        have hbx : b < w.heap.size := World.block_lt_of_cell? w _ (hc m' (by omega))
        have hr0' : W.cell? ⟨w.heap.size + 1 + 1, m', none⟩ = some (((atRow xs n k).map (Value.int .i64))[m']'(by simp [atRow_length]; omega)) := by
          rw [hrow.cellAt m' (by omega)]; simp
        generalize ((atRow xs n k).map (Value.int .i64))[m']'(by simp [atRow_length]; omega) = old at hr0'
        have hfr := hrow.frozenAt m'
        have hst := hid ((hrow.stored m' (.int .i64 (atVal xs n m'))).1)
        have hpos : 1 ≤ strd xs xs.length := by rw [← hm.out]; omega
        have hby := strd_pos xs hfit.out hpos (m' + 1) (by omega)
        rw [show xs.length - (m' + 1) = k from by omega] at hby
        have hx1 := entry_pos xs hfit.out hpos m' (by omega)
        have hval : Hid (atVal xs n m' = n / strd xs k % xs[m']?.getD 0) := hid (by unfold atVal; rw [show xs.length - 1 - m' = k from by omega])
        have hrs : Hid ((atRow xs n (k + 1)).map (Value.int .i64) = ((atRow xs n k).map (Value.int .i64)).set m' (.int .i64 (atVal xs n m'))) := hid (by
          rw [atRow_succ xs n k hk, List.map_set, show xs.length - 1 - k = m' from by omega])
        have hq0 : 0 ≤ n / strd xs k := Int.ediv_nonneg hr0 (by omega)
        have hq1 : n / strd xs k ≤ n := Int.ediv_le_self _ hr0
        clear hc em hpos hrow
        generalize hX : xs[m']?.getD 0 = x at *
        clear hX
        generalize strd xs k = by_ at *
        gi_wp2
        refine round_tail 11 (by kernel_rfl) (by kernel_rfl) (by kernel_rfl) (by rintro ⟨_, _, h⟩; exact h) ?_
        intro L hL
        simp only [List.take_succ_cons, List.take_zero, List.drop_succ_cons, List.drop_zero] at hL ⊢
        repeat (first | go_big_quiet_step (fail) | quiet_step (fail))
        refine wpQuiet_nil (hL _ ?_)
        clear hL
        go_wp2
        gi_wp2
        rw [← hval.out]
        refine ⟨?_, ?_, ⟨?_, ?_⟩⟩
        · exact ((KeepsOthers.setCell _ _ _).trans (KeepsOthers.drew _)).from _
        · exact ((KeepsOn.refl _ _).setCell (by simp; omega) _).drewN 1
        · refine ⟨by rw [hrs.out]; exact hst.out.drew, ?_, ?_, ?_⟩ <;> go_simp
        · exact (hB.setCell (by simp; omega) _).drew
      case done =>
        rintro D W hD ⟨⟨hrow, hc2, hc3, hc4⟩, hB⟩ hK
        have H : Hid (atRes xs n = some (atList xs n)) := hid (by simp only [atRes, hcount]; rw [if_pos ⟨hr0, hr1⟩])
        go_wp2
        refine post_mark hK (results_tmp2 rfl _ _ _) ?_
        refine ⟨_, by rw [H.out]; rfl, ?_, below_putObj hB (by simp at hD; omega) _⟩
        rw [H.out]
        have := owns_turn hrow (grownBy_putObj' W D (.deferred none)) (fun r e => by cases e; exact ⟨_, hK, rfl⟩)
        rw [atRow_all] at this
        simpa [atList] using this
      case stop =>
        rintro D c W _ h _
        exact h.elim
    · have H : Hid (atRes xs n = none) := hid (by simp only [atRes, hcount]; rw [if_neg hr])
      simp only [cRes]
      by_cases hr0 : n < 0
      · clear hr
        go_wp2_with fail
        refine post_plain (results_tmp2 rfl _ _ _) ?_
        exact RetAt.none H.out (((Below.refl _ w).alloc (Nat.le_refl _) _).alloc (by simp) _)
      · have hr1 : m ≤ n := by omega
        have hr0' : decide (n < 0) = false := by simpa using hr0
        clear hr
        go_wp2_with fail
        refine post_plain (results_tmp2 rfl _ _ _) ?_
        exact RetAt.none H.out (((Below.refl _ w).alloc (Nat.le_refl _) _).alloc (by simp) _)

end Go.Proofs.YtjapijkgjgfcnaaDoor
