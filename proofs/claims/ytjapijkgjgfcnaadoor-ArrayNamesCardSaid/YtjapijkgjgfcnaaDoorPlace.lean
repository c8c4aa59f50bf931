/- array.Place: the number of a place. -/
import Derived.Test.YtjapijkgjgfcnaaDoorProg
import Derived.Test.YtjapijkgjgfcnaaDoorSeq
import Derived.Test.YtjapijkgjgfcnaaDoorCount
import Derived.Test.YtjapijkgjgfcnaaDoorStrides
import Derived.Test.YtjapijkgjgfcnaaDoorRound
namespace Go.Proofs.YtjapijkgjgfcnaaDoor
open Go.RowKit Go.Shelf
set_option linter.unusedVariables false
attribute [local go_sem] Oper.semAt_some

/-- The sum of the last k numbers of a place, each by its stride. -/
def sumTo (xs at_ : List Int) : Nat → Int
  | 0 => 0
  | k + 1 => sumTo xs at_ k + strd xs k * at_[xs.length - 1 - k]?.getD 0

/-- Number i of a place lies in its axis. -/
def okAt (xs at_ : List Int) (i : Nat) : Prop := 0 ≤ at_[i]?.getD 0 ∧ at_[i]?.getD 0 < xs[i]?.getD 0

instance (xs at_ : List Int) (i : Nat) : Decidable (okAt xs at_ i) := by unfold okAt; infer_instance

def inShape (xs at_ : List Int) : Bool := decide (∀ i, i < xs.length → okAt xs at_ i)

def place (xs at_ : List Int) : Option Int :=
  match count xs with
  | none => none
  | some _ => if at_.length = xs.length ∧ inShape xs at_ = true then some (sumTo xs at_ xs.length) else none

def pRes : Option Int → Value
  | none => .tuple #[.int .i64 0, .bool false]
  | some n => .tuple #[.int .i64 n, .bool true]

theorem sumTo_bd (xs at_ : List Int) (hf : Fits xs) (k : Nat) (hk : k ≤ xs.length) (hok : ∀ i, xs.length ≤ i + k → i < xs.length → okAt xs at_ i) : 0 ≤ sumTo xs at_ k ∧ sumTo xs at_ k < strd xs k := by
  induction k with
  | zero => rw [strd_zero]; simp [sumTo]
  | succ k ih =>
    obtain ⟨a, b⟩ := ih (by omega) (fun i h1 h2 => hok i (by omega) h2)
    obtain ⟨c, d⟩ := hok (xs.length - 1 - k) (by omega) (by omega)
    have e := strd_bd xs hf k (by omega)
    rw [sumTo, strd_succ xs k (by omega)]
    generalize strd xs k = s at *
    generalize at_[xs.length - 1 - k]?.getD 0 = y at *
    generalize xs[xs.length - 1 - k]?.getD 0 = x at *
    have h1 : 0 ≤ s * y := Int.mul_nonneg e.1 c
    have h2 : s * y ≤ s * (x - 1) := Int.mul_le_mul_of_nonneg_left (by omega) e.1
    rw [Int.mul_sub, Int.mul_one] at h2
    omega

theorem fits_of_fold (xs : List Int) (m n : Int) (h : countFold xs m = some n) : ∀ i, i < xs.length → 0 ≤ xs[i]?.getD 0 ∧ xs[i]?.getD 0 ≤ 4096 := by
  induction xs generalizing m with
  | nil => intro i hi; simp at hi
  | cons x r ih =>
    by_cases hb : x < 0 ∨ x > 4096
    · rw [countFold_bad _ _ _ hb] at h; cases h
    · rw [countFold_ok _ _ _ hb] at h
      intro i hi
      cases i with
      | zero => simp; omega
      | succ i => simpa using ih _ h i (by simpa using hi)

theorem fits_of_count (xs : List Int) (n : Int) (h : count xs = some n) : Fits xs := by
  unfold count at h
  by_cases hl : xs.length > 4
  · simp [hl] at h
  · rw [if_neg hl] at h
    exact ⟨by omega, fits_of_fold xs 1 n h⟩

set_option maxRecDepth 100000 in
set_option maxHeartbeats 1000000 in
theorem place_any (va vb : Value) (xs at_ : List Int) (w : World) (hx : Ints w va xs) (hy : Ints w vb at_) :
    Calls Tryd.prog 11 #[va, vb] w fun e w' => e = .returned (pRes (place xs at_)) ∧ Below w.heap.size w w' := by
  obtain ⟨a, cap, rfl, h1, h2, h3, hc⟩ := hx.parts
  obtain ⟨a', cap', rfl, h1', h2', h3', hc'⟩ := hy.parts
  refine calls_of_wp_m Tryd.func11 rfl ?_
  simp only [Tryd.ntmps11, List.size_toArray, List.length_cons, List.length_nil, Nat.reduceAdd, Nat.reduceSub, Array.replicate_succ, Array.replicate_zero, List.push_toArray, List.append_toArray, List.nil_append, List.cons_append]
  go_wp2_with fail
  go_step3
  go_wp2_with fail
  refine (count_any _ xs _ (hx.below (((Below.refl _ w).alloc (Nat.le_refl _) _).alloc (by simp) _))).mono ?_
  rintro e w' ⟨rfl, rfl⟩
  cases hcount : count xs with
  | none =>
    have H : Hid (place xs at_ = none) := hid (by simp [place, hcount])
    simp only [cRes]
    go_wp2_with fail
    exact post_plain (results_tmp2 rfl _ _ _) ⟨by rw [H.out]; rfl, ((Below.refl _ w).alloc (Nat.le_refl _) _).alloc (by simp) _⟩
  | some n =>
    have hfit := fits_of_count xs n hcount
    by_cases hlen : at_.length = xs.length
    · have hb : ((at_.length : Int) != (xs.length : Int)) = false := by simp [hlen]
      have hlen' : ¬ at_.length < xs.length := by omega
      have hlen2 : ¬ xs.length < at_.length := by omega
      simp only [cRes]
      clear hlen
      go_wp2_with fail
      go_step3
      go_wp2_with fail
      refine (strides_any _ _ _ _).mono ?_
      rintro e w' ⟨rfl, rfl⟩
      go_wp2_with fail
      refine range_law0 rfl (enters_of Tryd.func66 (by kernel_rfl) rfl) (S := fun b => b < w.heap.size ∨ b = w.heap.size + 4)
        (strides1_seq (w.heap.size + 4) _ a cap xs w _ (fits_of_count xs n hcount) hx ((((((Below.refl _ w).alloc (Nat.le_refl _) _).alloc (by simp) _).alloc (by simp; omega) _).alloc (by simp; omega) _).alloc (by simp; omega) _) (fun b h => .inl h) (.inr rfl) (by go_simp))
        (by intro b h; simp; omega) (fun _ => rfl)
        (fun k W => (W.cell? ⟨w.heap.size + 1 + 1, 0, none⟩ = some (.int .i64 (sumTo xs at_ k)) ∧ W.frozen? ⟨w.heap.size + 1 + 1, 0, none⟩ = false ∧ W.cell? ⟨w.heap.size + 1 + 1 + 1, 0, none⟩ = some (.bool true) ∧ W.frozen? ⟨w.heap.size + 1 + 1 + 1, 0, none⟩ = false ∧
          W.cell? ⟨w.heap.size, 0, none⟩ = some (.slice a xs.length cap) ∧ W.cell? ⟨w.heap.size + 1, 0, none⟩ = some (.slice a' at_.length cap') ∧ ∀ i, xs.length ≤ i + k → i < xs.length → okAt xs at_ i) ∧ Below w.heap.size w W)
        (fun c W => (W.cell? ⟨w.heap.size + 1 + 1 + 1, 0, none⟩ = some (.bool false) ∧ c = .exit 0 ∧ ∃ i, i < xs.length ∧ ¬ okAt xs at_ i) ∧ Below w.heap.size w W)
        (OwnFrom.and (Own.from (fun s A B row hs hg hr => ⟨cell_kept hs.1 hg hr, (frozen_kept hs.1 hg hr).trans hs.2.1, cell_kept hs.2.2.1 hg hr, (frozen_kept hs.2.2.1 hg hr).trans hs.2.2.2.1, cell_kept hs.2.2.2.2.1 hg hr, cell_kept hs.2.2.2.2.2.1 hg hr, hs.2.2.2.2.2.2⟩) _) (ownFrom_below (Nat.le_refl _) (by simp; omega)))
        (OwnFrom.and (Own.from (fun s A B row hs hg hr => ⟨cell_kept hs.1 hg hr, hs.2⟩) _) (ownFrom_below (Nat.le_refl _) (by simp; omega)))
        ⟨⟨by go_simp; rfl, by go_simp, by go_simp, by go_simp, by go_simp, by go_simp, by intro i; omega⟩, (((((Below.refl _ w).alloc (Nat.le_refl _) _).alloc (by simp) _).alloc (by simp; omega) _).alloc (by simp; omega) _).alloc (by simp; omega) _⟩
        ?a1 ?assign ?body ?done ?stop
      case assign =>
        intro l k W K hK
        simp only [strEnc]
        gi_wp2
        exact hK
      case body =>
        rintro l k W hk ⟨⟨hc1, hf1, hc2, hf2, hc3, hc4, hok⟩, hB⟩
        obtain ⟨m, hm⟩ : ∃ m : Nat, k + m + 1 = xs.length := ⟨xs.length - 1 - k, by omega⟩
        have em : (xs.length : Int) - 1 - (k : Int) = (m : Int) := by omega
        rw [em]
        rcases hc with rfl | ⟨b, o, rfl, hc⟩
        · simp at hk
        rcases hc' with rfl | ⟨b', o', rfl, hc'⟩
        · simp only [List.length_nil] at hlen'; omega
        have hcx : W.cell? ⟨b, o + m, none⟩ = some (.int .i64 (xs[m]?.getD 0)) := (hB.cell (World.block_lt_of_cell? w _ (hc m (by omega)))).trans (hc m (by omega))
        have hcy : W.cell? ⟨b', o' + m, none⟩ = some (.int .i64 (at_[m]?.getD 0)) := (hB.cell (World.block_lt_of_cell? w _ (hc' m (by omega)))).trans (hc' m (by omega))
        have hi1 : (m : Int) < (xs.length : Int) := by omega
        have hi2 : (m : Int) < (at_.length : Int) := by omega
        have hbx : b < w.heap.size := World.block_lt_of_cell? w _ (hc m (by omega))
        have hby : b' < w.heap.size := World.block_lt_of_cell? w _ (hc' m (by omega))
        clear hc hc' em
        by_cases hge : 0 ≤ at_[m]?.getD 0
        · by_cases hlt : at_[m]?.getD 0 < xs[m]?.getD 0
          · have hsb := sumTo_bd xs at_ hfit k (by omega) hok
            have hss := sumTo_bd xs at_ hfit (k + 1) (by omega) (by
              intro i h1 h2
              by_cases e : i = m
              · subst e; exact ⟨hge, hlt⟩
              · exact hok i (by omega) h2)
            have hpd := strd_bd xs hfit (k + 1) (by omega)
            have hp' := pow_le4 (k + 1) (by have := hfit.1; omega)
            have hse : sumTo xs at_ (k + 1) = sumTo xs at_ k + strd xs k * at_[m]?.getD 0 := by
              rw [sumTo, show xs.length - 1 - k = m from by omega]
            have ht0 := Int.mul_nonneg (strd_bd xs hfit k (by omega)).1 hge
            have hw1 : IntKind.i64.wrap (strd xs k * at_[m]?.getD 0) = strd xs k * at_[m]?.getD 0 := IntWalk.i64_in _ (by omega)
            have hw2 : IntKind.i64.wrap (sumTo xs at_ k + strd xs k * at_[m]?.getD 0) = sumTo xs at_ k + strd xs k * at_[m]?.getD 0 := IntWalk.i64_in _ (by omega)
            have Hse := hid hse
            have Hok : Hid (∀ i, xs.length ≤ i + (k + 1) → i < xs.length → okAt xs at_ i) := hid (by
              intro i h1 h2
              by_cases e : i = m
              · subst e; exact ⟨hge, hlt⟩
              · exact hok i (by omega) h2)
            clear hse hok hss hsb hpd hp'
            gi_wp2
            refine round_tail 16 (by kernel_rfl) (by kernel_rfl) (by kernel_rfl) (by rintro ⟨_, _, h⟩; exact h) ?_
            intro L hL
            simp only [List.take_succ_cons, List.take_zero, List.drop_succ_cons, List.drop_zero] at hL ⊢
            repeat (first | go_big_quiet_step (fail) | quiet_step (fail))
            refine wpQuiet_nil (hL _ ?_)
            clear hL
            go_wp2
            gi_wp2
            refine round_tail 8 (by kernel_rfl) (by kernel_rfl) (by kernel_rfl) (by rintro ⟨_, _, h⟩; exact h) ?_
            intro L hL
            simp only [List.take_succ_cons, List.take_zero, List.drop_succ_cons, List.drop_zero] at hL ⊢
            repeat (first | go_big_quiet_step (fail) | quiet_step (fail))
            refine wpQuiet_nil (hL _ ?_)
            clear hL
            go_wp2
            gi_wp2
            refine ⟨?_, ?_, ⟨?_, ?_⟩⟩
            · exact (((((KeepsOthers.setCell _ _ _).trans (KeepsOthers.setCell _ _ _)).trans (KeepsOthers.drew _)).trans (KeepsOthers.drew _))).from _
            · exact (((KeepsOn.refl _ _).setCell (by simp; omega) _).setCell (by simp; omega) _).drewN 2
            · rw [Hse.out]
              exact ⟨by go_simp, by go_simp, by go_simp, by go_simp, by go_simp, by go_simp, Hok.out⟩
            · exact (((hB.setCell (by simp; omega) _).setCell (by simp; omega) _).drew).drew
          · have hlt' : decide (at_[m]?.getD 0 < xs[m]?.getD 0) = false := by simpa using hlt
            have Hbad : Hid (∃ i, i < xs.length ∧ ¬ okAt xs at_ i) := hid ⟨m, by omega, by unfold okAt; omega⟩
            clear hok
            gi_wp2
            refine round_tail 16 (by kernel_rfl) (by kernel_rfl) (by kernel_rfl) (by rintro ⟨_, _, h⟩; exact h) ?_
            intro L hL
            simp only [List.take_succ_cons, List.take_zero, List.drop_succ_cons, List.drop_zero] at hL ⊢
            repeat (first | go_big_quiet_step (fail) | quiet_step (fail))
            refine wpQuiet_nil (hL _ ?_)
            clear hL
            go_wp2
            gi_wp2
            refine ⟨?_, ⟨?_, ?_, ?_⟩, ?_⟩
            · exact ((KeepsOthers.setCell _ _ _).trans (KeepsOthers.drew _)).from _
            · go_simp
            · rfl
            · exact Hbad.out
            · exact (hB.setCell (by simp; omega) _).drew
        · have hge' : decide (0 ≤ at_[m]?.getD 0) = false := by simpa using hge
          have Hbad : Hid (∃ i, i < xs.length ∧ ¬ okAt xs at_ i) := hid ⟨m, by omega, by unfold okAt; omega⟩
          clear hok
          gi_wp2
          refine round_tail 16 (by kernel_rfl) (by kernel_rfl) (by kernel_rfl) (by rintro ⟨_, _, h⟩; exact h) ?_
          intro L hL
          simp only [List.take_succ_cons, List.take_zero, List.drop_succ_cons, List.drop_zero] at hL ⊢
          repeat (first | go_big_quiet_step (fail) | quiet_step (fail))
          refine wpQuiet_nil (hL _ ?_)
          clear hL
          go_wp2
          gi_wp2
          refine ⟨?_, ⟨?_, ?_, ?_⟩, ?_⟩
          · exact ((KeepsOthers.setCell _ _ _).trans (KeepsOthers.drew _)).from _
          · go_simp
          · rfl
          · exact Hbad.out
          · exact (hB.setCell (by simp; omega) _).drew
      case done =>
        rintro D W hD ⟨⟨hc1, hf1, hc2, hf2, hc3, hc4, hok⟩, hB⟩ hK
        have H : Hid (place xs at_ = some (sumTo xs at_ xs.length)) := hid (by
          have : inShape xs at_ = true := by simp only [inShape, decide_eq_true_eq]; exact fun i hi => hok i (by omega) hi
          simp [place, hcount, this, show at_.length = xs.length by omega])
        clear hok
        go_wp2
        exact post_mark hK (results_tmp2 rfl _ _ _) ⟨by rw [H.out]; rfl, below_putObj hB (by simp at hD; omega) _⟩
      case stop =>
        rintro D c W hD ⟨⟨hc2, rfl, i, hi, hno⟩, hB⟩ hK
        have H : Hid (place xs at_ = none) := hid (by
          have : inShape xs at_ = false := by simp only [inShape, decide_eq_false_iff_not]; exact fun h => hno (h i hi)
          simp [place, hcount, this])
        clear hno hi
        go_wp2
        exact post_mark hK (results_tmp2 rfl _ _ _) ⟨by rw [H.out]; rfl, below_putObj hB (by simp at hD; omega) _⟩
    · have H : Hid (place xs at_ = none) := hid (by simp [place, hcount, hlen])
      have hb : ((at_.length : Int) != (xs.length : Int)) = true := by rw [bne_iff_ne]; omega
      simp only [cRes]
      clear hlen
      go_wp2_with fail
      exact post_plain (results_tmp2 rfl _ _ _) ⟨by rw [H.out]; rfl, ((Below.refl _ w).alloc (Nat.le_refl _) _).alloc (by simp) _⟩

end Go.Proofs.YtjapijkgjgfcnaaDoor
