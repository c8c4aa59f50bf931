/- The reference's Place. -/
import Derived.Test.YtcfjinbcjdjeaaaProg
import Derived.Test.YtcfjinbcjdjeaaaRead11
import Derived.Test.YtcfjinbcjdjeaaaPlace
namespace Go.Proofs.Ytcfjinbcjdjeaaa
open Go.RowKit
set_option linter.unusedVariables false

/-- Horner's sum over the first i numbers. -/
def horner (xs at_ : List Int) : Nat → Int
  | 0 => 0
  | i + 1 => horner xs at_ i * xs[i]?.getD 0 + at_[i]?.getD 0

theorem horner_sum (xs at_ : List Int) (j : Nat) (h : j ≤ xs.length) : horner xs at_ xs.length = horner xs at_ (xs.length - j) * strd xs j + sumTo xs at_ j := by
  induction j with
  | zero => rw [strd_zero]; simp [sumTo]
  | succ j ih =>
    rw [ih (by omega), show xs.length - j = (xs.length - 1 - j) + 1 from by omega, horner, sumTo, strd_succ xs j (by omega), show xs.length - (j + 1) = xs.length - 1 - j from by omega]
    rw [Int.add_mul, Int.mul_assoc, Int.mul_comm (xs[xs.length - 1 - j]?.getD 0), Int.mul_comm (at_[xs.length - 1 - j]?.getD 0), Int.add_assoc, Int.add_comm (strd xs j * _)]

theorem horner_all (xs at_ : List Int) : horner xs at_ xs.length = sumTo xs at_ xs.length := by
  have := horner_sum xs at_ xs.length (Nat.le_refl _)
  rw [this, Nat.sub_self]
  simp [horner]

theorem horner_bd (xs at_ : List Int) (hf : Fits xs) (i : Nat) (hi : i ≤ xs.length) (hok : ∀ j, j < i → okAt xs at_ j) : 0 ≤ horner xs at_ i ∧ horner xs at_ i + 1 ≤ 4096 ^ i := by
  induction i with
  | zero => simp [horner]
  | succ i ih =>
    obtain ⟨a, b⟩ := ih (by omega) (fun j h => hok j (by omega))
    obtain ⟨c, d⟩ := hok i (by omega)
    have e := hf.2 i (by omega)
    rw [horner]
    generalize horner xs at_ i = s at *
    generalize at_[i]?.getD 0 = y at *
    generalize xs[i]?.getD 0 = x at *
    have h1 : 0 ≤ s * x := Int.mul_nonneg a (by omega)
    have h2 := (mul_step (s + 1) x i (by omega) b (by omega) (by omega)).2
    rw [Int.add_mul, Int.one_mul] at h2
    omega

theorem place_none_of_bad (xs at_ : List Int) (i : Nat) (hi : i < xs.length) (h : ¬ okAt xs at_ i) : place xs at_ = none := by
  have : inShape xs at_ = false := by simp only [inShape, decide_eq_false_iff_not]; exact fun h' => h (h' i hi)
  unfold place
  cases count xs <;> simp [this]

theorem place_some_of_ok (xs at_ : List Int) (n : Int) (hc : count xs = some n) (hl : at_.length = xs.length) (h : ∀ i, i < xs.length → okAt xs at_ i) : place xs at_ = some (sumTo xs at_ xs.length) := by
  have : inShape xs at_ = true := by simp only [inShape, decide_eq_true_eq]; exact h
  simp [place, hc, hl, this]

set_option maxRecDepth 100000 in
set_option maxHeartbeats 1000000 in
theorem rplace_any (va vb : Value) (xs at_ : List Int) (w : World) (hx : Ints w va xs) (hy : Ints w vb at_) :
    Calls Try.prog 6 #[va, vb] w fun e w' => e = .returned (pRes (place xs at_)) ∧ Quiet w w' := by
  obtain ⟨a, cap, rfl, h1, h2, h3, hc⟩ := hx.parts
  obtain ⟨a', cap', rfl, h1', h2', h3', hc'⟩ := hy.parts
  go_enter Try.func6, Try.ntmps6
  go_wp2_with fail
  refine (rcount_any _ xs _ hx).mono ?_
  rintro e w' ⟨rfl, rfl⟩
  cases hcount : count xs with
  | none =>
    have H : Hid (place xs at_ = none) := hid (by simp [place, hcount])
    simp only [cRes]
    go_wp2_with fail
    go_ret2
    exact ⟨by rw [H.out]; rfl, Quiet.refl _⟩
  | some n =>
    have hfit := fits_of_count xs n hcount
    by_cases hlen : at_.length = xs.length
    · have hb : ((at_.length : Int) != (xs.length : Int)) = false := by simp [hlen]
      have hlen' : ¬ at_.length < xs.length := by omega
      have hlen2 : ¬ xs.length < at_.length := by omega
      simp only [cRes]
      clear hlen hx hy
      go_wp2_with fail
      go_loopw [8, 9] (fun n i wr => ∃ k : Nat, k ≤ xs.length ∧ i = .int .i64 k ∧ n = .int .i64 (horner xs at_ k) ∧ (∀ j, j < k → okAt xs at_ j) ∧ Quiet w wr) (fun _ i _ => xs.length - (intOf i).toNat)
      case atStart => exact ⟨0, by omega, rfl, rfl, by intro j h; omega, Quiet.refl _⟩
      case round =>
        obtain ⟨k, hk, rfl, rfl, hok, ⟨nq0, rfl⟩⟩ := hrel
        by_cases hlt : k < xs.length
        · rcases hc with rfl | ⟨b, o, rfl, hc⟩
          · simp at hlt
          rcases hc' with rfl | ⟨b', o', rfl, hc'⟩
          · simp only [List.length_nil] at hlen'; omega
          have hcell := hc k hlt
          have hcell' := hc' k (by omega)
          have hki : (k : Int) < (xs.length : Int) := by omega
          have hki' : (k : Int) < (at_.length : Int) := by omega
          clear hc hc'
          have hx0 := hfit.2 k hlt
          have hbad : Hid (¬ okAt xs at_ k → place xs at_ = none) := hid (place_none_of_bad xs at_ k hlt)
          have hokd : Hid (okAt xs at_ k ↔ 0 ≤ at_[k]?.getD 0 ∧ at_[k]?.getD 0 < xs[k]?.getD 0) := hid Iff.rfl
          have hb1 := horner_bd xs at_ hfit k (by omega) hok
          have hb2 : Hid (okAt xs at_ k → 0 ≤ horner xs at_ k * xs[k]?.getD 0 + at_[k]?.getD 0 ∧ horner xs at_ k * xs[k]?.getD 0 + at_[k]?.getD 0 + 1 ≤ 4096 ^ (k + 1)) := hid (fun h => horner_bd xs at_ hfit (k + 1) (by omega) (fun j hj => by
            by_cases e : j = k
            · subst e; exact h
            · exact hok j (by omega)))
          have hse : Hid (horner xs at_ (k + 1) = horner xs at_ k * xs[k]?.getD 0 + at_[k]?.getD 0) := hid rfl
          generalize xs[k]?.getD 0 = x at *
          generalize at_[k]?.getD 0 = y at *
          by_cases hge : y < 0
          · have H : Hid (place xs at_ = none) := hid (hbad.out (by rw [hokd.out]; omega))
            clear hok
            go_wp2_with fail
            go_quiet (fail)
            go_wp2_with fail
            go_ret2
            exact ⟨by rw [H.out]; rfl, (Quiet.mk _ _).trans (Quiet.mk _ _)⟩
          · have hge' : decide (y < 0) = false := by simpa using hge
            by_cases hlt2 : x ≤ y
            · have H : Hid (place xs at_ = none) := hid (hbad.out (by rw [hokd.out]; omega))
              clear hok
              go_wp2_with fail
              go_quiet (fail)
              go_wp2_with fail
              go_ret2
              exact ⟨by rw [H.out]; rfl, (Quiet.mk _ _).trans (Quiet.mk _ _)⟩
            · have hlt2' : decide (x ≤ y) = false := by simpa using hlt2
              have hokk : okAt xs at_ k := hokd.out.2 (by omega)
              have Hok : Hid (∀ j, j < k + 1 → okAt xs at_ j) := hid fun j hj => by
                by_cases e : j = k
                · subst e; exact hokk
                · exact hok j (by omega)
              have hb3 := hb2.out hokk
              have hp' := pow_le4 (k + 1) (by have := hfit.1; omega)
              have ht0 := Int.mul_nonneg hb1.1 hx0.1
              have hw1 : IntKind.i64.wrap (horner xs at_ k * x) = horner xs at_ k * x := IntWalk.i64_in _ (by omega)
              have hw2 : IntKind.i64.wrap (horner xs at_ k * x + y) = horner xs at_ k * x + y := IntWalk.i64_in _ (by omega)
              clear hok hokk hb1 hb2 hb3 hp' hx0 ht0 hokd hbad
              go_wp2_with fail
              go_quiet (fail)
              go_wp2_with fail
              go_quiet (fail)
              go_wp2_with fail
              go_roundw
              case rel => exact ⟨k + 1, by omega, by go_num, by rw [hse.out], Hok.out, ⟨_, rfl⟩⟩
              case measure => simp [intOf]; omega
        · obtain rfl : k = xs.length := by omega
          have H : Hid (place xs at_ = some (horner xs at_ xs.length)) := hid (by rw [horner_all]; exact place_some_of_ok xs at_ n hcount (by omega) hok)
          clear hok hc hc'
          go_wp2_with fail
          go_ret2
          exact ⟨by rw [H.out]; rfl, ⟨_, rfl⟩⟩
    · have H : Hid (place xs at_ = none) := hid (by simp [place, hcount, hlen])
      have hb : ((at_.length : Int) != (xs.length : Int)) = true := by rw [bne_iff_ne]; omega
      simp only [cRes]
      clear hlen
      go_wp2_with fail
      go_ret2
      exact ⟨by rw [H.out]; rfl, Quiet.refl _⟩

end Go.Proofs.Ytcfjinbcjdjeaaa
