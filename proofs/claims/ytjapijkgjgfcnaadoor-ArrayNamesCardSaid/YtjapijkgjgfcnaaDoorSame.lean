/- array.Same, with slices.Equal at both kinds of slices; the reference's Great. -/
import Derived.Test.YtjapijkgjgfcnaaDoorArr
import Derived.Test.YtjapijkgjgfcnaaDoorRead11
namespace Go.Proofs.YtjapijkgjgfcnaaDoor
open Go.RowKit
set_option linter.unusedVariables false

set_option maxHeartbeats 400000 in
theorem equal_ints (va vb : Value) (xs ys : List Int) (w : World) (hx : Ints w va xs) (hy : Ints w vb ys) :
    Calls Tryd.prog 45 #[va, vb] w fun e w' => e = .returned (.bool (decide (xs = ys))) ∧ Quiet w w' := by
  obtain ⟨a, cap, rfl, h1, h2, h3, hc⟩ := hx.parts
  obtain ⟨a', cap', rfl, h1', h2', h3', hc'⟩ := hy.parts
  clear hx hy
  by_cases hlen : xs.length = ys.length
  · have hb : ((xs.length : Int) != (ys.length : Int)) = false := by simp [hlen]
    have hlen' : ¬ xs.length < ys.length := by omega
    have hlen2 : ¬ ys.length < xs.length := by omega
    clear hlen
    go_enter Tryd.func45, Tryd.ntmps45
    go_wp2
    go_loopw [13] (fun i wr => ∃ k : Nat, k ≤ xs.length ∧ i = .int .i64 k ∧ xs.take k = ys.take k ∧ Quiet w wr) (fun i _ => xs.length - (intOf i).toNat)
    case atStart => exact ⟨0, by omega, rfl, by simp, Quiet.refl _⟩
    case round =>
      obtain ⟨k, hk, rfl, ht, ⟨nq0, rfl⟩⟩ := hrel
      by_cases hlt : k < xs.length
      · rcases hc with rfl | ⟨b, o, rfl, hc⟩
        · simp at hlt
        rcases hc' with rfl | ⟨b', o', rfl, hc'⟩
        · simp only [List.length_nil] at hlen2; omega
        have hcell := hc k hlt
        have hcell' := hc' k (by omega)
        have t1 := take_succ_getD xs k hlt
        have t2 := take_succ_getD ys k (by omega)
        generalize xs[k]?.getD 0 = l at hcell t1
        generalize ys[k]?.getD 0 = l' at hcell' t2
        have hki : (k : Int) < (xs.length : Int) := by omega
        have hki' : (k : Int) < (ys.length : Int) := by omega
        by_cases he : l = l'
        · have hb2 : (l != l') = false := by simp [he]
          have H : Hid (xs.take (k + 1) = ys.take (k + 1)) := hid (by rw [t1, t2, ht, he])
          clear t1 t2 he ht hc hc'
          go_wp2
          go_quiet (fail)
          go_wp2
          go_roundw
          case rel => exact ⟨k + 1, by omega, by go_num, H.out, ⟨_, rfl⟩⟩
          case measure => simp [intOf]; omega
        · have hb2 : (l != l') = true := by simp [he]
          have H : Hid (xs ≠ ys) := hid (by rintro rfl; exact he (by simpa using t1.symm.trans t2))
          clear t1 t2 he ht hc hc'
          go_wp2
          go_quiet (fail)
          go_wp2
          go_ret
          exact ⟨by rw [decide_eq_false H.out]; rfl, (Quiet.mk _ _).trans (Quiet.mk _ _)⟩
      · have H : Hid (xs = ys) := hid (by rw [List.take_of_length_le (by omega), List.take_of_length_le (by omega)] at ht; exact ht)
        clear ht hc hc'
        go_wp2
        go_ret
        exact ⟨by rw [decide_eq_true H.out]; rfl, ⟨_, rfl⟩⟩
  · have hb : ((xs.length : Int) != (ys.length : Int)) = true := by rw [bne_iff_ne]; omega
    have H : Hid (xs ≠ ys) := hid (fun e => hlen (by rw [e]))
    clear hlen hc hc'
    go_enter Tryd.func45, Tryd.ntmps45
    go_wp2
    go_ret
    exact ⟨by rw [decide_eq_false H.out]; rfl, Quiet.refl _⟩

set_option maxHeartbeats 400000 in
theorem equal_longs (va vb : Value) (xs ys : List Int) (w : World) (hx : Ints w va xs) (hy : Ints w vb ys) :
    Calls Tryd.prog 46 #[va, vb] w fun e w' => e = .returned (.bool (decide (xs = ys))) ∧ Quiet w w' := by
  obtain ⟨a, cap, rfl, h1, h2, h3, hc⟩ := hx.parts
  obtain ⟨a', cap', rfl, h1', h2', h3', hc'⟩ := hy.parts
  clear hx hy
  by_cases hlen : xs.length = ys.length
  · have hb : ((xs.length : Int) != (ys.length : Int)) = false := by simp [hlen]
    have hlen' : ¬ xs.length < ys.length := by omega
    have hlen2 : ¬ ys.length < xs.length := by omega
    clear hlen
    go_enter Tryd.func46, Tryd.ntmps46
    go_wp2
    go_loopw [13] (fun i wr => ∃ k : Nat, k ≤ xs.length ∧ i = .int .i64 k ∧ xs.take k = ys.take k ∧ Quiet w wr) (fun i _ => xs.length - (intOf i).toNat)
    case atStart => exact ⟨0, by omega, rfl, by simp, Quiet.refl _⟩
    case round =>
      obtain ⟨k, hk, rfl, ht, ⟨nq0, rfl⟩⟩ := hrel
      by_cases hlt : k < xs.length
      · rcases hc with rfl | ⟨b, o, rfl, hc⟩
        · simp at hlt
        rcases hc' with rfl | ⟨b', o', rfl, hc'⟩
        · simp only [List.length_nil] at hlen2; omega
        have hcell := hc k hlt
        have hcell' := hc' k (by omega)
        have t1 := take_succ_getD xs k hlt
        have t2 := take_succ_getD ys k (by omega)
        generalize xs[k]?.getD 0 = l at hcell t1
        generalize ys[k]?.getD 0 = l' at hcell' t2
        have hki : (k : Int) < (xs.length : Int) := by omega
        have hki' : (k : Int) < (ys.length : Int) := by omega
        by_cases he : l = l'
        · have hb2 : (l != l') = false := by simp [he]
          have H : Hid (xs.take (k + 1) = ys.take (k + 1)) := hid (by rw [t1, t2, ht, he])
          clear t1 t2 he ht hc hc'
          go_wp2
          go_quiet (fail)
          go_wp2
          go_roundw
          case rel => exact ⟨k + 1, by omega, by go_num, H.out, ⟨_, rfl⟩⟩
          case measure => simp [intOf]; omega
        · have hb2 : (l != l') = true := by simp [he]
          have H : Hid (xs ≠ ys) := hid (by rintro rfl; exact he (by simpa using t1.symm.trans t2))
          clear t1 t2 he ht hc hc'
          go_wp2
          go_quiet (fail)
          go_wp2
          go_ret
          exact ⟨by rw [decide_eq_false H.out]; rfl, (Quiet.mk _ _).trans (Quiet.mk _ _)⟩
      · have H : Hid (xs = ys) := hid (by rw [List.take_of_length_le (by omega), List.take_of_length_le (by omega)] at ht; exact ht)
        clear ht hc hc'
        go_wp2
        go_ret
        exact ⟨by rw [decide_eq_true H.out]; rfl, ⟨_, rfl⟩⟩
  · have hb : ((xs.length : Int) != (ys.length : Int)) = true := by rw [bne_iff_ne]; omega
    have H : Hid (xs ≠ ys) := hid (fun e => hlen (by rw [e]))
    clear hlen hc hc'
    go_enter Tryd.func46, Tryd.ntmps46
    go_wp2
    go_ret
    exact ⟨by rw [decide_eq_false H.out]; rfl, Quiet.refl _⟩

def sameB (x y : Arr) : Bool := decide (x.kind = y.kind) && (decide (x.shape = y.shape) && decide (x.elems = y.elems))
theorem sameB_eq (x y : Arr) : sameB x y = true ↔ x = y := by
  obtain ⟨a, b, c⟩ := x
  obtain ⟨d, e, f⟩ := y
  simp [sameB]

set_option maxRecDepth 100000 in
set_option maxHeartbeats 1000000 in
theorem same_any (va vb : Value) (x y : Arr) (w : World) (hx : IsArr w va x) (hy : IsArr w vb y) :
    Calls Tryd.prog 17 #[va, vb] w fun e w' => e = .returned (.bool (sameB x y)) ∧ Below w.heap.size w w' := by
  have hB2 : ∀ o o', Below w.heap.size w ((w.alloc o).alloc o') := fun o o' => ((Below.refl _ w).alloc (Nat.le_refl _) o).alloc (by simp) o'
  obtain ⟨vs, ve, rfl, hs, he, -⟩ := hx
  obtain ⟨vs', ve', rfl, hs', he', -⟩ := hy
  have gs := fun o o' => hs.below (hB2 o o')
  have ge := fun o o' => he.below (hB2 o o')
  have gs' := fun o o' => hs'.below (hB2 o o')
  have ge' := fun o o' => he'.below (hB2 o o')
  clear hs he hs' he'
  go_enter Tryd.func17, Tryd.ntmps17
  by_cases hk : x.kind = y.kind
  · by_cases hsh : x.shape = y.shape
    · have t1 : (x.kind == y.kind) = true := by simpa using hk
      have t2 : decide (x.shape = y.shape) = true := by simpa using hsh
      have H : Hid (sameB x y = decide (x.elems = y.elems)) := hid (by simp [sameB, hk, hsh])
      clear hk hsh
      go_wp2_with fail
      refine (equal_ints _ _ x.shape y.shape _ (gs _ _) (gs' _ _)).mono ?_
      rintro e w1 ⟨rfl, ⟨q, rfl⟩⟩
      rw [t2]
      go_wp2_with fail
      refine (equal_longs _ _ x.elems y.elems _ ((ge _ _).below (below_drewN (Below.refl _ _) _)) ((ge' _ _).below (below_drewN (Below.refl _ _) _))).mono ?_
      rintro e w1 ⟨rfl, ⟨q', rfl⟩⟩
      go_wp2_with fail
      go_ret
      exact ⟨by rw [H.out]; rfl, below_drewN (hB2 _ _) _⟩
    · have t1 : (x.kind == y.kind) = true := by simpa using hk
      have t2 : decide (x.shape = y.shape) = false := by simpa using hsh
      have H : Hid (sameB x y = false) := hid (by simp [sameB, hsh])
      clear hk hsh ge ge'
      go_wp2_with fail
      refine (equal_ints _ _ x.shape y.shape _ (gs _ _) (gs' _ _)).mono ?_
      rintro e w1 ⟨rfl, ⟨q, rfl⟩⟩
      rw [t2]
      go_wp2_with fail
      go_ret
      exact ⟨by rw [H.out]; rfl, below_drewN (hB2 _ _) _⟩
  · have t1 : (x.kind == y.kind) = false := by simpa using hk
    have H : Hid (sameB x y = false) := hid (by simp [sameB, hk])
    clear hk gs ge gs' ge'
    go_wp2_with fail
    go_ret
    exact ⟨by rw [H.out]; rfl, hB2 _ _⟩

def great (x : Arr) : Int := if 5000 < x.elems.length ∨ 100 < x.shape.length then 1 else 0

set_option maxRecDepth 100000 in
theorem great_any (v : Value) (x : Arr) (w : World) (hx : IsArr w v x) :
    Calls Tryd.prog 14 #[v] w fun e w' => e = .returned (.int .i64 (great x)) ∧ Below w.heap.size w w' := by
  have hB1 : ∀ o, Below w.heap.size w (w.alloc o) := fun o => (Below.refl _ w).alloc (Nat.le_refl _) o
  obtain ⟨vs, ve, rfl, hs, he, -⟩ := hx
  obtain ⟨as_, cs, rfl, s1, s2, s3, -⟩ := hs.parts
  obtain ⟨ae, ce, rfl, e1, e2, e3, -⟩ := he.parts
  clear hs he
  go_enter Tryd.func14, Tryd.ntmps14
  by_cases h1 : 5000 < x.elems.length
  · have t1 : decide ((5000 : Int) < (x.elems.length : Int)) = true := by simp; omega
    have H : Hid (great x = 1) := hid (by unfold great; rw [if_pos (.inl h1)])
    clear h1
    go_wp2_with fail
    go_ret
    exact ⟨by rw [H.out]; rfl, hB1 _⟩
  · have t1 : decide ((5000 : Int) < (x.elems.length : Int)) = false := by simp; omega
    by_cases h2 : 100 < x.shape.length
    · have t2 : decide ((100 : Int) < (x.shape.length : Int)) = true := by simp; omega
      have H : Hid (great x = 1) := hid (by unfold great; rw [if_pos (.inr h2)])
      clear h1 h2
      go_wp2_with fail
      go_ret
      exact ⟨by rw [H.out]; rfl, hB1 _⟩
    · have t2 : decide ((100 : Int) < (x.shape.length : Int)) = false := by simp; omega
      have H : Hid (great x = 0) := hid (by unfold great; rw [if_neg (by omega)])
      clear h1 h2
      go_wp2_with fail
      go_ret
      exact ⟨by rw [H.out]; rfl, hB1 _⟩
end Go.Proofs.YtjapijkgjgfcnaaDoor
