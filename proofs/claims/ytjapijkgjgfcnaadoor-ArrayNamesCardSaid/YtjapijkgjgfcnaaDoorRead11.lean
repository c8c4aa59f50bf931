/- The reference's Count and Shapes, for every slice of ints. -/
import Derived.Test.YtjapijkgjgfcnaaDoorProg
import Derived.Test.YtjapijkgjgfcnaaDoorLib
import Derived.Test.YtjapijkgjgfcnaaDoorCount
import Derived.WalkKit
import Derived.Deep.QuietTactic
import Derived.BigQuiet
namespace Go.Proofs.YtjapijkgjgfcnaaDoor
open Go.RowKit
set_option linter.unusedVariables false

set_option maxHeartbeats 400000 in
theorem rcount_any (v : Value) (xs : List Int) (w : World) (hx : Ints w v xs) :
    Calls Tryd.prog 105 #[v] w fun e w' => e = .returned (cRes (count xs)) ∧ w = w' := by
  obtain ⟨a, cap, rfl, h1, h2, h3, hc⟩ := hx.parts
  by_cases hlen : xs.length ≤ 4
  · have hcnt : count xs = countFold xs 1 := by simp [count]; omega
    rw [hcnt]
    clear hcnt hx
    go_enter Tryd.func105, Tryd.ntmps105
    go_wp2
    go_loop [4, 5] (fun n i => ∃ (k : Nat) (m : Int), k ≤ xs.length ∧ i = .int .i64 k ∧ n = .int .i64 m ∧ 0 ≤ m ∧ m ≤ 4096 ^ k ∧ countFold (xs.drop k) m = countFold xs 1) (fun _ i => xs.length - (intOf i).toNat)
    case atStart => exact ⟨0, 1, by omega, rfl, rfl, by omega, by decide, by simp⟩
    case round =>
      obtain ⟨k, m, hk, rfl, rfl, hm0, hm1, hf⟩ := hrel
      by_cases hlt : k < xs.length
      · rcases hc with rfl | ⟨b, o, rfl, hc⟩
        · simp at hlt
        have hcell := hc k hlt
        rw [drop_cons xs k hlt] at hf
        generalize xs[k]?.getD 0 = l at hcell hf
        have hp := pow_le4 k (by omega)
        have hp' := pow_le4 (k + 1) (by omega)
        by_cases hbad : l < 0 ∨ l > 4096
        · rw [countFold_bad _ _ _ hbad] at hf
          have H := hid hf
          clear hf hc
          rcases hbad with hb | hb
          · go_wp2
            go_ret2
            exact ⟨by rw [← H.out]; rfl, rfl⟩
          · have hnn : ¬ l < 0 := by omega
            go_wp2
            go_ret2
            exact ⟨by rw [← H.out]; rfl, rfl⟩
        · have hs := mul_step m l k hm0 hm1 (by omega) (by omega)
          rw [countFold_ok _ _ _ hbad] at hf
          have H := hid hf
          have hl0 : ¬ l < 0 := by omega
          have hl1 : ¬ 4096 < l := by omega
          have hw : IntKind.i64.wrap (m * l) = m * l := IntWalk.i64_in _ (by omega)
          clear hf hc hbad
          go_wp2
          go_round
          case rel => exact ⟨k + 1, m * l, by omega, by go_num, rfl, hs.1, hs.2, H.out⟩
          case measure => simp [intOf]; omega
      · obtain rfl : k = xs.length := by omega
        rw [List.drop_length] at hf
        have hp := pow_le4 xs.length (by omega)
        by_cases hbig : 4096 < m
        · have e : countFold xs 1 = none := by rw [← hf]; simp [countFold]; omega
          have H := hid e
          clear hf e hc
          go_wp2
          go_ret2
          exact ⟨by rw [H.out]; rfl, rfl⟩
        · have e : countFold xs 1 = some m := by rw [← hf]; simp [countFold]; omega
          have H := hid e
          clear hf e hc
          go_wp2
          go_ret2
          exact ⟨by rw [H.out]; rfl, rfl⟩
  · have hcnt : count xs = none := by simp [count]; omega
    rw [hcnt]
    clear hcnt hx hc
    go_enter Tryd.func105, Tryd.ntmps105
    go_wp2
    go_ret2
    exact ⟨rfl, rfl⟩

theorem eq_of_take_drop (xs ys : List Int) (k : Nat) (h : xs.take k = ys.take k) : (xs = ys) ↔ xs.drop k = ys.drop k := by
  constructor
  · rintro rfl; rfl
  · intro e
    rw [← List.take_append_drop k xs, ← List.take_append_drop k ys, h, e]

theorem take_succ_getD (xs : List Int) (k : Nat) (h : k < xs.length) : xs.take (k + 1) = xs.take k ++ [xs[k]?.getD 0] := by
  rw [List.take_succ_eq_append_getElem h]; simp [h]

set_option maxHeartbeats 400000 in
theorem rshapes_any (va vb : Value) (xs ys : List Int) (w : World) (hx : Ints w va xs) (hy : Ints w vb ys) :
    Calls Tryd.prog 13 #[va, vb] w fun e w' => e = .returned (.bool (decide (xs = ys))) ∧ Quiet w w' := by
  obtain ⟨a, cap, rfl, h1, h2, h3, hc⟩ := hx.parts
  obtain ⟨a', cap', rfl, h1', h2', h3', hc'⟩ := hy.parts
  clear hx hy
  by_cases hlen : xs.length = ys.length
  · have hb : ((xs.length : Int) != (ys.length : Int)) = false := by simp [hlen]
    have hlen' : ¬ xs.length < ys.length := by omega
    have hlen2 : ¬ ys.length < xs.length := by omega
    clear hlen
    go_enter Tryd.func13, Tryd.ntmps13
    go_wp2
    go_loopw [5] (fun i wr => ∃ k : Nat, k ≤ xs.length ∧ i = .int .i64 k ∧ xs.take k = ys.take k ∧ Quiet w wr) (fun i _ => xs.length - (intOf i).toNat)
    case atStart => exact ⟨0, by omega, rfl, by simp, Quiet.refl _⟩
    case round =>
      obtain ⟨k, hk, rfl, ht, ⟨nq0, rfl⟩⟩ := hrel
      by_cases hlt : k < xs.length
      · rcases hc with rfl | ⟨b, o, rfl, hc⟩
        · simp at hlt
        rcases hc' with rfl | ⟨b', o', rfl, hc'⟩
        · simp only [List.length_nil] at hlen2; omega
        have hcell := hc k hlt
        have hcell' := hc' k (by omega)
        have t1 := take_succ_getD xs k hlt
        have t2 := take_succ_getD ys k (by omega)
        generalize xs[k]?.getD 0 = l at hcell t1
        generalize ys[k]?.getD 0 = l' at hcell' t2
        have hki : (k : Int) < (xs.length : Int) := by omega
        have hki' : (k : Int) < (ys.length : Int) := by omega
        by_cases he : l = l'
        · have hb2 : (l != l') = false := by simp [he]
          have H : Hid (xs.take (k + 1) = ys.take (k + 1)) := hid (by rw [t1, t2, ht, he])
          clear t1 t2 he ht hc hc'
          go_wp2
          go_quiet (fail)
          go_wp2
          go_roundw
          case rel => exact ⟨k + 1, by omega, by go_num, H.out, ⟨_, rfl⟩⟩
          case measure => simp [intOf]; omega
        · have hb2 : (l != l') = true := by simp [he]
          have H : Hid (xs ≠ ys) := hid (by rintro rfl; exact he (by simpa using t1.symm.trans t2))
          clear t1 t2 he ht hc hc'
          go_wp2
          go_quiet (fail)
          go_wp2
          go_ret
          exact ⟨by rw [decide_eq_false H.out]; rfl, (Quiet.mk _ _).trans (Quiet.mk _ _)⟩
      · have H : Hid (xs = ys) := hid (by rw [List.take_of_length_le (by omega), List.take_of_length_le (by omega)] at ht; exact ht)
        clear ht hc hc'
        go_wp2
        go_ret
        exact ⟨by rw [decide_eq_true H.out]; rfl, ⟨_, rfl⟩⟩
  · have hb : ((xs.length : Int) != (ys.length : Int)) = true := by rw [bne_iff_ne]; omega
    have H : Hid (xs ≠ ys) := hid (fun e => hlen (by rw [e]))
    clear hlen hc hc'
    go_enter Tryd.func13, Tryd.ntmps13
    go_wp2
    go_ret
    exact ⟨by rw [decide_eq_false H.out]; rfl, Quiet.refl _⟩

end Go.Proofs.YtjapijkgjgfcnaaDoor
