/- The reference's decode; Size.
   The reference's arrays: Ints, Longs, Of, Vector, Runes, Chars; value; Valid.
   The reference's reading: begins, past, number.
   The reference's reading: number. -/
import Derived.Test.YthlingdlehdlhaaGreatDoorTok
import Derived.Test.YthlingdlehdlhaaGreatDoorChars
import Derived.Laws.AppendOwnNone
import Derived.Lib.FieldsU
namespace Go.Proofs.YthlingdlehdlhaaGreatDoor
open Go.RowKit Go.Shelf
set_option linter.unusedVariables false
set_option linter.unusedSimpArgs false

theorem bN_get (s : ByteArray) (k : Nat) (h : k < s.size) : s[k].toNat = bN s k := by
  unfold bN
  rw [bt_get s k h]

theorem conts_lt (s : ByteArray) (i n0 : Nat) (h0 : n0 < 32) (k : Nat) (hk : k ≤ 3) : nAfter s i n0 k ≤ 32 * 64 ^ k + 64 ^ k * 4 := by
  have h1 := bN_lt s (i + 1)
  have h2 := bN_lt s (i + 2)
  have h3 := bN_lt s (i + 3)
  have : k = 0 ∨ k = 1 ∨ k = 2 ∨ k = 3 := by omega
  rcases this with rfl | rfl | rfl | rfl
  · show n0 ≤ 32 * 1 + 1 * 4; omega
  · rw [nAfter1]; show _ ≤ 32 * 64 + 64 * 4; omega
  · rw [nAfter2]; show _ ≤ 32 * 4096 + 4096 * 4; omega
  · rw [nAfter3]; show _ ≤ 32 * 262144 + 262144 * 4; omega

theorem conts_upto {s : ByteArray} {i M j : Nat} (h : conts s i M = true) (hj : j ≤ M) : conts s i j = true := by
  induction M with
  | zero => obtain rfl : j = 0 := by omega
            rfl
  | succ M ih =>
    have h' : (conts s i M && contB s (i + (M + 1))) = true := h
    rw [Bool.and_eq_true] at h'
    by_cases e : j = M + 1
    · subst e; exact h
    · exact ih h'.1 (by omega)

set_option maxRecDepth 100000 in
set_option maxHeartbeats 4000000 in
theorem rdecode_any (s : ByteArray) (i : Nat) (w : World) (hs : s.size ≤ 1000000000) (hi : i < s.size) :
    Calls Tryz.prog 71 #[.string s, .int .i64 i] w fun e w' => e = .returned (.tuple #[.int .i64 ((refDec s i).1 : Nat), .int .i64 ((refDec s i).2 : Nat)]) ∧ w' = w := by
  have hc := bN_get s i hi
  have hc2 := bN_lt s i
  obtain ⟨c, hcc⟩ : ∃ c, bN s i = c := ⟨_, rfl⟩
  have HD := hid (show refDec s i = refDec s i from rfl)
  by_cases h1 : c < 128
  · have t1 : decide ((c : Int) < 128) = true := by simp; omega
    have H : Hid (refDec s i = (c, 1)) := hid (by unfold refDec; rw [hcc, if_pos h1])
    rw [hcc] at hc hc2
    go_enter Tryz.func71, Tryz.ntmps71
    go_wp2_with fail
    refine bodyPost_ret (results_tmp2 rfl _ _ _) rfl ?_
    exact ⟨by rw [H.out]; rfl, rfl⟩
  have t1 : decide ((c : Int) < 128) = false := by simp; omega
  by_cases q1 : 194 ≤ c ∧ c < 224
  · have H : Hid (refDec s i = tryDec s i 1 128 (c - 192)) := hid (by unfold refDec; rw [hcc]; rw [if_neg h1, if_pos q1])
    obtain ⟨n0, hn0⟩ : ∃ n0 : Nat, c = n0 + 192 := ⟨c - 192, by omega⟩
    have hn32 : n0 < 32 := by omega
    have a0 : decide ((194 : Int) ≤ (c : Int)) = true := by simp; omega
    have b0 : decide ((c : Int) < 224) = true := by simp; omega
    have hsub : (c : Int) - 192 = (n0 : Int) := by omega
    rw [show c - 192 = n0 from by omega] at H
    rw [hcc] at hc hc2
    have Hn0 := hid hn0
    have q1l := q1.1
    clear hn0
    by_cases hm : s.size ≤ i + 1
    · have tm : decide ((s.size : Int) ≤ (i : Int) + 1) = true := by simp; omega
      have H2 : Hid (refDec s i = (65533, 1)) := hid (by rw [H.out]; unfold tryDec; rw [if_pos hm])
      clear H HD hm h1 q1 hcc
      go_enter Tryz.func71, Tryz.ntmps71
      go_wp2_with fail
      refine bodyPost_ret (results_tmp2 rfl _ _ _) rfl ?_
      exact ⟨by rw [H2.out]; rfl, rfl⟩
    · have tm : decide ((s.size : Int) ≤ (i : Int) + 1) = false := by simp; omega
      have H2 : Hid (refDec s i = if conts s i 1 = true then finDec 128 (nAfter s i n0 1) 1 else (65533, 1)) := hid (by rw [H.out]; unfold tryDec; rw [if_neg hm])
      clear H HD h1 q1 hcc
      go_enter Tryz.func71, Tryz.ntmps71
      go_wp2_with fail
      go_loop [9, 10, 11] (fun n k _ => ∃ j : Nat, j ≤ 1 ∧ k = .int .i64 ((j + 1 : Nat) : Int) ∧ n = .int .i64 (nAfter s i n0 j : Int) ∧ Hid (conts s i j = true)) (fun _ k _ => 1 + 1 - (intOf k).toNat)
      case atStart => exact ⟨0, by omega, rfl, by first | rfl | (simp [nAfter]; try omega), hid rfl⟩
      case round =>
        obtain ⟨j, hj, rfl, rfl, hall⟩ := hrel
        have hb := conts_lt s i n0 hn32 j (by omega)
        have hb3 : nAfter s i n0 j ≤ 10000000 := by
          have : j = 0 ∨ j = 1 ∨ j = 2 ∨ j = 3 := by omega
          rcases this with rfl | rfl | rfl | rfl <;> simp at hb <;> omega
        clear hb
        by_cases hlt : j + 1 ≤ 1
        · have tl : decide (((j + 1 : Nat) : Int) ≤ 1) = true := by simp; omega
          have hin : i + (j + 1) < s.size := by omega
          have hg := bN_get s (i + (j + 1)) hin
          have hg2 := bN_lt s (i + (j + 1))
          have HN : Hid (nAfter s i n0 (j + 1) = 64 * nAfter s i n0 j + bN s (i + (j + 1)) - 128) := hid rfl
          have HC : Hid (conts s i (j + 1) = contB s (i + (j + 1))) := hid (by show (conts s i j && _) = _; rw [hall.out, Bool.true_and])
          have HF : Hid (contB s (i + (j + 1)) = false → refDec s i = (65533, 1)) := hid (fun e => by
            rw [H2.out, if_neg]
            intro e2
            have := conts_upto e2 (j := j + 1) hlt
            rw [HC.out, e] at this
            cases this)
          have HB : Hid (contB s (i + (j + 1)) = (decide (128 ≤ bN s (i + (j + 1))) && decide (bN s (i + (j + 1)) < 192))) := hid rfl
          generalize hd : bN s (i + (j + 1)) = d at *
          by_cases hd1 : d < 128
          · have td : decide ((d : Int) < 128) = true := by simp; omega
            have HF2 : Hid (refDec s i = (65533, 1)) := hid (HF.out (by rw [HB.out]; simp; omega))
            clear HF HB HC HN H2 hall
            go_wp2_with fail
            refine bodyPost_ret (results_tmp2 rfl _ _ _) rfl ?_
            exact ⟨by rw [HF2.out]; rfl, rfl⟩
          · have td : decide ((d : Int) < 128) = false := by simp; omega
            by_cases hd2 : 192 ≤ d
            · have td2 : decide ((192 : Int) ≤ (d : Int)) = true := by simp; omega
              have HF2 : Hid (refDec s i = (65533, 1)) := hid (HF.out (by rw [HB.out]; simp; omega))
              clear HF HB HC HN H2 hall
              go_wp2_with fail
              refine bodyPost_ret (results_tmp2 rfl _ _ _) rfl ?_
              exact ⟨by rw [HF2.out]; rfl, rfl⟩
            · have td2 : decide ((192 : Int) ≤ (d : Int)) = false := by simp; omega
              have HC2 : Hid (conts s i (j + 1) = true) := hid (by rw [HC.out, HB.out]; simp; omega)
              clear HF HB HC hall
              go_wp2_with fail
              go_round
              case rel => exact ⟨j + 1, hlt, by go_num, by rw [HN.out]; go_num, HC2⟩
              case measure => simp [intOf]; omega
        · obtain rfl : j = 1 := by omega
          have H3 : Hid (refDec s i = finDec 128 (nAfter s i n0 1) 1) := hid (by rw [H2.out, if_pos hall.out])
          have tl : decide (((1 + 1 : Nat) : Int) ≤ 1) = false := by simp
          clear H2 hall
          generalize nAfter s i n0 1 = n at *
          by_cases f1 : n < 128
          · have tf : decide ((n : Int) < 128) = true := by simp; omega
            have H4 : Hid (refDec s i = (65533, 1)) := hid (by rw [H3.out]; unfold finDec; rw [if_pos (.inl f1)])
            clear H3
            go_wp2_with fail
            refine bodyPost_ret (results_tmp2 rfl _ _ _) rfl ?_
            exact ⟨by rw [H4.out]; rfl, rfl⟩
          · have tf : decide ((n : Int) < 128) = false := by simp; omega
            by_cases f2 : 1114111 < n
            · have tf2 : decide ((1114111 : Int) < (n : Int)) = true := by simp; omega
              have H4 : Hid (refDec s i = (65533, 1)) := hid (by rw [H3.out]; unfold finDec; rw [if_pos (.inr (.inl f2))])
              clear H3
              go_wp2_with fail
              refine bodyPost_ret (results_tmp2 rfl _ _ _) rfl ?_
              exact ⟨by rw [H4.out]; rfl, rfl⟩
            · have tf2 : decide ((1114111 : Int) < (n : Int)) = false := by simp; omega
              by_cases f3 : 55296 ≤ n ∧ n ≤ 57343
              · have tf3 : decide ((55296 : Int) ≤ (n : Int)) = true := by simp; omega
                have tf4 : decide ((n : Int) ≤ 57343) = true := by simp; omega
                have H4 : Hid (refDec s i = (65533, 1)) := hid (by rw [H3.out]; unfold finDec; rw [if_pos (.inr (.inr f3))])
                clear H3
                go_wp2_with fail
                refine bodyPost_ret (results_tmp2 rfl _ _ _) rfl ?_
                exact ⟨by rw [H4.out]; rfl, rfl⟩
              · have H4 : Hid (refDec s i = (n, 1 + 1)) := hid (by rw [H3.out]; unfold finDec; rw [if_neg (by omega)])
                clear H3
                by_cases f5 : 55296 ≤ n
                · have tf3 : decide ((55296 : Int) ≤ (n : Int)) = true := by simp; omega
                  have tf4 : decide ((n : Int) ≤ 57343) = false := by simp; omega
                  go_wp2_with fail
                  refine bodyPost_ret (results_tmp2 rfl _ _ _) rfl ?_
                  exact ⟨by rw [H4.out]; rfl, rfl⟩
                · have tf3 : decide ((55296 : Int) ≤ (n : Int)) = false := by simp; omega
                  go_wp2_with fail
                  refine bodyPost_ret (results_tmp2 rfl _ _ _) rfl ?_
                  exact ⟨by rw [H4.out]; rfl, rfl⟩
  by_cases q2 : 224 ≤ c ∧ c < 240
  · have H : Hid (refDec s i = tryDec s i 2 2048 (c - 224)) := hid (by unfold refDec; rw [hcc]; rw [if_neg h1, if_neg q1, if_pos q2])
    obtain ⟨n0, hn0⟩ : ∃ n0 : Nat, c = n0 + 224 := ⟨c - 224, by omega⟩
    have hn32 : n0 < 32 := by omega
    have a0 : decide ((194 : Int) ≤ (c : Int)) = true := by simp; omega
    have b0 : decide ((c : Int) < 224) = false := by simp; omega
    have a1 : decide ((224 : Int) ≤ (c : Int)) = true := by simp; omega
    have b1 : decide ((c : Int) < 240) = true := by simp; omega
    have hsub : (c : Int) - 224 = (n0 : Int) := by omega
    rw [show c - 224 = n0 from by omega] at H
    rw [hcc] at hc hc2
    have Hn0 := hid hn0
    have q2l := q2.1
    clear hn0
    by_cases hm : s.size ≤ i + 2
    · have tm : decide ((s.size : Int) ≤ (i : Int) + 2) = true := by simp; omega
      have H2 : Hid (refDec s i = (65533, 1)) := hid (by rw [H.out]; unfold tryDec; rw [if_pos hm])
      clear H HD hm h1 q2 hcc
      go_enter Tryz.func71, Tryz.ntmps71
      go_wp2_with fail
      refine bodyPost_ret (results_tmp2 rfl _ _ _) rfl ?_
      exact ⟨by rw [H2.out]; rfl, rfl⟩
    · have tm : decide ((s.size : Int) ≤ (i : Int) + 2) = false := by simp; omega
      have H2 : Hid (refDec s i = if conts s i 2 = true then finDec 2048 (nAfter s i n0 2) 2 else (65533, 1)) := hid (by rw [H.out]; unfold tryDec; rw [if_neg hm])
      clear H HD h1 q2 hcc
      go_enter Tryz.func71, Tryz.ntmps71
      go_wp2_with fail
      go_loop [9, 10, 11] (fun n k _ => ∃ j : Nat, j ≤ 2 ∧ k = .int .i64 ((j + 1 : Nat) : Int) ∧ n = .int .i64 (nAfter s i n0 j : Int) ∧ Hid (conts s i j = true)) (fun _ k _ => 2 + 1 - (intOf k).toNat)
      case atStart => exact ⟨0, by omega, rfl, by first | rfl | (simp [nAfter]; try omega), hid rfl⟩
      case round =>
        obtain ⟨j, hj, rfl, rfl, hall⟩ := hrel
        have hb := conts_lt s i n0 hn32 j (by omega)
        have hb3 : nAfter s i n0 j ≤ 10000000 := by
          have : j = 0 ∨ j = 1 ∨ j = 2 ∨ j = 3 := by omega
          rcases this with rfl | rfl | rfl | rfl <;> simp at hb <;> omega
        clear hb
        by_cases hlt : j + 1 ≤ 2
        · have tl : decide (((j + 1 : Nat) : Int) ≤ 2) = true := by simp; omega
          have hin : i + (j + 1) < s.size := by omega
          have hg := bN_get s (i + (j + 1)) hin
          have hg2 := bN_lt s (i + (j + 1))
          have HN : Hid (nAfter s i n0 (j + 1) = 64 * nAfter s i n0 j + bN s (i + (j + 1)) - 128) := hid rfl
          have HC : Hid (conts s i (j + 1) = contB s (i + (j + 1))) := hid (by show (conts s i j && _) = _; rw [hall.out, Bool.true_and])
          have HF : Hid (contB s (i + (j + 1)) = false → refDec s i = (65533, 1)) := hid (fun e => by
            rw [H2.out, if_neg]
            intro e2
            have := conts_upto e2 (j := j + 1) hlt
            rw [HC.out, e] at this
            cases this)
          have HB : Hid (contB s (i + (j + 1)) = (decide (128 ≤ bN s (i + (j + 1))) && decide (bN s (i + (j + 1)) < 192))) := hid rfl
          generalize hd : bN s (i + (j + 1)) = d at *
          by_cases hd1 : d < 128
          · have td : decide ((d : Int) < 128) = true := by simp; omega
            have HF2 : Hid (refDec s i = (65533, 1)) := hid (HF.out (by rw [HB.out]; simp; omega))
            clear HF HB HC HN H2 hall
            go_wp2_with fail
            refine bodyPost_ret (results_tmp2 rfl _ _ _) rfl ?_
            exact ⟨by rw [HF2.out]; rfl, rfl⟩
          · have td : decide ((d : Int) < 128) = false := by simp; omega
            by_cases hd2 : 192 ≤ d
            · have td2 : decide ((192 : Int) ≤ (d : Int)) = true := by simp; omega
              have HF2 : Hid (refDec s i = (65533, 1)) := hid (HF.out (by rw [HB.out]; simp; omega))
              clear HF HB HC HN H2 hall
              go_wp2_with fail
              refine bodyPost_ret (results_tmp2 rfl _ _ _) rfl ?_
              exact ⟨by rw [HF2.out]; rfl, rfl⟩
            · have td2 : decide ((192 : Int) ≤ (d : Int)) = false := by simp; omega
              have HC2 : Hid (conts s i (j + 1) = true) := hid (by rw [HC.out, HB.out]; simp; omega)
              clear HF HB HC hall
              go_wp2_with fail
              go_round
              case rel => exact ⟨j + 1, hlt, by go_num, by rw [HN.out]; go_num, HC2⟩
              case measure => simp [intOf]; omega
        · obtain rfl : j = 2 := by omega
          have H3 : Hid (refDec s i = finDec 2048 (nAfter s i n0 2) 2) := hid (by rw [H2.out, if_pos hall.out])
          have tl : decide (((2 + 1 : Nat) : Int) ≤ 2) = false := by simp
          clear H2 hall
          generalize nAfter s i n0 2 = n at *
          by_cases f1 : n < 2048
          · have tf : decide ((n : Int) < 2048) = true := by simp; omega
            have H4 : Hid (refDec s i = (65533, 1)) := hid (by rw [H3.out]; unfold finDec; rw [if_pos (.inl f1)])
            clear H3
            go_wp2_with fail
            refine bodyPost_ret (results_tmp2 rfl _ _ _) rfl ?_
            exact ⟨by rw [H4.out]; rfl, rfl⟩
          · have tf : decide ((n : Int) < 2048) = false := by simp; omega
            by_cases f2 : 1114111 < n
            · have tf2 : decide ((1114111 : Int) < (n : Int)) = true := by simp; omega
              have H4 : Hid (refDec s i = (65533, 1)) := hid (by rw [H3.out]; unfold finDec; rw [if_pos (.inr (.inl f2))])
              clear H3
              go_wp2_with fail
              refine bodyPost_ret (results_tmp2 rfl _ _ _) rfl ?_
              exact ⟨by rw [H4.out]; rfl, rfl⟩
            · have tf2 : decide ((1114111 : Int) < (n : Int)) = false := by simp; omega
              by_cases f3 : 55296 ≤ n ∧ n ≤ 57343
              · have tf3 : decide ((55296 : Int) ≤ (n : Int)) = true := by simp; omega
                have tf4 : decide ((n : Int) ≤ 57343) = true := by simp; omega
                have H4 : Hid (refDec s i = (65533, 1)) := hid (by rw [H3.out]; unfold finDec; rw [if_pos (.inr (.inr f3))])
                clear H3
                go_wp2_with fail
                refine bodyPost_ret (results_tmp2 rfl _ _ _) rfl ?_
                exact ⟨by rw [H4.out]; rfl, rfl⟩
              · have H4 : Hid (refDec s i = (n, 2 + 1)) := hid (by rw [H3.out]; unfold finDec; rw [if_neg (by omega)])
                clear H3
                by_cases f5 : 55296 ≤ n
                · have tf3 : decide ((55296 : Int) ≤ (n : Int)) = true := by simp; omega
                  have tf4 : decide ((n : Int) ≤ 57343) = false := by simp; omega
                  go_wp2_with fail
                  refine bodyPost_ret (results_tmp2 rfl _ _ _) rfl ?_
                  exact ⟨by rw [H4.out]; rfl, rfl⟩
                · have tf3 : decide ((55296 : Int) ≤ (n : Int)) = false := by simp; omega
                  go_wp2_with fail
                  refine bodyPost_ret (results_tmp2 rfl _ _ _) rfl ?_
                  exact ⟨by rw [H4.out]; rfl, rfl⟩
  by_cases q3 : 240 ≤ c ∧ c < 245
  · have H : Hid (refDec s i = tryDec s i 3 65536 (c - 240)) := hid (by unfold refDec; rw [hcc]; rw [if_neg h1, if_neg q1, if_neg q2, if_pos q3])
    obtain ⟨n0, hn0⟩ : ∃ n0 : Nat, c = n0 + 240 := ⟨c - 240, by omega⟩
    have hn32 : n0 < 32 := by omega
    have a0 : decide ((194 : Int) ≤ (c : Int)) = true := by simp; omega
    have b0 : decide ((c : Int) < 224) = false := by simp; omega
    have a1 : decide ((224 : Int) ≤ (c : Int)) = true := by simp; omega
    have b1 : decide ((c : Int) < 240) = false := by simp; omega
    have a2 : decide ((240 : Int) ≤ (c : Int)) = true := by simp; omega
    have b2 : decide ((c : Int) < 245) = true := by simp; omega
    have hsub : (c : Int) - 240 = (n0 : Int) := by omega
    rw [show c - 240 = n0 from by omega] at H
    rw [hcc] at hc hc2
    have Hn0 := hid hn0
    have q3l := q3.1
    clear hn0
    by_cases hm : s.size ≤ i + 3
    · have tm : decide ((s.size : Int) ≤ (i : Int) + 3) = true := by simp; omega
      have H2 : Hid (refDec s i = (65533, 1)) := hid (by rw [H.out]; unfold tryDec; rw [if_pos hm])
      clear H HD hm h1 q3 hcc
      go_enter Tryz.func71, Tryz.ntmps71
      go_wp2_with fail
      refine bodyPost_ret (results_tmp2 rfl _ _ _) rfl ?_
      exact ⟨by rw [H2.out]; rfl, rfl⟩
    · have tm : decide ((s.size : Int) ≤ (i : Int) + 3) = false := by simp; omega
      have H2 : Hid (refDec s i = if conts s i 3 = true then finDec 65536 (nAfter s i n0 3) 3 else (65533, 1)) := hid (by rw [H.out]; unfold tryDec; rw [if_neg hm])
      clear H HD h1 q3 hcc
      go_enter Tryz.func71, Tryz.ntmps71
      go_wp2_with fail
      go_loop [9, 10, 11] (fun n k _ => ∃ j : Nat, j ≤ 3 ∧ k = .int .i64 ((j + 1 : Nat) : Int) ∧ n = .int .i64 (nAfter s i n0 j : Int) ∧ Hid (conts s i j = true)) (fun _ k _ => 3 + 1 - (intOf k).toNat)
      case atStart => exact ⟨0, by omega, rfl, by first | rfl | (simp [nAfter]; try omega), hid rfl⟩
      case round =>
        obtain ⟨j, hj, rfl, rfl, hall⟩ := hrel
        have hb := conts_lt s i n0 hn32 j (by omega)
        have hb3 : nAfter s i n0 j ≤ 10000000 := by
          have : j = 0 ∨ j = 1 ∨ j = 2 ∨ j = 3 := by omega
          rcases this with rfl | rfl | rfl | rfl <;> simp at hb <;> omega
        clear hb
        by_cases hlt : j + 1 ≤ 3
        · have tl : decide (((j + 1 : Nat) : Int) ≤ 3) = true := by simp; omega
          have hin : i + (j + 1) < s.size := by omega
          have hg := bN_get s (i + (j + 1)) hin
          have hg2 := bN_lt s (i + (j + 1))
          have HN : Hid (nAfter s i n0 (j + 1) = 64 * nAfter s i n0 j + bN s (i + (j + 1)) - 128) := hid rfl
          have HC : Hid (conts s i (j + 1) = contB s (i + (j + 1))) := hid (by show (conts s i j && _) = _; rw [hall.out, Bool.true_and])
          have HF : Hid (contB s (i + (j + 1)) = false → refDec s i = (65533, 1)) := hid (fun e => by
            rw [H2.out, if_neg]
            intro e2
            have := conts_upto e2 (j := j + 1) hlt
            rw [HC.out, e] at this
            cases this)
          have HB : Hid (contB s (i + (j + 1)) = (decide (128 ≤ bN s (i + (j + 1))) && decide (bN s (i + (j + 1)) < 192))) := hid rfl
          generalize hd : bN s (i + (j + 1)) = d at *
          by_cases hd1 : d < 128
          · have td : decide ((d : Int) < 128) = true := by simp; omega
            have HF2 : Hid (refDec s i = (65533, 1)) := hid (HF.out (by rw [HB.out]; simp; omega))
            clear HF HB HC HN H2 hall
            go_wp2_with fail
            refine bodyPost_ret (results_tmp2 rfl _ _ _) rfl ?_
            exact ⟨by rw [HF2.out]; rfl, rfl⟩
          · have td : decide ((d : Int) < 128) = false := by simp; omega
            by_cases hd2 : 192 ≤ d
            · have td2 : decide ((192 : Int) ≤ (d : Int)) = true := by simp; omega
              have HF2 : Hid (refDec s i = (65533, 1)) := hid (HF.out (by rw [HB.out]; simp; omega))
              clear HF HB HC HN H2 hall
              go_wp2_with fail
              refine bodyPost_ret (results_tmp2 rfl _ _ _) rfl ?_
              exact ⟨by rw [HF2.out]; rfl, rfl⟩
            · have td2 : decide ((192 : Int) ≤ (d : Int)) = false := by simp; omega
              have HC2 : Hid (conts s i (j + 1) = true) := hid (by rw [HC.out, HB.out]; simp; omega)
              clear HF HB HC hall
              go_wp2_with fail
              go_round
              case rel => exact ⟨j + 1, hlt, by go_num, by rw [HN.out]; go_num, HC2⟩
              case measure => simp [intOf]; omega
        · obtain rfl : j = 3 := by omega
          have H3 : Hid (refDec s i = finDec 65536 (nAfter s i n0 3) 3) := hid (by rw [H2.out, if_pos hall.out])
          have tl : decide (((3 + 1 : Nat) : Int) ≤ 3) = false := by simp
          clear H2 hall
          generalize nAfter s i n0 3 = n at *
          by_cases f1 : n < 65536
          · have tf : decide ((n : Int) < 65536) = true := by simp; omega
            have H4 : Hid (refDec s i = (65533, 1)) := hid (by rw [H3.out]; unfold finDec; rw [if_pos (.inl f1)])
            clear H3
            go_wp2_with fail
            refine bodyPost_ret (results_tmp2 rfl _ _ _) rfl ?_
            exact ⟨by rw [H4.out]; rfl, rfl⟩
          · have tf : decide ((n : Int) < 65536) = false := by simp; omega
            by_cases f2 : 1114111 < n
            · have tf2 : decide ((1114111 : Int) < (n : Int)) = true := by simp; omega
              have H4 : Hid (refDec s i = (65533, 1)) := hid (by rw [H3.out]; unfold finDec; rw [if_pos (.inr (.inl f2))])
              clear H3
              go_wp2_with fail
              refine bodyPost_ret (results_tmp2 rfl _ _ _) rfl ?_
              exact ⟨by rw [H4.out]; rfl, rfl⟩
            · have tf2 : decide ((1114111 : Int) < (n : Int)) = false := by simp; omega
              by_cases f3 : 55296 ≤ n ∧ n ≤ 57343
              · have tf3 : decide ((55296 : Int) ≤ (n : Int)) = true := by simp; omega
                have tf4 : decide ((n : Int) ≤ 57343) = true := by simp; omega
                have H4 : Hid (refDec s i = (65533, 1)) := hid (by rw [H3.out]; unfold finDec; rw [if_pos (.inr (.inr f3))])
                clear H3
                go_wp2_with fail
                refine bodyPost_ret (results_tmp2 rfl _ _ _) rfl ?_
                exact ⟨by rw [H4.out]; rfl, rfl⟩
              · have H4 : Hid (refDec s i = (n, 3 + 1)) := hid (by rw [H3.out]; unfold finDec; rw [if_neg (by omega)])
                clear H3
                by_cases f5 : 55296 ≤ n
                · have tf3 : decide ((55296 : Int) ≤ (n : Int)) = true := by simp; omega
                  have tf4 : decide ((n : Int) ≤ 57343) = false := by simp; omega
                  go_wp2_with fail
                  refine bodyPost_ret (results_tmp2 rfl _ _ _) rfl ?_
                  exact ⟨by rw [H4.out]; rfl, rfl⟩
                · have tf3 : decide ((55296 : Int) ≤ (n : Int)) = false := by simp; omega
                  go_wp2_with fail
                  refine bodyPost_ret (results_tmp2 rfl _ _ _) rfl ?_
                  exact ⟨by rw [H4.out]; rfl, rfl⟩
  have H : Hid (refDec s i = (65533, 1)) := hid (by unfold refDec; rw [hcc, if_neg h1, if_neg q1, if_neg q2, if_neg q3])
  have hcase : c < 194 ∨ 245 ≤ c := by omega
  rw [hcc] at hc hc2
  clear q1 q2 q3 hcc HD
  rcases hcase with hcase | hcase
  · have a1 : decide ((194 : Int) ≤ (c : Int)) = false := by simp; omega
    have a2 : decide ((224 : Int) ≤ (c : Int)) = false := by simp; omega
    have a3 : decide ((240 : Int) ≤ (c : Int)) = false := by simp; omega
    go_enter Tryz.func71, Tryz.ntmps71
    go_wp2_with fail
    refine bodyPost_ret (results_tmp2 rfl _ _ _) rfl ?_
    exact ⟨by rw [H.out]; rfl, rfl⟩
  · have a1 : decide ((194 : Int) ≤ (c : Int)) = true := by simp; omega
    have a1' : decide ((c : Int) < 224) = false := by simp; omega
    have a2 : decide ((224 : Int) ≤ (c : Int)) = true := by simp; omega
    have a2' : decide ((c : Int) < 240) = false := by simp; omega
    have a3 : decide ((240 : Int) ≤ (c : Int)) = true := by simp; omega
    have a3' : decide ((c : Int) < 245) = false := by simp; omega
    go_enter Tryz.func71, Tryz.ntmps71
    go_wp2_with fail
    refine bodyPost_ret (results_tmp2 rfl _ _ _) rfl ?_
    exact ⟨by rw [H.out]; rfl, rfl⟩

/-- Size. -/
theorem rsize_any (s : ByteArray) (i : Nat) (w : World) (hs : s.size ≤ 1000000000) (hi : i < s.size) :
    Calls Tryz.prog 79 #[.string s, .int .i64 i] w fun e w' => e = .returned (.int .i64 ((Utf8.decode s i).2 : Nat)) ∧ w' = w := by
  go_enter Tryz.func79, Tryz.ntmps79
  go_wp2_with fail
  refine (rdecode_any s i _ hs hi).mono ?_
  rintro e w' ⟨rfl, rfl⟩
  rw [refDec_eq s i hi]
  go_wp2_with fail
  go_ret
  exact ⟨rfl, rfl⟩
end Go.Proofs.YthlingdlehdlhaaGreatDoor

namespace Go.Proofs.YthlingdlehdlhaaGreatDoor
open Go.RowKit Go.Shelf
set_option linter.unusedVariables false
set_option linter.unusedSimpArgs false

theorem decode_in (s : ByteArray) (q : Nat) (h : q < s.size) : q + (Utf8.decode s q).2 ≤ s.size := by
  have := decode_le s q
  have := Lib.decodeN_le_n' (s.size - q) (s.get! q).toNat (s.get! (q + 1)).toNat (s.get! (q + 2)).toNat (s.get! (q + 3)).toNat (by omega)
  rw [← Lib.decode_at] at this
  omega
theorem cells_news {w : World} {b o : Nat} {xs : List Int} (hc : ∀ i, i < xs.length → w.cell? ⟨b, o + i, none⟩ = some (.int .i64 (xs[i]?.getD 0))) :
    ∀ j u, (xs.map (Value.int .i64))[j]? = some u → w.cell? ((⟨b, o, none⟩ : Addr).add j) = some u := by
  intro j u hj
  obtain ⟨hj', rfl⟩ := List.getElem?_eq_some_iff.1 hj
  have hj2 : j < xs.length := by simpa using hj'
  have := hc j hj2
  rw [List.getElem?_eq_getElem hj2, Option.getD_some] at this
  rw [List.getElem_map, Addr.add_lit]; exact this
theorem one_cells (xs : List Int) : ∀ u ∈ xs.map (Value.int .i64), u.oneCell' = true := by
  intro u hu; obtain ⟨n, _, rfl⟩ := List.mem_map.1 hu; rfl

set_option maxRecDepth 100000 in
theorem rints_any (v : Value) (xs : List Int) (w : World) (hx : Ints w v xs) (hl : xs.length ≤ 8000000) :
    Calls Tryz.prog 97 #[v] w fun e w' => ∃ v', e = .returned v' ∧ w'.ownsRow w.heap.size 3 1 v' xs.length (xs.map (.int .i64)) ∧ Below w.heap.size w w' := by
  obtain ⟨i0, hi, hz0, hz1, hz2⟩ := info_parts (show (Tryz.prog.info? 3).map (fun i => (i.zero, i.size, i.bytes)) = some (some (.int .i64 0), 1, 8) by kernel_rfl)
  obtain ⟨a, cap, rfl, h1, h2, h3, hc⟩ := hx.parts
  cases a with
  | none =>
    have : cap = 0 := h3 rfl
    have : xs = [] := List.eq_nil_of_length_eq_zero (by omega)
    subst this
    subst cap
    go_enter Tryz.func97, Tryz.ntmps97
    go_wp2_with (at_builtin; refine wpList_append_own_none rfl _ _ 27 rfl w.heap.size 3 i0 1 Tryz.underlying27 hi _ _ _ rfl (World.ownsRow_nil _ _ _ _) rfl ?_)
    go_ret
    exact ⟨_, rfl, World.ownsRow_nil _ _ _ _, Below.refl _ _⟩
  | some ad =>
    have hnews : ∀ j u, (xs.map (Value.int .i64))[j]? = some u → w.cell? (ad.add j) = some u := by
      rcases hc with rfl | ⟨b, o, e, hc⟩
      · intro j u hj; simp at hj
      · obtain rfl : ad = ⟨b, o, none⟩ := by simpa using e
        exact cells_news hc
    go_enter Tryz.func97, Tryz.ntmps97
    go_wp2_with (at_builtin; refine wpList_append_own _ rfl _ _ 27 rfl w.heap.size 3 i0 (.int .i64 0) 1 8 Tryz.underlying27 hi hz0 hz1 hz2 rfl (by decide) _ _ _ rfl (World.ownsRow_nil _ _ _ _) ad xs.length cap (xs.map (.int .i64)) rfl (by simp) hnews (one_cells xs) (by unfold maxLen; omega) (by omega) (Nat.le_refl _) ?_)
    intro v' w1 hown hgrow hnil
    go_wp2
    go_ret
    exact ⟨v', rfl, by simpa using hown, (Below.refl _ w).grown hgrow (Nat.le_refl _) (by intro k hk; simp [Value.ownBlock] at hk)⟩

set_option maxRecDepth 100000 in
theorem rlongs_any (v : Value) (xs : List Int) (w : World) (hx : Ints w v xs) (hl : xs.length ≤ 8000000) :
    Calls Tryz.prog 98 #[v] w fun e w' => ∃ v', e = .returned v' ∧ w'.ownsRow w.heap.size 2 1 v' xs.length (xs.map (.int .i64)) ∧ Below w.heap.size w w' := by
  obtain ⟨i0, hi, hz0, hz1, hz2⟩ := info_parts (show (Tryz.prog.info? 2).map (fun i => (i.zero, i.size, i.bytes)) = some (some (.int .i64 0), 1, 8) by kernel_rfl)
  obtain ⟨a, cap, rfl, h1, h2, h3, hc⟩ := hx.parts
  cases a with
  | none =>
    have : cap = 0 := h3 rfl
    have : xs = [] := List.eq_nil_of_length_eq_zero (by omega)
    subst this
    subst cap
    go_enter Tryz.func98, Tryz.ntmps98
    go_wp2_with (at_builtin; refine wpList_append_own_none rfl _ _ 28 rfl w.heap.size 2 i0 1 Tryz.underlying28 hi _ _ _ rfl (World.ownsRow_nil _ _ _ _) rfl ?_)
    go_ret
    exact ⟨_, rfl, World.ownsRow_nil _ _ _ _, Below.refl _ _⟩
  | some ad =>
    have hnews : ∀ j u, (xs.map (Value.int .i64))[j]? = some u → w.cell? (ad.add j) = some u := by
      rcases hc with rfl | ⟨b, o, e, hc⟩
      · intro j u hj; simp at hj
      · obtain rfl : ad = ⟨b, o, none⟩ := by simpa using e
        exact cells_news hc
    go_enter Tryz.func98, Tryz.ntmps98
    go_wp2_with (at_builtin; refine wpList_append_own _ rfl _ _ 28 rfl w.heap.size 2 i0 (.int .i64 0) 1 8 Tryz.underlying28 hi hz0 hz1 hz2 rfl (by decide) _ _ _ rfl (World.ownsRow_nil _ _ _ _) ad xs.length cap (xs.map (.int .i64)) rfl (by simp) hnews (one_cells xs) (by unfold maxLen; omega) (by omega) (Nat.le_refl _) ?_)
    intro v' w1 hown hgrow hnil
    go_wp2
    go_ret
    exact ⟨v', rfl, by simpa using hown, (Below.refl _ w).grown hgrow (Nat.le_refl _) (by intro k hk; simp [Value.ownBlock] at hk)⟩

set_option maxRecDepth 100000 in
theorem rof_any (k : Int) (vs ve : Value) (xs ys : List Int) (w : World) (hx : Ints w vs xs) (hy : Ints w ve ys) (hlx : xs.length ≤ 8000000) (hly : ys.length ≤ 8000000) (hr : Rng ys) :
    Calls Tryz.prog 49 #[.int .i64 k, vs, ve] w fun e w' => (∃ v, e = .returned v ∧ ArrOwn w' w.heap.size v ⟨k, xs, ys⟩) ∧ Below w.heap.size w w' := by
  have hB1 : ∀ o, Below w.heap.size w (w.alloc o) := fun o => (Below.refl _ w).alloc (Nat.le_refl _) o
  have hx1 := fun o => hx.below (hB1 o)
  have hy1 := fun o => hy.below (hB1 o)
  go_enter Tryz.func49, Tryz.ntmps49
  go_wp2_with fail
  refine (rints_any _ xs _ (hx1 _) hlx).mono ?_
  rintro e w1 ⟨u1, rfl, o1, b1⟩
  obtain ⟨aS, cS, rfl⟩ := own_slice o1
  have z1 := (b1.block w.heap.size (by simp)).trans (heap_alloc_new w _)
  have hsz1 : w.heap.size + 1 ≤ w1.heap.size := by have := b1.size; simpa using this
  go_wp2_with fail
  refine (rlongs_any _ ys _ ((hy1 _).below b1) hly).mono ?_
  rintro e w2 ⟨u2, rfl, o2, b2⟩
  obtain ⟨aE, cE, rfl⟩ := own_slice o2
  have z2 := (b2.block w.heap.size (by omega)).trans z1
  have hsz2 := b2.size
  have o1' := own_below o1 b2
  have hB : Below w.heap.size w w2 := (hB1 _).trans ((b1.trans (b2.mono b1.size)).mono (by simp))
  obtain ⟨k0, k1, k2, f0, f1, f2⟩ := zero_facts z2
  clear o1 hx1 hy1 b1 b2 hB1
  go_wp2_with fail
  have hW := heap_set3 z2 (.int .i64 k) (.slice aS xs.length cS) (.slice aE ys.length cE)
  have q1 := ownsRow_setCell_below (ownsRow_setCell_below (ownsRow_setCell_below o1' (a := ⟨w.heap.size, 0, none⟩) (by simp) (.int .i64 k)) (a := ⟨w.heap.size, 1, none⟩) (by simp) (.slice aS xs.length cS)) (a := ⟨w.heap.size, 2, none⟩) (by simp) (.slice aE ys.length cE)
  have q2 := ownsRow_setCell_below (ownsRow_setCell_below (ownsRow_setCell_below o2 (a := ⟨w.heap.size, 0, none⟩) (by simp; omega) (.int .i64 k)) (a := ⟨w.heap.size, 1, none⟩) (by simp; omega) (.slice aS xs.length cS)) (a := ⟨w.heap.size, 2, none⟩) (by simp; omega) (.slice aE ys.length cE)
  have qb := ((hB.setCell (p := ⟨w.heap.size, 0, none⟩) (by simp) (.int .i64 k)).setCell (p := ⟨w.heap.size, 1, none⟩) (by simp) (.slice aS xs.length cS)).setCell (p := ⟨w.heap.size, 2, none⟩) (by simp) (.slice aE ys.length cE)
  refine bodyPost_ret (results_cell_row rfl _ _ w.heap.size _ _ _ _ rfl hW Tryz.underlying30 rfl (by kernel_rfl)) rfl ?_
  exact ⟨⟨_, rfl, _, _, rfl, owns_mono q1 (by simp), owns_mono q2 (by omega), hr⟩, qb⟩

set_option maxRecDepth 100000 in
theorem rvector_any (v : Value) (ys : List Int) (w : World) (hy : Ints w v ys) (hly : ys.length ≤ 8000000) (hr : Rng ys) :
    Calls Tryz.prog 74 #[v] w fun e w' => (∃ v, e = .returned v ∧ ArrOwn w' w.heap.size v ⟨1, [(ys.length : Int)], ys⟩) ∧ Below w.heap.size w w' := by
  obtain ⟨a, cap, rfl, h1, h2, h3, -⟩ := hy.parts
  have hB2 : ∀ o o', Below w.heap.size w ((w.alloc o).alloc o') := fun o o' => ((Below.refl _ w).alloc (Nat.le_refl _) o).alloc (by simp) o'
  have hy2 := fun o o' => hy.below (hB2 o o')
  go_enter Tryz.func74, Tryz.ntmps74
  go_wp2_with fail
  refine (rof_any 1 _ _ [(ys.length : Int)] ys _ (ints_one (by simp)) (hy2 _ _) (by simp) hly hr).mono ?_
  rintro e w1 ⟨⟨v1, rfl, vs, ve, rfl, o1, o2, o3⟩, b1⟩
  obtain ⟨aS, cS, rfl⟩ := own_slice o1
  obtain ⟨aE, cE, rfl⟩ := own_slice o2
  have z1 := (b1.block w.heap.size (by simp; omega)).trans ((heap_alloc_old _ _ (by simp)).trans (heap_alloc_new w _))
  have hsz1 : w.heap.size + 2 ≤ w1.heap.size := by have := b1.size; simpa using this
  have hB : Below w.heap.size w w1 := (hB2 _ _).trans (b1.mono (by simp; omega))
  obtain ⟨k0, k1, k2, f0, f1, f2⟩ := zero_facts z1
  simp only [List.length_cons, List.length_nil, Nat.zero_add] at o1 ⊢
  clear hy2 b1 hB2
  go_wp2_with fail
  have hW := heap_set3 z1 (.int .i64 1) (.slice aS 1 cS) (.slice aE ys.length cE)
  have q1 := ownsRow_setCell_below (ownsRow_setCell_below (ownsRow_setCell_below o1 (a := ⟨w.heap.size, 0, none⟩) (by simp; omega) (.int .i64 1)) (a := ⟨w.heap.size, 1, none⟩) (by simp; omega) (.slice aS 1 cS)) (a := ⟨w.heap.size, 2, none⟩) (by simp; omega) (.slice aE ys.length cE)
  have q2 := ownsRow_setCell_below (ownsRow_setCell_below (ownsRow_setCell_below o2 (a := ⟨w.heap.size, 0, none⟩) (by simp; omega) (.int .i64 1)) (a := ⟨w.heap.size, 1, none⟩) (by simp; omega) (.slice aS 1 cS)) (a := ⟨w.heap.size, 2, none⟩) (by simp; omega) (.slice aE ys.length cE)
  have qb := ((hB.setCell (p := ⟨w.heap.size, 0, none⟩) (by simp) (.int .i64 1)).setCell (p := ⟨w.heap.size, 1, none⟩) (by simp) (.slice aS 1 cS)).setCell (p := ⟨w.heap.size, 2, none⟩) (by simp) (.slice aE ys.length cE)
  refine bodyPost_ret (results_cell_row rfl _ _ w.heap.size _ _ _ _ rfl hW Tryz.underlying30 rfl (by kernel_rfl)) rfl ?_
  exact ⟨⟨_, rfl, _, _, rfl, owns_mono q1 (by simp; omega), owns_mono q2 (by simp; omega), hr⟩, qb⟩

set_option maxRecDepth 100000 in
theorem rruns_any (s : ByteArray) (w : World) (hs : s.size ≤ 8000000) :
    Calls Tryz.prog 125 #[.string s] w fun e w' => (∃ v, e = .returned v ∧ w'.ownsRow w.heap.size 2 1 v (runesOf s).length ((runesOf s).map (.int .i64))) ∧ Below w.heap.size w w' := by
  obtain ⟨i0, hi, hz0, hz1, hz2⟩ := info_parts (show (Tryz.prog.info? 2).map (fun i => (i.zero, i.size, i.bytes)) = some (some (.int .i64 0), 1, 8) by kernel_rfl)
  obtain ⟨X, hX⟩ : ∃ X, runesOf s = X := ⟨_, rfl⟩
  rw [hX]
  go_enter Tryz.func125, Tryz.ntmps125
  go_wp2_with fail
  go_loopw [3, 4, 5, 6] (fun v i _ _ wr => ∃ (q fuel : Nat) (acc : List Int), q ≤ s.size ∧ i = .int .i64 q ∧ wr.ownsRow w.heap.size 2 1 v acc.length (acc.map (.int .i64)) ∧ Below w.heap.size w wr ∧ Hid (acc ++ runesFrom s fuel q = X) ∧ s.size ≤ q + fuel ∧ acc.length ≤ q) (fun _ i _ _ _ => s.size - (intOf i).toNat)
  case atStart => exact ⟨0, s.size, [], by omega, rfl, World.ownsRow_nil _ _ _ _, Below.refl _ _, hid hX, by omega, by simp⟩
  case round =>
    obtain ⟨q, fuel, acc, hq, rfl, hrow, hB, HX, hfu, hal⟩ := hrel
    clear hX
    by_cases hlt : q < s.size
    · have hd : decide ((q : Int) < (s.size : Int)) = true := by simp; omega
      obtain ⟨f, rfl⟩ : ∃ f, fuel = f + 1 := ⟨fuel - 1, by omega⟩
      have hwd := width_pos s q hlt
      have hle := decode_in s q hlt
      have HX2 : Hid (acc ++ [((Utf8.decode s q).1 : Int)] ++ runesFrom s f (q + (Utf8.decode s q).2) = X) := hid (by rw [← HX.out, runesFrom, if_pos hlt, List.append_assoc]; rfl)
      clear HX
      obtain ⟨av, cv, rfl⟩ := own_slice hrow
      go_wp2_with fail
      refine (rdecode_any s q _ (by omega) hlt).mono ?_
      rintro e w' ⟨rfl, rfl⟩
      rw [refDec_eq s q hlt]
      generalize (Utf8.decode s q).1 = c at *
      generalize (Utf8.decode s q).2 = d at *
      go_wp2_with (at_builtin; go_must (refine wpList_append_own _ rfl _ _ 28 rfl w.heap.size 2 i0 (.int .i64 0) 1 8 Tryz.underlying28 hi hz0 hz1 hz2 rfl (by decide) _ _ _ rfl (hrow.alloc _) ⟨w'.heap.size, 0, none⟩ 1 1 [.int .i64 (c : Int)] rfl rfl (one_new w' (.int .i64 (c : Int)) 2) (by simp [Value.oneCell']) (by simp [maxLen]; omega) (by omega) (by have := hB.size; simp; omega) ?_); intro v' w3 hown' hgrow _; obtain ⟨g', cap', rfl⟩ := ownsRow_succ hown')
      go_roundw
      case rel =>
        exact ⟨q + d, f, acc ++ [(c : Int)], hle, by go_num, by simpa using hown', (hB.alloc hB.size _).grown hgrow (by have := hB.size; simp; omega) (fun k e => (hrow.lt k e).1), HX2, by omega, by simp; omega⟩
      case measure => simp [intOf]; omega
    · have hd : decide ((q : Int) < (s.size : Int)) = false := by simp; omega
      have HX2 : Hid (acc = X) := hid (by rw [← HX.out, runesFrom_end s fuel q hlt, List.append_nil])
      obtain rfl := HX2.out
      clear HX HX2
      go_wp2_with fail
      go_ret
      exact ⟨⟨_, rfl, hrow⟩, hB⟩
end Go.Proofs.YthlingdlehdlhaaGreatDoor

namespace Go.Proofs.YthlingdlehdlhaaGreatDoor
open Go.RowKit Go.Shelf
open Go.Lib (trimLeftB)
set_option linter.unusedVariables false
set_option linter.unusedSimpArgs false

theorem drop_bt (l : List UInt8) (k : Nat) (h : k < l.length) : l.drop k = bt (bs l) k :: l.drop (k + 1) := by
  rw [List.drop_eq_getElem_cons h]
  congr 1
  unfold bt
  rw [bs_list, List.getElem?_eq_getElem h]; rfl

theorem slice_list (l : List UInt8) (i k : Nat) : ((bs l).extract i (i + k)).data.toList = (l.drop i).take k := by
  have : ((bs l).extract i (i + k)) = bs ((l.drop i).take k) := by
    apply ByteArray.ext; simp [bs, List.extract_eq_take_drop]
  rw [this, bs_list]

set_option maxRecDepth 100000 in
set_option maxHeartbeats 400000 in
theorem begins_minus (l : List UInt8) (p : Nat) (w : World) (hl : l.length ≤ 1000000000) (hp : p ≤ l.length) :
    Calls Tryz.prog 153 #[.string (bs l), .int .i64 p, .string ⟨#[194, 175]⟩] w fun e w' => e = .returned (.bool (minusB (l.drop p))) ∧ w' = w := by
  have hs : (bs l).size = l.length := bs_size l
  have hs2 : ((bs l).size : Int) ≤ 1000000000 := by rw [hs]; omega
  by_cases h : p + 2 ≤ l.length
  · have hk : decide ((p : Int) + 2 ≤ ((bs l).size : Int)) = true := by rw [hs]; simp; omega
    have h2 : (p : Int) + 2 ≤ ((bs l).size : Int) := by rw [hs]; omega
    have h3 : (p : Int) ≤ (p : Int) + 2 := by omega
    have H : Hid ((((bs l).extract p (p + 2)).toList == [194, 175]) = minusB (l.drop p)) := hid (by
      rw [ByteArray.toList_eq, slice_list]
      unfold minusB Lib.hasPrefix
      rw [Bool.eq_iff_iff, beq_iff_eq, List.isPrefixOf_iff_prefix, List.prefix_iff_eq_take]
      exact eq_comm)
    go_enter Tryz.func153, Tryz.ntmps153
    go_wp2_with fail
    go_ret
    exact ⟨ret_bool H.out, rfl⟩
  · have hk : decide ((p : Int) + 2 ≤ ((bs l).size : Int)) = false := by rw [hs]; simp; omega
    have H : Hid (minusB (l.drop p) = false) := hid (by
      unfold minusB Lib.hasPrefix
      rw [Bool.eq_false_iff]
      intro e
      have := (List.isPrefixOf_iff_prefix.1 e).length_le
      rw [List.length_drop] at this
      simp at this
      omega)
    go_enter Tryz.func153, Tryz.ntmps153
    go_wp2_with fail
    go_ret
    exact ⟨by rw [H.out]; rfl, rfl⟩

set_option maxRecDepth 100000 in
set_option maxHeartbeats 400000 in
theorem past_any (l : List UInt8) (p : Nat) (w : World) (hl : l.length ≤ 1000000000) (hp : p ≤ l.length) :
    Calls Tryz.prog 31 #[.string (bs l), .int .i64 p] w fun e w' => (∃ q : Nat, e = .returned (.int .i64 q) ∧ q ≤ l.length ∧ l.drop q = trimLeftB (l.drop p) 32) ∧ w' = w := by
  have hs : (bs l).size = l.length := bs_size l
  have hmax : ((bs l).size : Int) ≤ 1000000000 := by rw [hs]; omega
  have hbt := fun k h => bt_get (bs l) k h
  have hdr := fun k h => drop_bt l k h
  have Hbt := hid hbt
  have Hdr := hid hdr
  have Hs := hid hs
  have HL := hid (rfl : l.length = l.length)
  clear hbt hdr
  rw [← hs] at hp
  go_enter Tryz.func31, Tryz.ntmps31
  go_wp2_with fail
  go_loop [1] (fun i => ∃ q : Nat, q ≤ (bs l).size ∧ i = .int .i64 q ∧ Hid (trimLeftB (l.drop q) 32 = trimLeftB (l.drop p) 32)) (fun i => (bs l).size - (intOf i).toNat)
  case atStart => exact ⟨p, hp, rfl, hid rfl⟩
  case round =>
    obtain ⟨q, hq, rfl, hinv⟩ := hrel
    by_cases hlt : q < (bs l).size
    · have hd : decide ((q : Int) < ((bs l).size : Int)) = true := by simp; omega
      have hc := Hbt.out q hlt
      have hdq := Hdr.out q (by rw [← Hs.out]; exact hlt)
      rw [← hc] at hdq
      clear hc
      by_cases h32 : (bs l)[q] = 32
      · have t : (((bs l)[q].toNat : Int) == 32) = true := by rw [h32]; rfl
        have HN : Hid (trimLeftB (l.drop (q + 1)) 32 = trimLeftB (l.drop p) 32) := hid (by rw [← hinv.out, hdq, h32, show trimLeftB (32 :: l.drop (q + 1)) 32 = trimLeftB (l.drop (q + 1)) 32 from by unfold trimLeftB; rw [List.dropWhile_cons_of_pos (by rfl)]])
        clear hinv hdq h32
        go_wp2_with fail
        go_round
        case rel => exact ⟨q + 1, by omega, by go_num, HN⟩
        case measure => simp [intOf]; omega
      · have t : (((bs l)[q].toNat : Int) == 32) = false := by
          rw [beq_eq_false_iff_ne]; intro e; exact h32 (UInt8.toNat_inj.1 (by show _ = 32; omega))
        have HN : Hid (l.drop q = trimLeftB (l.drop p) 32) := hid (by rw [← hinv.out, hdq, show trimLeftB ((bs l)[q] :: l.drop (q + 1)) 32 = (bs l)[q] :: l.drop (q + 1) from by unfold trimLeftB; rw [List.dropWhile_cons_of_neg (by simpa using h32)]])
        clear hinv hdq h32
        go_wp2_with fail
        go_ret
        exact ⟨⟨q, rfl, by rw [← Hs.out]; omega, HN.out⟩, rfl⟩
    · have hd : decide ((q : Int) < ((bs l).size : Int)) = false := by simp; omega
      have HN : Hid (l.drop q = trimLeftB (l.drop p) 32) := hid (by
        rw [← hinv.out, List.drop_eq_nil_of_le (by rw [← Hs.out]; omega)]; rfl)
      clear hinv
      go_wp2_with fail
      go_ret
      exact ⟨⟨q, rfl, by rw [← Hs.out]; omega, HN.out⟩, rfl⟩
end Go.Proofs.YthlingdlehdlhaaGreatDoor

namespace Go.Proofs.YthlingdlehdlhaaGreatDoor
open Go.RowKit Go.Shelf
open Go.Lib (trimLeftB)
set_option linter.unusedVariables false
set_option linter.unusedSimpArgs false

theorem numLeft_dw (L : List UInt8) : numLeft L = (numBody L).dropWhile digB := by
  unfold numLeft digLen
  conv => lhs; rw [← List.takeWhile_append_dropWhile (p := digB) (l := numBody L)]
  rw [List.drop_left']
  rw [List.takeWhile_append_dropWhile]

theorem numB_body (L : List UInt8) : numB L = match numBody L with | [] => false | c :: _ => digB c := by
  unfold numB numBody minusB Lib.trimPrefix Lib.hasPrefix
  by_cases h : ([194, 175] : List UInt8).isPrefixOf L = true
  · rw [if_pos h, if_pos h]; rfl
  · rw [if_neg h, if_neg h]; rfl

theorem numBody_drop (l : List UInt8) (p : Nat) : numBody (l.drop p) = l.drop (if minusB (l.drop p) = true then p + 2 else p) := by
  unfold numBody
  split
  · rw [List.drop_drop]
  · rfl

theorem minus_room {l : List UInt8} {p : Nat} (h : minusB (l.drop p) = true) : p + 2 ≤ l.length := by
  unfold minusB Lib.hasPrefix at h
  have := (List.isPrefixOf_iff_prefix.1 h).length_le
  rw [List.length_drop] at this
  simp at this
  omega

def RefIn (l : List UInt8) (L : List UInt8) (q : Nat) (st : Bool × Nat) : Prop :=
  ((l.drop q).takeWhile digB).foldl refStep st = refNum (numDigs L) ∧ (l.drop q).dropWhile digB = numLeft L

theorem RefIn.step {l L : List UInt8} {q : Nat} {st : Bool × Nat} {c : UInt8} (h : RefIn l L q st) (hd : l.drop q = c :: l.drop (q + 1)) (hc : digB c = true) : RefIn l L (q + 1) (refStep st c) := by
  obtain ⟨h1, h2⟩ := h
  rw [hd, List.takeWhile_cons, if_pos hc] at h1
  rw [hd, List.dropWhile_cons_of_pos hc] at h2
  exact ⟨h1, h2⟩
theorem RefIn.ends {l L : List UInt8} {q : Nat} {st : Bool × Nat} (h : RefIn l L q st) (hd : ∀ c r, l.drop q = c :: r → digB c = false) : st = refNum (numDigs L) ∧ l.drop q = numLeft L := by
  obtain ⟨h1, h2⟩ := h
  cases hl : l.drop q with
  | nil => rw [hl] at h1 h2; exact ⟨h1, h2⟩
  | cons c r =>
    have hc := hd c r hl
    rw [hl, List.takeWhile_cons, if_neg (by rw [hc]; simp)] at h1
    rw [hl, List.dropWhile_cons_of_neg (by rw [hc]; simp)] at h2
    exact ⟨h1, h2⟩
theorem refStep_le {st : Bool × Nat} {c : UInt8} (h : st.2 ≤ 9223372036854775809) (hc : digB c = true) : (refStep st c).2 ≤ 9223372036854775809 := by
  have := digB_iff hc
  unfold refStep
  show 10 * (if 922337203685477580 < st.2 then (false, 0) else st).2 + (c.toNat - 48) ≤ _
  split
  · show 10 * 0 + (c.toNat - 48) ≤ _; omega
  · omega

theorem refVal_neg (f : Bool) (n : Nat) : Hid (refVal true (f, n) = wrap64 (-(n : Int))) := by
  unfold refVal; rw [if_pos rfl]; exact hid rfl
theorem refVal_pos (f : Bool) (n : Nat) : Hid (refVal false (f, n) = wrap64 (n : Int)) := by
  unfold refVal; rw [if_neg (by simp)]; exact hid rfl
theorem refFits_neg (f t : Bool) (n : Nat) (h : decide ((n : Int) ≤ 9223372036854775808) = t) : Hid (refFits true (f, n) = (f && t)) := by
  unfold refFits; rw [← h, if_pos rfl]; congr 1; rw [Bool.eq_iff_iff]; simp; omega
theorem refFits_pos (f t : Bool) (n : Nat) (h : decide ((n : Int) ≤ 9223372036854775807) = t) : Hid (refFits false (f, n) = (f && t)) := by
  unfold refFits; rw [← h, if_neg (by simp)]; congr 1; rw [Bool.eq_iff_iff]; simp; omega
theorem conv_neg (n : Nat) (h : n ≤ 9223372036854775809) : IntKind.i64.wrap (IntKind.u64.wrap (-(n : Int))) = wrap64 (-(n : Int)) := by
  have e1 : (2 : Int) ^ 64 = 18446744073709551616 := by decide
  have e2 : (2 : Int) ^ (64 - 1) = 9223372036854775808 := by decide
  unfold wrap64
  simp only [IntKind.wrap, IntKind.signed, IntKind.bits, Bool.false_and, Bool.true_and, Bool.false_eq_true, if_false, decide_eq_true_eq, e1, e2]
  split <;> omega
theorem conv_pos (n : Nat) (h : n ≤ 9223372036854775809) : IntKind.i64.wrap (n : Int) = wrap64 (n : Int) := by
  have e1 : (2 : Int) ^ 64 = 18446744073709551616 := by decide
  have e2 : (2 : Int) ^ (64 - 1) = 9223372036854775808 := by decide
  unfold wrap64
  simp only [IntKind.wrap, IntKind.signed, IntKind.bits, Bool.false_and, Bool.true_and, Bool.false_eq_true, if_false, decide_eq_true_eq, e1, e2]
  split <;> omega

set_option maxRecDepth 100000 in
set_option maxHeartbeats 4000000 in
theorem rnumber_any (l : List UInt8) (p : Nat) (w : World) (hl : l.length ≤ 8000000) (hp : p ≤ l.length) :
    Calls Tryz.prog 124 #[.string (bs l), .int .i64 p] w fun e w' => ((numB (l.drop p) = false ∧ e = .returned (.tuple #[.int .i64 0, .int .i64 (-1), .bool false])) ∨
      (numB (l.drop p) = true ∧ ∃ q : Nat, q ≤ l.length ∧ l.drop q = numLeft (l.drop p) ∧
        e = .returned (.tuple #[.int .i64 (refVal (minusB (l.drop p)) (refNum (numDigs (l.drop p)))), .int .i64 q, .bool (refFits (minusB (l.drop p)) (refNum (numDigs (l.drop p))))]))) ∧ w' = w := by
  have hs : (bs l).size = l.length := bs_size l
  have hmax : ((bs l).size : Int) ≤ 8000000 := by rw [hs]; omega
  have Hbt := hid (fun k h => bt_get (bs l) k h)
  have Hdr := hid (fun k h => drop_bt l k h)
  have Hs := hid hs
  obtain ⟨L, hL⟩ : ∃ L, l.drop p = L := ⟨_, rfl⟩
  have hbody := numBody_drop l p
  have hnb := numB_body (l.drop p)
  have hroom := fun h => minus_room (l := l) (p := p) h
  rw [hL] at hbody hnb hroom ⊢
  have HL := hid hL
  have Hbody := hid hbody
  have Hnb := hid hnb
  have Hroom := hid hroom
  have Hl := hid hl
  have Hp := hid hp
  clear hL hbody hnb hroom
  have hps : p ≤ (bs l).size := by rw [hs]; exact hp
  clear hs hl
  go_enter Tryz.func124, Tryz.ntmps124
  go_wp2_with fail
  refine (begins_minus l p _ (by have := Hl.out; omega) hp).mono ?_
  rintro e w' ⟨rfl, rfl⟩
  rw [HL.out]
  clear hp
  cases hm : minusB L with
  | true =>
    obtain ⟨p1, hp1⟩ : ∃ p1 : Nat, p + 2 = p1 := ⟨_, rfl⟩
    have hpp : (p : Int) + 2 = (p1 : Int) := by omega
    have hp1l : p1 ≤ (bs l).size := by have := Hroom.out hm; rw [Hs.out]; omega
    have HB : Hid (numBody L = l.drop p1) := hid (by have := Hbody.out; rw [hm] at this; rw [this, ← hp1]; rfl)
    have HM := hid hm
    clear hm hp1
    by_cases hlt1 : p1 < (bs l).size
    · have hd : decide ((bs l).size ≤ p1) = false := by simp; omega
      have hc := Hbt.out p1 hlt1
      have hdq := Hdr.out p1 (by rw [← Hs.out]; exact hlt1)
      rw [← hc] at hdq
      have HNB : Hid (numB L = digB (bs l)[p1]) := hid (by rw [Hnb.out, HB.out, hdq])
      clear hc hdq
      go_wp2_with fail
      refine (rdigit_any (bs l)[p1] _).mono ?_
      rintro e w' ⟨rfl, rfl⟩
      cases hdg : digB (bs l)[p1] with
      | false =>
        have HN : Hid (numB L = false) := hid (by rw [HNB.out, hdg])
        clear hdg HNB
        go_wp2_with fail
        refine bodyPost_ret (results_tmp3 rfl _ _ _) rfl ?_
        exact ⟨.inl ⟨HN.out, rfl⟩, rfl⟩
      | true =>
        have HN : Hid (numB L = true) := hid (by rw [HNB.out, hdg])
        have HR : Hid (RefIn l L p1 (true, 0)) := hid ⟨by rw [← HB.out, ← numDigs_eq]; rfl, by rw [← HB.out, ← numLeft_dw]⟩
        clear hdg HNB
        go_wp2_with fail
        go_loop [1, 8, 9] (fun i n f => ∃ (q : Nat) (st1 : Bool) (st2 : Nat), q ≤ (bs l).size ∧ i = .int .i64 q ∧ n = .int .u64 st2 ∧ f = .bool st1 ∧ st2 ≤ 9223372036854775809 ∧ Hid (RefIn l L q (st1, st2))) (fun i _ _ => (bs l).size - (intOf i).toNat)
        case atStart => exact ⟨p1, true, 0, hp1l, rfl, rfl, rfl, by omega, HR⟩
        case round =>
          obtain ⟨q, st1, st2, hq, rfl, rfl, rfl, hbd, hinv⟩ := hrel
          clear hd hpp
          by_cases hlt : q < (bs l).size
          · have hd : decide ((q : Int) < ((bs l).size : Int)) = true := by simp; omega
            have hc := Hbt.out q hlt
            have hdq := Hdr.out q (by rw [← Hs.out]; exact hlt)
            rw [← hc] at hdq
            have Hdq := hid hdq
            clear hc hdq
            go_wp2_with fail
            refine (rdigit_any (bs l)[q] _).mono ?_
            rintro e w' ⟨rfl, rfl⟩
            cases hdg : digB (bs l)[q] with
            | true =>
              have h57 := digB_iff hdg
              have HI : Hid (RefIn l L (q + 1) (refStep (st1, st2) (bs l)[q])) := hid (hinv.out.step Hdq.out hdg)
              have hle := refStep_le (st := (st1, st2)) hbd hdg
              clear hinv hdg Hdq
              have c48 : (48 : Int) ≤ ((bs l)[q].toNat : Int) := by omega
              have c57 : ((bs l)[q].toNat : Int) ≤ 57 := by omega
              by_cases hn : 922337203685477580 < st2
              · have tn : decide ((922337203685477580 : Int) < (st2 : Int)) = true := by simp; omega
                have HS : Hid (refStep (st1, st2) (bs l)[q] = (false, (bs l)[q].toNat - 48)) := hid (by unfold refStep; simp only [if_pos hn]; congr 1; omega)
                rw [HS.out] at hle
                go_wp2_with fail
                go_round
                case rel => exact ⟨q + 1, false, (bs l)[q].toNat - 48, by omega, by go_num, by go_num, rfl, hle, by rw [← HS.out]; exact HI⟩
                case measure => simp [intOf]; omega
              · have tn : decide ((922337203685477580 : Int) < (st2 : Int)) = false := by simp; omega
                have HS : Hid (refStep (st1, st2) (bs l)[q] = (st1, 10 * st2 + ((bs l)[q].toNat - 48))) := hid (by unfold refStep; simp only [if_neg hn])
                rw [HS.out] at hle
                go_wp2_with fail
                go_round
                case rel => exact ⟨q + 1, st1, 10 * st2 + ((bs l)[q].toNat - 48), by omega, by go_num, by go_num, rfl, hle, by rw [← HS.out]; exact HI⟩
                case measure => simp [intOf]; omega
            | false =>
              obtain ⟨e1, e2⟩ := hinv.out.ends (fun c r e => by rw [Hdq.out] at e; cases e; exact hdg)
              have E1 := hid e1
              have E2 := hid e2
              clear hinv hdg Hdq e1 e2
              have ht : ∃ t : Bool, decide ((st2 : Int) ≤ 9223372036854775808) = t := ⟨_, rfl⟩
              obtain ⟨t, ht⟩ := ht
              have Ht := refFits_neg st1 t st2 ht
              have Hv := refVal_neg st1 st2
              have hw := conv_neg st2 hbd
              cases st1
              all_goals cases t
              all_goals
                go_wp2_with fail
                refine bodyPost_ret (results_tmp3 rfl _ _ _) rfl ?_
                exact ⟨.inr ⟨HN.out, q, by rw [← Hs.out]; omega, E2.out, by rw [HM.out, ← E1.out, Ht.out, Hv.out]; rfl⟩, rfl⟩
          · have hd : decide ((q : Int) < ((bs l).size : Int)) = false := by simp; omega
            obtain ⟨e1, e2⟩ := hinv.out.ends (fun c r e => by rw [List.drop_eq_nil_of_le (by rw [← Hs.out]; omega)] at e; cases e)
            have E1 := hid e1
            have E2 := hid e2
            clear hinv e1 e2
            have ht : ∃ t : Bool, decide ((st2 : Int) ≤ 9223372036854775808) = t := ⟨_, rfl⟩
            obtain ⟨t, ht⟩ := ht
            have Ht := refFits_neg st1 t st2 ht
            have Hv := refVal_neg st1 st2
            have hw := conv_neg st2 hbd
            cases st1
            all_goals cases t
            all_goals
              go_wp2_with fail
              refine bodyPost_ret (results_tmp3 rfl _ _ _) rfl ?_
              exact ⟨.inr ⟨HN.out, q, by rw [← Hs.out]; omega, E2.out, by rw [HM.out, ← E1.out, Ht.out, Hv.out]; rfl⟩, rfl⟩
    · have hd : decide ((bs l).size ≤ p1) = true := by simp; omega
      have HN : Hid (numB L = false) := hid (by rw [Hnb.out, HB.out, List.drop_eq_nil_of_le (by rw [← Hs.out]; omega)])
      go_wp2_with fail
      refine bodyPost_ret (results_tmp3 rfl _ _ _) rfl ?_
      exact ⟨.inl ⟨HN.out, rfl⟩, rfl⟩
  | false =>
    obtain ⟨p1, hp1⟩ : ∃ p1 : Nat, p = p1 := ⟨_, rfl⟩
    have hpp : (p : Int) = (p1 : Int) := by omega
    have hp1l : p1 ≤ (bs l).size := by omega
    have HB : Hid (numBody L = l.drop p1) := hid (by have := Hbody.out; rw [hm] at this; rw [this, ← hp1]; rfl)
    have HM := hid hm
    clear hm hp1
    by_cases hlt1 : p1 < (bs l).size
    · have hd : decide ((bs l).size ≤ p1) = false := by simp; omega
      have hc := Hbt.out p1 hlt1
      have hdq := Hdr.out p1 (by rw [← Hs.out]; exact hlt1)
      rw [← hc] at hdq
      have HNB : Hid (numB L = digB (bs l)[p1]) := hid (by rw [Hnb.out, HB.out, hdq])
      clear hc hdq
      go_wp2_with fail
      refine (rdigit_any (bs l)[p1] _).mono ?_
      rintro e w' ⟨rfl, rfl⟩
      cases hdg : digB (bs l)[p1] with
      | false =>
        have HN : Hid (numB L = false) := hid (by rw [HNB.out, hdg])
        clear hdg HNB
        go_wp2_with fail
        refine bodyPost_ret (results_tmp3 rfl _ _ _) rfl ?_
        exact ⟨.inl ⟨HN.out, rfl⟩, rfl⟩
      | true =>
        have HN : Hid (numB L = true) := hid (by rw [HNB.out, hdg])
        have HR : Hid (RefIn l L p1 (true, 0)) := hid ⟨by rw [← HB.out, ← numDigs_eq]; rfl, by rw [← HB.out, ← numLeft_dw]⟩
        clear hdg HNB
        go_wp2_with fail
        go_loop [1, 8, 9] (fun i n f => ∃ (q : Nat) (st1 : Bool) (st2 : Nat), q ≤ (bs l).size ∧ i = .int .i64 q ∧ n = .int .u64 st2 ∧ f = .bool st1 ∧ st2 ≤ 9223372036854775809 ∧ Hid (RefIn l L q (st1, st2))) (fun i _ _ => (bs l).size - (intOf i).toNat)
        case atStart => exact ⟨p1, true, 0, hp1l, rfl, rfl, rfl, by omega, HR⟩
        case round =>
          obtain ⟨q, st1, st2, hq, rfl, rfl, rfl, hbd, hinv⟩ := hrel
          clear hd hpp
          by_cases hlt : q < (bs l).size
          · have hd : decide ((q : Int) < ((bs l).size : Int)) = true := by simp; omega
            have hc := Hbt.out q hlt
            have hdq := Hdr.out q (by rw [← Hs.out]; exact hlt)
            rw [← hc] at hdq
            have Hdq := hid hdq
            clear hc hdq
            go_wp2_with fail
            refine (rdigit_any (bs l)[q] _).mono ?_
            rintro e w' ⟨rfl, rfl⟩
            cases hdg : digB (bs l)[q] with
            | true =>
              have h57 := digB_iff hdg
              have HI : Hid (RefIn l L (q + 1) (refStep (st1, st2) (bs l)[q])) := hid (hinv.out.step Hdq.out hdg)
              have hle := refStep_le (st := (st1, st2)) hbd hdg
              clear hinv hdg Hdq
              have c48 : (48 : Int) ≤ ((bs l)[q].toNat : Int) := by omega
              have c57 : ((bs l)[q].toNat : Int) ≤ 57 := by omega
              by_cases hn : 922337203685477580 < st2
              · have tn : decide ((922337203685477580 : Int) < (st2 : Int)) = true := by simp; omega
                have HS : Hid (refStep (st1, st2) (bs l)[q] = (false, (bs l)[q].toNat - 48)) := hid (by unfold refStep; simp only [if_pos hn]; congr 1; omega)
                rw [HS.out] at hle
                go_wp2_with fail
                go_round
                case rel => exact ⟨q + 1, false, (bs l)[q].toNat - 48, by omega, by go_num, by go_num, rfl, hle, by rw [← HS.out]; exact HI⟩
                case measure => simp [intOf]; omega
              · have tn : decide ((922337203685477580 : Int) < (st2 : Int)) = false := by simp; omega
                have HS : Hid (refStep (st1, st2) (bs l)[q] = (st1, 10 * st2 + ((bs l)[q].toNat - 48))) := hid (by unfold refStep; simp only [if_neg hn])
                rw [HS.out] at hle
                go_wp2_with fail
                go_round
                case rel => exact ⟨q + 1, st1, 10 * st2 + ((bs l)[q].toNat - 48), by omega, by go_num, by go_num, rfl, hle, by rw [← HS.out]; exact HI⟩
                case measure => simp [intOf]; omega
            | false =>
              obtain ⟨e1, e2⟩ := hinv.out.ends (fun c r e => by rw [Hdq.out] at e; cases e; exact hdg)
              have E1 := hid e1
              have E2 := hid e2
              clear hinv hdg Hdq e1 e2
              have ht : ∃ t : Bool, decide ((st2 : Int) ≤ 9223372036854775807) = t := ⟨_, rfl⟩
              obtain ⟨t, ht⟩ := ht
              have Ht := refFits_pos st1 t st2 ht
              have Hv := refVal_pos st1 st2
              have hw := conv_pos st2 hbd
              cases st1
              all_goals cases t
              all_goals
                go_wp2_with fail
                refine bodyPost_ret (results_tmp3 rfl _ _ _) rfl ?_
                exact ⟨.inr ⟨HN.out, q, by rw [← Hs.out]; omega, E2.out, by rw [HM.out, ← E1.out, Ht.out, Hv.out]; rfl⟩, rfl⟩
          · have hd : decide ((q : Int) < ((bs l).size : Int)) = false := by simp; omega
            obtain ⟨e1, e2⟩ := hinv.out.ends (fun c r e => by rw [List.drop_eq_nil_of_le (by rw [← Hs.out]; omega)] at e; cases e)
            have E1 := hid e1
            have E2 := hid e2
            clear hinv e1 e2
            have ht : ∃ t : Bool, decide ((st2 : Int) ≤ 9223372036854775807) = t := ⟨_, rfl⟩
            obtain ⟨t, ht⟩ := ht
            have Ht := refFits_pos st1 t st2 ht
            have Hv := refVal_pos st1 st2
            have hw := conv_pos st2 hbd
            cases st1
            all_goals cases t
            all_goals
              go_wp2_with fail
              refine bodyPost_ret (results_tmp3 rfl _ _ _) rfl ?_
              exact ⟨.inr ⟨HN.out, q, by rw [← Hs.out]; omega, E2.out, by rw [HM.out, ← E1.out, Ht.out, Hv.out]; rfl⟩, rfl⟩
    · have hd : decide ((bs l).size ≤ p1) = true := by simp; omega
      have HN : Hid (numB L = false) := hid (by rw [Hnb.out, HB.out, List.drop_eq_nil_of_le (by rw [← Hs.out]; omega)])
      go_wp2_with fail
      refine bodyPost_ret (results_tmp3 rfl _ _ _) rfl ?_
      exact ⟨.inl ⟨HN.out, rfl⟩, rfl⟩
end Go.Proofs.YthlingdlehdlhaaGreatDoor
