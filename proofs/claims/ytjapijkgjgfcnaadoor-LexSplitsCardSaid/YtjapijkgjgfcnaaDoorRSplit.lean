/- The reference's Split. -/
import Derived.Test.YtjapijkgjgfcnaaDoorLexSplit
import Derived.Test.YtjapijkgjgfcnaaDoorRSplit0
namespace Go.Proofs.YtjapijkgjgfcnaaDoor
open Go.RowKit Go.Shelf
set_option linter.unusedVariables false

/-- What the reference holds at byte i. -/
def RS (s : ByteArray) (w : World) (v p q d ix : Value) (wr : World) : Prop :=
  ∃ i : Nat, i ≤ s.size ∧ endOf (cutsTo s i) ≤ i ∧ p = .string (s.extract (endOf (cutsTo s i)) i) ∧ q = .bool (stAt s i).1 ∧ d = .int .i64 ((stAt s i).2 : Nat) ∧ ix = .int .i64 i ∧
    wr.ownsRow w.heap.size 9 1 v (outOf s (cutsTo s i) 0).length ((outOf s (cutsTo s i) 0).map Value.string) ∧ Below w.heap.size w wr

theorem RS.step {s : ByteArray} {w wr : World} {v : Value} {i : Nat} {q d : Value} (hi : i < s.size) (he : endOf (cutsTo s i) ≤ i) (h0 : cutAt s i = 0) (hq : q = .bool (stAt s (i + 1)).1) (hd : d = .int .i64 ((stAt s (i + 1)).2 : Nat))
    (hr : wr.ownsRow w.heap.size 9 1 v (outOf s (cutsTo s i) 0).length ((outOf s (cutsTo s i) 0).map Value.string)) (hB : Below w.heap.size w wr) :
    RS s w v (.string (s.extract (endOf (cutsTo s i)) i ++ s.extract i (i + 1))) q d (.int .i64 ((i : Int) + 1)) wr := by
  refine ⟨i + 1, by omega, ?_, ?_, hq, hd, rfl, ?_, hB⟩
  · rw [cuts_stay s i h0]; omega
  · rw [cuts_stay s i h0, extract_snoc s _ i he hi]
  · rw [cuts_stay s i h0]; exact hr

theorem RS.cut {s : ByteArray} {w wr : World} {v : Value} {i c : Nat} {q d ix : Value} (hi : i + c ≤ s.size) (hc : cutAt s i = c) (h1 : c = 1 ∨ c = 3) (hq : q = .bool (stAt s i).1) (hd : d = .int .i64 ((stAt s i).2 : Nat)) (hq1 : (stAt s i).1 = false) (hd1 : (stAt s i).2 = 0) (hix : ix = .int .i64 ((i + c : Nat) : Int))
    (hr : wr.ownsRow w.heap.size 9 1 v (outOf s (cutsTo s i ++ [(i, i + c)]) 0).length ((outOf s (cutsTo s i ++ [(i, i + c)]) 0).map Value.string)) (hB : Below w.heap.size w wr) :
    RS s w v (.string ⟨#[]⟩) q d ix wr := by
  have hcuts : cutsTo s (i + c) = cutsTo s i ++ [(i, i + c)] := by
    rcases h1 with rfl | rfl
    · rw [cutsTo, if_neg (by omega), hc]
    · exact cuts_dia s i hc
  have hst : stAt s (i + c) = stAt s i := by
    rcases h1 with rfl | rfl
    · rw [stAt]
      have hb : bt s i = 10 := by
        unfold cutAt at hc
        split at hc
        · omega
        · split at hc
          · assumption
          · split at hc <;> omega
      rw [hb, stepSt_plain _ _ _ (by decide)]
    · exact st_dia s i (cut_three s i hc)
  refine ⟨i + c, hi, ?_, ?_, by rw [hst]; exact hq, by rw [hst]; exact hd, hix, ?_, hB⟩
  · rw [hcuts, endOf_snoc]; exact Nat.le_refl _
  · rw [hcuts, endOf_snoc]; simp only []; rw [extract_self]; rfl
  · rw [hcuts]; exact hr

set_option maxRecDepth 100000 in
set_option maxHeartbeats 4000000 in
theorem rsplit_any (s : ByteArray) (w : World) (hs : s.size ≤ 1000000) : Calls Tryd.prog 31 #[.string s] w (RetStrs w (splitOf s)) := by
  obtain ⟨i0, hi, hz0, hz1, hz2⟩ := info_parts Tryd.infoStr
  go_enter Tryd.func31, Tryd.ntmps31
  go_wp2_with fail
  go_loopw [3, 4, 5, 6, 7] (fun v p q d ix wr => RS s w v p q d ix wr) (fun _ _ _ _ ix _ => s.size - (intOf ix).toNat)
  case atStart => exact ⟨0, by omega, by simp [cutsTo, endOf], by rw [show cutsTo s 0 = [] from rfl, endOf_nil, extract_self]; rfl, rfl, rfl, rfl, World.ownsRow_nil _ _ _ _, Below.refl _ _⟩
  case round =>
    obtain ⟨i, hk, hend, rfl, rfl, rfl, rfl, hrow, hB⟩ := hrel
    have hpsz : (s.extract (endOf (cutsTo s i)) i).size ≤ 1000000 := by rw [ByteArray.size_extract]; omega
    have hLl := outOf_len s (cutsTo s i) 0
    have hLl2 := cutsTo_length_le s i
    by_cases hlt : i < s.size
    · have hg := bt_get s i hlt
      have hst : stAt s (i + 1) = stepSt s[i] (stAt s i).1 (stAt s i).2 := by rw [hg]; rfl
      have hcut : cutAt s i = if (stAt s i).1 = true ∨ (stAt s i).2 ≠ 0 then 0 else if s[i] = 10 then 1 else if diaAt s i = true then 3 else 0 := by rw [hg]; rfl
      have hdl := deep_le s i
      have hd : decide ((i : Int) < (s.size : Int)) = true := by simp; omega
      have hi1 : (i : Int) + 1 ≤ (s.size : Int) := by omega
      have hi2 : (i : Int) ≤ (i : Int) + 1 := by omega
      have hbyte : ∀ b : UInt8, ((s[i].toNat : Int) == (b.toNat : Int)) = decide (s[i] = b) := fun b => by
        rw [Bool.eq_iff_iff, beq_iff_eq, decide_eq_true_eq, ← UInt8.toNat_inj]; omega
      have Hb := hid hbyte
      have Hend := hid hend
      rcases cut_cases s i with h0 | h1 | h3
      · have Hstep := fun (v q d : Value) wr hq hd hr hB => RS.step (w := w) (wr := wr) (v := v) (q := q) (d := d) hlt hend h0 hq hd hr hB
        have HS := hid Hstep
        have Hst := hid hst
        have Hcut := hid hcut
        have H0 := hid h0
        have Hrow := hid hrow
        clear hst hcut hg h0 Hstep hbyte hend hrow hLl hLl2
        generalize s.extract (endOf (cutsTo s i)) i = pc at *
        generalize hq : (stAt s i).1 = q at *
        generalize hdd : (stAt s i).2 = d at *
        clear hq hdd
        cases q
        case true =>
          by_cases h39 : s[i] = 39
          · have h123 : s[i] ≠ 123 := by rw [h39]; decide
            have h125 : s[i] ≠ 125 := by rw [h39]; decide
            have t39 : ((s[i].toNat : Int) == 39) = true := (Hb.out 39).trans (decide_eq_true h39)
            have t123 : ((s[i].toNat : Int) == 123) = false := (Hb.out 123).trans (decide_eq_false h123)
            have t125 : ((s[i].toNat : Int) == 125) = false := (Hb.out 125).trans (decide_eq_false h125)
            have Hnew : Hid (stAt s (i + 1) = (false, d)) := hid (by rw [Hst.out, stepSt, if_pos h39]; rfl)
            clear h39 h123 h125
            go_wp2_with (go_at_call 51; refine (begins_dia s i _ (by omega) (by omega)).mono ?_; rintro e w' ⟨rfl, rfl⟩)
            go_roundw
            case rel => exact HS.out _ _ _ _ (by rw [Hnew.out] <;> rfl) (by rw [Hnew.out] <;> first | rfl | go_num) Hrow.out hB
            case measure => simp [intOf]; omega
          have h123 : True := trivial
          have h125 : True := trivial
          have t39 : ((s[i].toNat : Int) == 39) = false := (Hb.out 39).trans (decide_eq_false h39)
          have Hnew : Hid (stAt s (i + 1) = (true, d)) := hid (by rw [Hst.out, stepSt, if_neg h39, if_pos rfl])
          clear h39 h123 h125
          go_wp2_with (go_at_call 51; refine (begins_dia s i _ (by omega) (by omega)).mono ?_; rintro e w' ⟨rfl, rfl⟩)
          go_roundw
          case rel => exact HS.out _ _ _ _ (by rw [Hnew.out] <;> rfl) (by rw [Hnew.out] <;> first | rfl | go_num) Hrow.out hB
          case measure => simp [intOf]; omega
        by_cases hd0 : d = 0
        · subst hd0
          have h10 : s[i] ≠ 10 := by
            intro e
            have h0 := H0.out
            rw [Hcut.out, if_neg (by simp), if_pos e] at h0; omega
          have hdn : diaAt s i = false := by
            cases hdv : diaAt s i
            · rfl
            · have h0 := H0.out
              rw [Hcut.out, if_neg (by simp), if_neg h10, if_pos hdv] at h0; omega
          have t10 : ((s[i].toNat : Int) == 10) = false := (Hb.out 10).trans (decide_eq_false h10)
          clear h10
          by_cases h39 : s[i] = 39
          · have h123 : s[i] ≠ 123 := by rw [h39]; decide
            have h125 : s[i] ≠ 125 := by rw [h39]; decide
            have t39 : ((s[i].toNat : Int) == 39) = true := (Hb.out 39).trans (decide_eq_true h39)
            have t123 : ((s[i].toNat : Int) == 123) = false := (Hb.out 123).trans (decide_eq_false h123)
            have t125 : ((s[i].toNat : Int) == 125) = false := (Hb.out 125).trans (decide_eq_false h125)
            have Hnew : Hid (stAt s (i + 1) = (true, 0)) := hid (by rw [Hst.out, stepSt, if_pos h39]; rfl)
            clear h39 h123 h125
            go_wp2_with (go_at_call 51; refine (begins_dia s i _ (by omega) (by omega)).mono ?_; rintro e w' ⟨rfl, rfl⟩)
            go_roundw
            case rel => exact HS.out _ _ _ _ (by rw [Hnew.out] <;> rfl) (by rw [Hnew.out] <;> first | rfl | go_num) Hrow.out hB
            case measure => simp [intOf]; omega
          by_cases h123 : s[i] = 123
          · have h125 : s[i] ≠ 125 := by rw [h123]; decide
            have t39 : ((s[i].toNat : Int) == 39) = false := (Hb.out 39).trans (decide_eq_false h39)
            have t123 : ((s[i].toNat : Int) == 123) = true := (Hb.out 123).trans (decide_eq_true h123)
            have t125 : ((s[i].toNat : Int) == 125) = false := (Hb.out 125).trans (decide_eq_false h125)
            have Hnew : Hid (stAt s (i + 1) = (false, 0 + 1)) := hid (by rw [Hst.out, stepSt, if_neg h39, if_neg (by simp), if_pos h123])
            clear h39 h123 h125
            go_wp2_with (go_at_call 51; refine (begins_dia s i _ (by omega) (by omega)).mono ?_; rintro e w' ⟨rfl, rfl⟩)
            go_roundw
            case rel => exact HS.out _ _ _ _ (by rw [Hnew.out] <;> rfl) (by rw [Hnew.out] <;> first | rfl | go_num) Hrow.out hB
            case measure => simp [intOf]; omega
          by_cases h125 : s[i] = 125
          · have td : True := trivial
            have t39 : ((s[i].toNat : Int) == 39) = false := (Hb.out 39).trans (decide_eq_false h39)
            have t123 : ((s[i].toNat : Int) == 123) = false := (Hb.out 123).trans (decide_eq_false h123)
            have t125 : ((s[i].toNat : Int) == 125) = true := (Hb.out 125).trans (decide_eq_true h125)
            have Hnew : Hid (stAt s (i + 1) = (false, 0)) := hid (by rw [Hst.out, stepSt, if_neg h39, if_neg (by simp), if_neg h123, if_pos h125])
            clear h39 h123 h125
            go_wp2_with (go_at_call 51; refine (begins_dia s i _ (by omega) (by omega)).mono ?_; rintro e w' ⟨rfl, rfl⟩)
            go_roundw
            case rel => exact HS.out _ _ _ _ (by rw [Hnew.out] <;> rfl) (by rw [Hnew.out] <;> first | rfl | go_num) Hrow.out hB
            case measure => simp [intOf]; omega
          have t39 : ((s[i].toNat : Int) == 39) = false := (Hb.out 39).trans (decide_eq_false h39)
          have t123 : ((s[i].toNat : Int) == 123) = false := (Hb.out 123).trans (decide_eq_false h123)
          have t125 : ((s[i].toNat : Int) == 125) = false := (Hb.out 125).trans (decide_eq_false h125)
          have Hnew : Hid (stAt s (i + 1) = (false, 0)) := hid (by rw [Hst.out, stepSt, if_neg h39, if_neg (by simp), if_neg h123, if_neg h125])
          clear h39 h123 h125
          go_wp2_with (go_at_call 51; refine (begins_dia s i _ (by omega) (by omega)).mono ?_; rintro e w' ⟨rfl, rfl⟩)
          go_roundw
          case rel => exact HS.out _ _ _ _ (by rw [Hnew.out] <;> rfl) (by rw [Hnew.out] <;> first | rfl | go_num) Hrow.out hB
          case measure => simp [intOf]; omega
        have tdz : ((d : Int) == 0) = false := by rw [beq_eq_false_iff_ne]; omega
        have tdp : (0 : Int) < (d : Int) := by omega
        have eds : ((d - 1 : Nat) : Int) = (d : Int) - 1 := by omega
        have Heds := hid eds
        clear hd0 eds
        by_cases h39 : s[i] = 39
        · have h123 : s[i] ≠ 123 := by rw [h39]; decide
          have h125 : s[i] ≠ 125 := by rw [h39]; decide
          have t39 : ((s[i].toNat : Int) == 39) = true := (Hb.out 39).trans (decide_eq_true h39)
          have t123 : ((s[i].toNat : Int) == 123) = false := (Hb.out 123).trans (decide_eq_false h123)
          have t125 : ((s[i].toNat : Int) == 125) = false := (Hb.out 125).trans (decide_eq_false h125)
          have Hnew : Hid (stAt s (i + 1) = (true, d)) := hid (by rw [Hst.out, stepSt, if_pos h39]; rfl)
          clear h39 h123 h125
          go_wp2_with (go_at_call 51; refine (begins_dia s i _ (by omega) (by omega)).mono ?_; rintro e w' ⟨rfl, rfl⟩)
          go_roundw
          case rel => exact HS.out _ _ _ _ (by rw [Hnew.out] <;> rfl) (by rw [Hnew.out] <;> first | rfl | go_num) Hrow.out hB
          case measure => simp [intOf]; omega
        by_cases h123 : s[i] = 123
        · have h125 : s[i] ≠ 125 := by rw [h123]; decide
          have t39 : ((s[i].toNat : Int) == 39) = false := (Hb.out 39).trans (decide_eq_false h39)
          have t123 : ((s[i].toNat : Int) == 123) = true := (Hb.out 123).trans (decide_eq_true h123)
          have t125 : ((s[i].toNat : Int) == 125) = false := (Hb.out 125).trans (decide_eq_false h125)
          have Hnew : Hid (stAt s (i + 1) = (false, d + 1)) := hid (by rw [Hst.out, stepSt, if_neg h39, if_neg (by simp), if_pos h123])
          clear h39 h123 h125
          go_wp2_with (go_at_call 51; refine (begins_dia s i _ (by omega) (by omega)).mono ?_; rintro e w' ⟨rfl, rfl⟩)
          go_roundw
          case rel => exact HS.out _ _ _ _ (by rw [Hnew.out] <;> rfl) (by rw [Hnew.out] <;> first | rfl | go_num) Hrow.out hB
          case measure => simp [intOf]; omega
        by_cases h125 : s[i] = 125
        · have td : True := trivial
          have t39 : ((s[i].toNat : Int) == 39) = false := (Hb.out 39).trans (decide_eq_false h39)
          have t123 : ((s[i].toNat : Int) == 123) = false := (Hb.out 123).trans (decide_eq_false h123)
          have t125 : ((s[i].toNat : Int) == 125) = true := (Hb.out 125).trans (decide_eq_true h125)
          have Hnew : Hid (stAt s (i + 1) = (false, d - 1)) := hid (by rw [Hst.out, stepSt, if_neg h39, if_neg (by simp), if_neg h123, if_pos h125])
          clear h39 h123 h125
          go_wp2_with (go_at_call 51; refine (begins_dia s i _ (by omega) (by omega)).mono ?_; rintro e w' ⟨rfl, rfl⟩)
          go_roundw
          case rel => exact HS.out _ _ _ _ (by rw [Hnew.out] <;> rfl) (by rw [Hnew.out] <;> first | rfl | go_num) Hrow.out hB
          case measure => simp [intOf]; omega
        have t39 : ((s[i].toNat : Int) == 39) = false := (Hb.out 39).trans (decide_eq_false h39)
        have t123 : ((s[i].toNat : Int) == 123) = false := (Hb.out 123).trans (decide_eq_false h123)
        have t125 : ((s[i].toNat : Int) == 125) = false := (Hb.out 125).trans (decide_eq_false h125)
        have Hnew : Hid (stAt s (i + 1) = (false, d)) := hid (by rw [Hst.out, stepSt, if_neg h39, if_neg (by simp), if_neg h123, if_neg h125])
        clear h39 h123 h125
        go_wp2_with (go_at_call 51; refine (begins_dia s i _ (by omega) (by omega)).mono ?_; rintro e w' ⟨rfl, rfl⟩)
        go_roundw
        case rel => exact HS.out _ _ _ _ (by rw [Hnew.out] <;> rfl) (by rw [Hnew.out] <;> first | rfl | go_num) Hrow.out hB
        case measure => simp [intOf]; omega
      · -- the end of a line
        have hcut' := hcut
        rw [h1] at hcut'
        have hq : (stAt s i).1 = false ∧ (stAt s i).2 = 0 := by
          split at hcut'
          · omega
          · rename_i h; exact ⟨by simpa using (not_or.1 h).1, by have := (not_or.1 h).2; omega⟩
        obtain ⟨hq1, hq2⟩ := hq
        have hq3 : s[i] = 10 := by
          rw [if_neg (by simp [hq1, hq2])] at hcut'
          split at hcut'
          · assumption
          · split at hcut' <;> omega
        have hdn : diaAt s i = false := by
          cases hdv : diaAt s i
          · rfl
          · have h226 := (dia_bytes s i hdv).2.1
            rw [← hg, hq3] at h226
            exact absurd h226 (by decide)
        have t10 : ((s[i].toNat : Int) == 10) = true := (Hb.out 10).trans (decide_eq_true hq3)
        clear hq3
        have Hq1 := hid hq1
        have Hq2 := hid hq2
        have Hout := hid (outOf_snoc' s (cutsTo s i) (i, i + 1))
        have HC := hid (fun (v : Value) wr (ix : Value) hix hr hB => RS.cut (w := w) (wr := wr) (v := v) (q := .bool false) (d := .int .i64 0) (ix := ix) (by omega) h1 (by omega) (by rw [hq1]) (by rw [hq2]; rfl) hq1 hq2 hix hr hB)
        rw [hq1, hq2, show ((0 : Nat) : Int) = 0 from rfl]
        simp only [] at Hout
        clear hst hcut hcut' hg h1 hq1 hq2 hbyte hend Hend hdl
        generalize s.extract (endOf (cutsTo s i)) i = pc at *
        generalize hL : outOf s (cutsTo s i) 0 = L at *
        clear hL
        have Hrow := hid hrow
        have hBs := hB.size
        cases hbl : blankB pc
        · have HL : Hid (outOf s (cutsTo s i ++ [(i, i + 1)]) 0 = L ++ [pc]) := hid (by rw [Hout.out, hbl]; rfl)
          go_wp2_with first | (go_at_call 51; refine (begins_dia s i _ (by omega) (by omega)).mono ?_; rintro e w' ⟨rfl, rfl⟩) | (go_at_call 52; refine (blank_any pc _ (by omega)).mono ?_; rintro e w' ⟨rfl, rfl⟩; rw [hbl]) | (at_builtin; go_must (refine wpList_append_own _ rfl _ _ 51 rfl w.heap.size 9 i0 (.string ⟨#[]⟩) 1 16 Tryd.underlying51 hi hz0 hz1 hz2 rfl (by decide) _ _ _ rfl (hrow.alloc _) ⟨wr.heap.size, 0, none⟩ 1 1 [.string pc] rfl rfl (one_new wr (.string pc) 9) (by simp [Value.oneCell']) (by simp [maxLen]; omega) (by omega) (by simp; omega) ?_); intro v' w1 hown' hgrow _; obtain ⟨g', cap', rfl⟩ := ownsRow_succ hown')
          go_roundw
          case rel => exact HC.out _ _ _ (by go_num) (by rw [HL.out, List.map_append, List.length_append]; simpa using hown') ((hB.alloc hB.size _).grown hgrow (by have := hB.size; simp; omega) (fun k e => (Hrow.out.lt k e).1))
          case measure => simp [intOf]; omega
        · have HL : Hid (outOf s (cutsTo s i ++ [(i, i + 1)]) 0 = L) := hid (by rw [Hout.out, hbl]; simp)
          go_wp2_with first | (go_at_call 51; refine (begins_dia s i _ (by omega) (by omega)).mono ?_; rintro e w' ⟨rfl, rfl⟩) | (go_at_call 52; refine (blank_any pc _ (by omega)).mono ?_; rintro e w' ⟨rfl, rfl⟩; rw [hbl])
          go_wp2_with fail
          go_roundw
          case rel => exact HC.out _ _ _ (by go_num) (by rw [HL.out]; exact Hrow.out) hB
          case measure => simp [intOf]; omega
      · -- a diamond
        have hcut' := hcut
        rw [h3] at hcut'
        have hq : (stAt s i).1 = false ∧ (stAt s i).2 = 0 := by
          split at hcut'
          · omega
          · rename_i h; exact ⟨by simpa using (not_or.1 h).1, by have := (not_or.1 h).2; omega⟩
        obtain ⟨hq1, hq2⟩ := hq
        have hdn := cut_three s i h3
        obtain ⟨hsz, hb226, _, _⟩ := dia_bytes s i hdn
        rw [← hg] at hb226
        have t10 : ((s[i].toNat : Int) == 10) = false := (Hb.out 10).trans (decide_eq_false (by rw [hb226]; decide))
        clear hb226
        have Hq1 := hid hq1
        have Hq2 := hid hq2
        have Hout := hid (outOf_snoc' s (cutsTo s i) (i, i + 3))
        have HC := hid (fun (v : Value) wr (ix : Value) hix hr hB => RS.cut (w := w) (wr := wr) (v := v) (q := .bool false) (d := .int .i64 0) (ix := ix) (by omega) h3 (by omega) (by rw [hq1]) (by rw [hq2]; rfl) hq1 hq2 hix hr hB)
        rw [hq1, hq2, show ((0 : Nat) : Int) = 0 from rfl]
        simp only [] at Hout
        clear hst hcut hcut' hg h3 hq1 hq2 hbyte hend Hend hdl
        generalize s.extract (endOf (cutsTo s i)) i = pc at *
        generalize hL : outOf s (cutsTo s i) 0 = L at *
        clear hL
        have Hrow := hid hrow
        have hBs := hB.size
        cases hbl : blankB pc
        · have HL : Hid (outOf s (cutsTo s i ++ [(i, i + 3)]) 0 = L ++ [pc]) := hid (by rw [Hout.out, hbl]; rfl)
          go_wp2_with first | (go_at_call 51; refine (begins_dia s i _ (by omega) (by omega)).mono ?_; rintro e w' ⟨rfl, rfl⟩) | (go_at_call 52; refine (blank_any pc _ (by omega)).mono ?_; rintro e w' ⟨rfl, rfl⟩; rw [hbl]) | (at_builtin; go_must (refine wpList_append_own _ rfl _ _ 51 rfl w.heap.size 9 i0 (.string ⟨#[]⟩) 1 16 Tryd.underlying51 hi hz0 hz1 hz2 rfl (by decide) _ _ _ rfl (hrow.alloc _) ⟨wr.heap.size, 0, none⟩ 1 1 [.string pc] rfl rfl (one_new wr (.string pc) 9) (by simp [Value.oneCell']) (by simp [maxLen]; omega) (by omega) (by simp; omega) ?_); intro v' w1 hown' hgrow _; obtain ⟨g', cap', rfl⟩ := ownsRow_succ hown')
          go_roundw
          case rel => exact HC.out _ _ _ (by go_num) (by rw [HL.out, List.map_append, List.length_append]; simpa using hown') ((hB.alloc hB.size _).grown hgrow (by have := hB.size; simp; omega) (fun k e => (Hrow.out.lt k e).1))
          case measure => simp [intOf]; omega
        · have HL : Hid (outOf s (cutsTo s i ++ [(i, i + 3)]) 0 = L) := hid (by rw [Hout.out, hbl]; simp)
          go_wp2_with first | (go_at_call 51; refine (begins_dia s i _ (by omega) (by omega)).mono ?_; rintro e w' ⟨rfl, rfl⟩) | (go_at_call 52; refine (blank_any pc _ (by omega)).mono ?_; rintro e w' ⟨rfl, rfl⟩; rw [hbl])
          go_wp2_with fail
          go_roundw
          case rel => exact HC.out _ _ _ (by go_num) (by rw [HL.out]; exact Hrow.out) hB
          case measure => simp [intOf]; omega
    · obtain rfl : i = s.size := by omega
      have hd : decide ((s.size : Int) < (s.size : Int)) = false := by simp
      have Hout := hid (outOf_snoc' s (cutsTo s s.size) (s.size, s.size))
      simp only [] at Hout
      have Hall := hid (show splitOf s = outOf s (cutsTo s s.size ++ [(s.size, s.size)]) 0 from rfl)
      generalize s.extract (endOf (cutsTo s s.size)) s.size = pc at *
      generalize hL : outOf s (cutsTo s s.size) 0 = L at *
      clear hL hend
      have Hrow := hid hrow
      have hBs := hB.size
      cases hbl : blankB pc
      · have HL : Hid (splitOf s = L ++ [pc]) := hid (by rw [Hall.out, Hout.out, hbl]; rfl)
        go_wp2_with first | (go_at_call 52; refine (blank_any pc _ (by omega)).mono ?_; rintro e w' ⟨rfl, rfl⟩; rw [hbl]) | (at_builtin; go_must (refine wpList_append_own _ rfl _ _ 51 rfl w.heap.size 9 i0 (.string ⟨#[]⟩) 1 16 Tryd.underlying51 hi hz0 hz1 hz2 rfl (by decide) _ _ _ rfl (hrow.alloc _) ⟨wr.heap.size, 0, none⟩ 1 1 [.string pc] rfl rfl (one_new wr (.string pc) 9) (by simp [Value.oneCell']) (by simp [maxLen]; omega) (by omega) (by simp; omega) ?_); intro v' w1 hown' hgrow _; obtain ⟨g', cap', rfl⟩ := ownsRow_succ hown')
        go_ret
        exact ⟨_, rfl, by rw [HL.out, List.map_append, List.length_append]; simpa using hown', (hB.alloc hB.size _).grown hgrow (by have := hB.size; simp; omega) (fun k e => (Hrow.out.lt k e).1)⟩
      · have HL : Hid (splitOf s = L) := hid (by rw [Hall.out, Hout.out, hbl]; simp)
        go_wp2_with (go_at_call 52; refine (blank_any pc _ (by omega)).mono ?_; rintro e w' ⟨rfl, rfl⟩; rw [hbl])
        go_ret
        exact ⟨_, rfl, by rw [HL.out]; exact Hrow.out, hB⟩

end Go.Proofs.YtjapijkgjgfcnaaDoor
