/- lex.cuts: where a program is cut. -/
import Derived.Test.YtjapijkgjgfcnaaDoorShelf
import Derived.Test.YtjapijkgjgfcnaaDoorLexSmall
import Derived.Test.YtjapijkgjgfcnaaDoorRound
namespace Go.Proofs.YtjapijkgjgfcnaaDoor
open Go.RowKit Go.Shelf
set_option linter.unusedVariables false
attribute [local go_sem] Oper.semAt_some

theorem deep_le (s : ByteArray) (k : Nat) : (stAt s k).2 ≤ k := by
  induction k with
  | zero => simp [stAt]
  | succ k ih =>
    rw [stAt]
    unfold stepSt
    split
    · simp; omega
    · split
      · simp; omega
      · split
        · simp; omega
        · split <;> simp <;> omega

theorem drop_extract (s : ByteArray) (k : Nat) : (s.extract k s.size).data.toList = s.data.toList.drop k := by
  rw [ByteArray.data_extract, Array.toList_extract]
  have hs : s.data.toList.length = s.size := by rw [Array.length_toList]; rfl
  rw [List.extract_eq_take_drop, ← hs]
  rw [List.take_of_length_le (by simp)]

def cutEnc (s : ByteArray) (k : Nat) : Array Value := #[.int .i64 (((allCuts s)[k]?.getD (0, 0)).1 : Nat), .int .i64 (((allCuts s)[k]?.getD (0, 0)).2 : Nat)]

theorem cutEnc_at (s : ByteArray) (k : Nat) (hk : k < s.size) (h : cutAt s k ≠ 0) : (cutsTo s k).length < (allCuts s).length ∧ cutEnc s (cutsTo s k).length = #[.int .i64 (k : Int), .int .i64 ((k + cutAt s k : Nat) : Int)] := by
  obtain ⟨t, ht⟩ := cutsTo_take s (k + 1) s.size (by omega)
  have ha : allCuts s = cutsTo s k ++ ((k, k + cutAt s k) :: (t ++ [(s.size, s.size)])) := by
    unfold allCuts; rw [ht, cutsTo, if_neg h]; simp
  refine ⟨by rw [ha]; simp, ?_⟩
  unfold cutEnc
  rw [ha, List.getElem?_append_right (Nat.le_refl _), Nat.sub_self]
  simp

theorem cutEnc_end (s : ByteArray) : (cutsTo s s.size).length < (allCuts s).length ∧ (cutsTo s s.size).length + 1 = (allCuts s).length ∧ cutEnc s (cutsTo s s.size).length = #[.int .i64 (s.size : Int), .int .i64 (s.size : Int)] := by
  refine ⟨by simp [allCuts], by simp [allCuts], ?_⟩
  unfold cutEnc allCuts
  rw [List.getElem?_append_right (Nat.le_refl _), Nat.sub_self]
  simp

theorem cuts_stay (s : ByteArray) (k : Nat) (h : cutAt s k = 0) : cutsTo s (k + 1) = cutsTo s k := by rw [cutsTo, if_pos h, List.append_nil]
theorem cuts_more (s : ByteArray) (k : Nat) (h : cutAt s k ≠ 0) : (cutsTo s (k + 1)).length = (cutsTo s k).length + 1 := by rw [cutsTo, if_neg h]; simp

set_option maxHeartbeats 400000 in
theorem cuts_any (s : ByteArray) (w : World) :
    Calls Tryd.prog 49 #[.string s] w fun e w' => e = .returned (.func (.func 76) #[] #[.pointer (some ⟨w.heap.size, 0, none⟩)]) ∧ w.alloc (.cells #[.string s] 9) = w' := by
  go_enter Tryd.func49, Tryd.ntmps49
  go_wp2
  go_ret
  exact ⟨rfl, rfl⟩

set_option maxRecDepth 100000 in
set_option maxHeartbeats 2000000 in
theorem cuts1_seq (Bs : Nat) (S : Nat → Prop) (s : ByteArray) (w : World) (hs : s.size ≤ 1000000000) (hSB : S Bs) (hBs : w.cell? ⟨Bs, 0, none⟩ = some (.string s)) :
    SeqP Tryd.prog 76 #[.pointer (some ⟨Bs, 0, none⟩)] (cutEnc s) (allCuts s).length Eq (KeepsOn S) w := by
  intro l J Jx W hW hJ hJx hY h0
  have hBs' : W.cell? ⟨Bs, 0, none⟩ = some (.string s) := (hW.cell (World.block_lt_of_cell? w _ hBs)).trans hBs
  clear hBs hW hJ hJx
  refine calls_wide (callsIn_of_wp Tryd.func76 rfl trivial ?_ rfl)
  simp only [Tryd.ntmps76, List.size_toArray, List.length_cons, List.length_nil, Nat.reduceAdd, Nat.reduceSub, Array.replicate_succ, Array.replicate_zero, List.push_toArray, List.append_toArray, List.nil_append, List.cons_append]
  gi_wp2
  gi_loopw [3, 4, 5] (fun q d i wr => ∃ k : Nat, k ≤ s.size ∧ q = .bool (stAt s k).1 ∧ d = .int .i64 ((stAt s k).2 : Nat) ∧ i = .int .i64 k ∧ J (cutsTo s k).length wr ∧ KeepsOn S W wr)
    (fun _ _ i _ => s.size - (intOf i).toNat)
  case atStart => exact ⟨0, by omega, rfl, rfl, rfl, h0, KeepsOn.refl _ _⟩
  case round =>
    obtain ⟨k, hk, rfl, rfl, rfl, hj, hkp⟩ := hrel
    have hbox : wr.cell? ⟨Bs, 0, none⟩ = some (.string s) := (hkp.cell (p := ⟨Bs, 0, none⟩) hSB).trans hBs'
    by_cases hlt : k < s.size
    · have hg := bt_get s k hlt
      have hst : stAt s (k + 1) = stepSt s[k] (stAt s k).1 (stAt s k).2 := by rw [hg]; rfl
      have hcut : cutAt s k = if (stAt s k).1 = true ∨ (stAt s k).2 ≠ 0 then 0 else if s[k] = 10 then 1 else if diaAt s k = true then 3 else 0 := by rw [hg]; rfl
      have hdl := deep_le s k
      have hd : decide ((k : Int) < (s.size : Int)) = true := by simp; omega
      have hdp : Hid (Lib.hasPrefix (s.extract k s.size).data.toList [226, 139, 132] = diaAt s k) := hid (by rw [drop_extract]; rfl)
      rcases cut_cases s k with h0 | h1 | h3
      · -- it is not cut here
        have hcl := hid (cuts_stay s k h0)
        have Hst := hid hst
        have Hcut := hid hcut
        have H0 := hid h0
        clear hst hcut hg h0
        generalize (stAt s k).1 = q at *
        generalize (stAt s k).2 = d at *
        have hbyte : ∀ b : UInt8, ((s[k].toNat : Int) == (b.toNat : Int)) = decide (s[k] = b) := fun b => by
          rw [Bool.eq_iff_iff, beq_iff_eq, decide_eq_true_eq, ← UInt8.toNat_inj]; omega
        have Hb := hid hbyte
        clear hbyte
        by_cases h39 : s[k] = 39
        · have t39 : ((s[k].toNat : Int) == (((ByteArray.mk #[39])[0]'(by decide)).toNat : Int)) = true := (Hb.out 39).trans (decide_eq_true h39)
          have Hnew : Hid (stAt s (k + 1) = (!q, d)) := hid (by rw [Hst.out, stepSt, if_pos h39])
          clear h39
          gi_wp2
          refine ⟨fun _ _ => trivial, ?_⟩
          gi_wp2
          go_roundw
          case rel => exact ⟨k + 1, by omega, by rw [Hnew.out], by rw [Hnew.out] <;> rfl, by go_num, by rw [hcl.out]; exact hj, hkp⟩
          case measure => simp [intOf]; omega
        have t39 : ((s[k].toNat : Int) == (((ByteArray.mk #[39])[0]'(by decide)).toNat : Int)) = false := (Hb.out 39).trans (decide_eq_false h39)
        cases q
        case true =>
          have Hnew : Hid (stAt s (k + 1) = (true, d)) := hid (by rw [Hst.out, stepSt, if_neg h39, if_pos rfl])
          clear h39
          gi_wp2
          refine ⟨fun _ _ => trivial, ?_⟩
          gi_wp2
          go_roundw
          case rel => exact ⟨k + 1, by omega, by rw [Hnew.out], by rw [Hnew.out] <;> rfl, by go_num, by rw [hcl.out]; exact hj, hkp⟩
          case measure => simp [intOf]; omega
        by_cases h123 : s[k] = 123
        · have t123 : ((s[k].toNat : Int) == 123) = true := (Hb.out 123).trans (decide_eq_true h123)
          have Hnew : Hid (stAt s (k + 1) = (false, d + 1)) := hid (by rw [Hst.out, stepSt, if_neg h39, if_neg (by simp), if_pos h123])
          clear h39 h123
          gi_wp2
          refine ⟨fun _ _ => trivial, ?_⟩
          gi_wp2
          go_roundw
          case rel => exact ⟨k + 1, by omega, by rw [Hnew.out], by rw [Hnew.out]; go_num, by go_num, by rw [hcl.out]; exact hj, hkp⟩
          case measure => simp [intOf]; omega
        have t123 : ((s[k].toNat : Int) == 123) = false := (Hb.out 123).trans (decide_eq_false h123)
        by_cases h125 : s[k] = 125
        · have t125 : ((s[k].toNat : Int) == 125) = true := (Hb.out 125).trans (decide_eq_true h125)
          have Hnew : Hid (stAt s (k + 1) = (false, d - 1)) := hid (by rw [Hst.out, stepSt, if_neg h39, if_neg (by simp), if_neg h123, if_pos h125])
          clear h39 h123 h125
          gi_wp2
          refine ⟨fun _ _ => trivial, ?_⟩
          gi_wp2
          go_roundw
          case rel => exact ⟨k + 1, by omega, by rw [Hnew.out], by rw [Hnew.out]; first | rfl | (congr 1; omega) | skip, by go_num, by rw [hcl.out]; exact hj, hkp⟩
          case measure => simp [intOf]; omega
        have t125 : ((s[k].toNat : Int) == 125) = false := (Hb.out 125).trans (decide_eq_false h125)
        have Hnew : Hid (stAt s (k + 1) = (false, d)) := hid (by rw [Hst.out, stepSt, if_neg h39, if_neg (by simp), if_neg h123, if_neg h125])
        by_cases hd0 : d = 0
        · subst hd0
          have h10 : s[k] ≠ 10 := by
            intro e
            have h0 := H0.out
            rw [Hcut.out, if_neg (by simp), if_pos e] at h0; omega
          have hdn : diaAt s k = false := by
            cases hdv : diaAt s k
            · rfl
            · have h0 := H0.out
              rw [Hcut.out, if_neg (by simp), if_neg h10, if_pos hdv] at h0; omega
          have t10 : ((s[k].toNat : Int) == (((ByteArray.mk #[10])[0]'(by decide)).toNat : Int)) = false := (Hb.out 10).trans (decide_eq_false h10)
          clear h39 h123 h125 h10
          gi_wp2_with (refine ⟨trivial, rfl, ?_⟩; gi_at_call 77; refine (wide_calls (Tryd.strings_HasPrefix _ _ _)).mono ?_; rintro e w' ⟨rfl, rfl⟩; rw [hdp.out])
          refine ⟨fun _ _ => trivial, ?_⟩
          gi_wp2
          go_roundw
          case rel => exact ⟨k + 1, by omega, by rw [Hnew.out], by rw [Hnew.out] <;> rfl, by go_num, by rw [hcl.out]; exact hj, hkp⟩
          case measure => simp [intOf]; omega
        · have td : ((d : Int) == 0) = false := by rw [beq_eq_false_iff_ne]; omega
          clear h39 h123 h125 hd0
          gi_wp2
          refine ⟨trivial, ?_⟩
          gi_wp2
          refine ⟨fun _ _ => trivial, ?_⟩
          gi_wp2
          go_roundw
          case rel => exact ⟨k + 1, by omega, by rw [Hnew.out], by rw [Hnew.out] <;> rfl, by go_num, by rw [hcl.out]; exact hj, hkp⟩
          case measure => simp [intOf]; omega
      · -- the end of a line
        obtain ⟨he1, he2⟩ := cutEnc_at s k hlt (by omega)
        obtain ⟨fn, tmps, assign, body, hy, hR⟩ := hY _ wr he1 hj
        rw [he2, h1, show ((k + 1 : Nat) : Int) = (k : Int) + 1 from by omega] at hy
        have hcm := hid (cuts_more s k (by omega))
        have hcut' := hcut
        rw [h1] at hcut'
        have hq : (stAt s k).1 = false ∧ (stAt s k).2 = 0 ∧ s[k] = 10 := by
          split at hcut'
          · omega
          · rename_i h; split at hcut'
            · rename_i h'; exact ⟨by simpa using (not_or.1 h).1, by have := (not_or.1 h).2; omega, h'⟩
            · split at hcut' <;> omega
        obtain ⟨hq1, hq2, hq3⟩ := hq
        have Hnew : Hid (stAt s (k + 1) = (false, 0)) := hid (by rw [hst, hq1, hq2, hq3]; rfl)
        have e10 : s[k].toNat = 10 := by rw [hq3]; rfl
        rw [hq1, hq2, show ((0 : Nat) : Int) = 0 from rfl]
        have H1 := hid h1
        have Hq1 := hid hq1
        have Hq2 := hid hq2
        clear hst hcut hcut' hg h1 hq1 hq2 hq3 he1 he2 hdl
        gi_wp2
        refine ⟨rfl, hR.mono ?_⟩
        rintro e W3 (⟨rfl, hJ3, hk3⟩ | ⟨rfl, hJx3⟩)
        · have hkp3 := hkp.trans _ _ _ hk3
          clear hk3
          gi_wp2
          go_roundw
          case rel => exact ⟨k + 1, by omega, by rw [Hnew.out], by rw [Hnew.out]; rfl, by go_num, by rw [hcm.out]; exact hJ3, hkp3⟩
          case measure => simp [intOf]; omega
        · gi_wp2
          refine bodyPost_ret (results_none rfl _ _ _) rfl ?_
          exact ⟨⟨_, rfl⟩, .inr hJx3⟩
      · -- a diamond
        have hdi := cut_three s k h3
        obtain ⟨hsz, hb226, _, _⟩ := dia_bytes s k hdi
        obtain ⟨he1, he2⟩ := cutEnc_at s k hlt (by omega)
        obtain ⟨fn, tmps, assign, body, hy, hR⟩ := hY _ wr he1 hj
        rw [he2, h3, show ((k + 3 : Nat) : Int) = (k : Int) + 3 from by omega] at hy
        have hcm := hid (cuts_more s k (by omega))
        have hcut' := hcut
        rw [h3] at hcut'
        have hq : (stAt s k).1 = false ∧ (stAt s k).2 = 0 := by
          split at hcut'
          · omega
          · rename_i h; exact ⟨by simpa using (not_or.1 h).1, by have := (not_or.1 h).2; omega⟩
        obtain ⟨hq1, hq2⟩ := hq
        rw [← hg] at hb226
        have Hnew : Hid (stAt s (k + 1) = (false, 0)) := hid (by rw [hst, hq1, hq2, hb226]; rfl)
        have e226 : s[k].toNat = 226 := by rw [hb226]; rfl
        rw [hq1, hq2, show ((0 : Nat) : Int) = 0 from rfl]
        have H3 := hid h3
        have Hq1 := hid hq1
        have Hq2 := hid hq2
        clear hst hcut hcut' hg h3 hq1 hq2 hb226 he1 he2 hdl
        gi_wp2_with (refine ⟨trivial, rfl, ?_⟩; gi_at_call 77; refine (wide_calls (Tryd.strings_HasPrefix _ _ _)).mono ?_; rintro e w' ⟨rfl, rfl⟩; rw [hdp.out])
        refine ⟨rfl, hR.mono ?_⟩
        rintro e W3 (⟨rfl, hJ3, hk3⟩ | ⟨rfl, hJx3⟩)
        · have hkp3 := hkp.trans _ _ _ hk3
          clear hk3
          gi_wp2
          go_roundw
          case rel => exact ⟨k + 1, by omega, by rw [Hnew.out], by rw [Hnew.out]; rfl, by go_num, by rw [hcm.out]; exact hJ3, hkp3⟩
          case measure => simp [intOf]; omega
        · gi_wp2
          refine bodyPost_ret (results_none rfl _ _ _) rfl ?_
          exact ⟨⟨_, rfl⟩, .inr hJx3⟩
    · obtain rfl : k = s.size := by omega
      have hd : decide ((s.size : Int) < (s.size : Int)) = false := by simp
      obtain ⟨he1, he2, he3⟩ := cutEnc_end s
      obtain ⟨fn, tmps, assign, body, hy, hR⟩ := hY _ wr he1 hj
      rw [he3] at hy
      gi_wp2
      refine ⟨rfl, hR.mono ?_⟩
      rintro e W3 (⟨rfl, hJ3, hk3⟩ | ⟨rfl, hJx3⟩)
      · rw [he2] at hJ3
        gi_wp2
        go_end0
        exact ⟨⟨_, rfl⟩, .inl hJ3⟩
      · gi_wp2
        go_end0
        exact ⟨⟨_, rfl⟩, .inr hJx3⟩

end Go.Proofs.YtjapijkgjgfcnaaDoor
