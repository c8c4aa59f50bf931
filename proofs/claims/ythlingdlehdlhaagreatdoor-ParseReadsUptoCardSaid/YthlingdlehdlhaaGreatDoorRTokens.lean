/- The reference's Valid and Tokens. -/
import Derived.Test.YthlingdlehdlhaaGreatDoorRToken
import Derived.Test.YthlingdlehdlhaaGreatDoorToks
namespace Go.Proofs.YthlingdlehdlhaaGreatDoor
open Go.RowKit Go.Shelf
open Go.Lib (trimLeftB validD decodeL)
set_option linter.unusedVariables false
set_option linter.unusedSimpArgs false

set_option maxRecDepth 100000 in
theorem rvalid_any (l : List UInt8) (w : World) (hl : l.length ≤ 8000000) :
    Calls Tryz.prog 30 #[.string (bs l)] w fun e w' => e = .returned (.bool (validD l)) ∧ w' = w := by
  have hs : (bs l).size = l.length := bs_size l
  have Hs := hid hs
  have hmax : ((bs l).size : Int) ≤ 8000000 := by rw [hs]; omega
  obtain ⟨V, hV⟩ : ∃ V, validD l = V := ⟨_, rfl⟩
  rw [hV]
  have Hl := hid hl
  clear hs hl
  go_enter Tryz.func30, Tryz.ntmps30
  go_wp2_with fail
  go_loop [3, 4, 5] (fun i _ _ => ∃ q : Nat, q ≤ (bs l).size ∧ i = .int .i64 q ∧ Hid (validD (l.drop q) = V)) (fun i _ _ => (bs l).size - (intOf i).toNat)
  case atStart => exact ⟨0, by omega, rfl, hid hV⟩
  case round =>
    obtain ⟨q, hq, rfl, hinv⟩ := hrel
    by_cases hlt : q < (bs l).size
    · have hd : decide (q < (bs l).size) = true := by simpa using hlt
      have hne : l.drop q ≠ [] := by
        intro e
        have h1 := congrArg List.length e
        rw [List.length_drop] at h1
        have h2 := Hs.out
        have h3 : ([] : List UInt8).length = 0 := rfl
        omega
      have hstep := Lib.validD_step _ hne
      rw [hinv.out, ← decode_drop] at hstep
      have hwd := width_pos (bs l) q hlt
      have hle := decode_in (bs l) q hlt
      have hdc := rdecode_any (bs l) q w (by have := Hs.out; have := Hl.out; omega) hlt
      rw [refDec_eq (bs l) q hlt] at hdc
      have Hdc := hid hdc
      rw [List.drop_drop] at hstep
      have Hst := hid hstep
      clear hstep hdc hne hinv hV
      generalize (Utf8.decode (bs l) q).1 = c at *
      generalize (Utf8.decode (bs l) q).2 = n at *
      go_wp2_with fail
      refine Hdc.out.mono ?_
      rintro e w' ⟨rfl, rfl⟩
      by_cases hc : c = 65533
      · have t1 : ((c : Int) == 65533) = true := by simp [hc]
        by_cases hn : n = 1
        · have t2 : ((n : Int) == 1) = true := by simp [hn]
          have HV : Hid (V = false) := hid (by rw [Hst.out, if_pos ⟨hc, hn⟩])
          clear hc hn Hst
          go_wp2_with fail
          go_ret
          exact ⟨by rw [HV.out]; rfl, rfl⟩
        · have t2 : ((n : Int) == 1) = false := by rw [beq_eq_false_iff_ne]; omega
          have HV : Hid (validD (l.drop (q + n)) = V) := hid (by have := Hst.out; rw [if_neg (by omega)] at this; exact this.symm)
          clear hc hn Hst
          go_wp2_with fail
          go_round
          case rel => exact ⟨q + n, hle, by go_num, HV⟩
          case measure => simp [intOf]; omega
      · have t1 : ((c : Int) == 65533) = false := by rw [beq_eq_false_iff_ne]; omega
        have HV : Hid (validD (l.drop (q + n)) = V) := hid (by have := Hst.out; rw [if_neg (by omega)] at this; exact this.symm)
        clear hc Hst
        go_wp2_with fail
        go_round
        case rel => exact ⟨q + n, hle, by go_num, HV⟩
        case measure => simp [intOf]; omega
    · have hd : decide (q < (bs l).size) = false := by simpa using hlt
      have HV : Hid (V = true) := hid (by rw [← hinv.out, List.drop_eq_nil_of_le (by rw [← Hs.out]; omega)]; rfl)
      clear hinv
      go_wp2_with fail
      go_ret
      exact ⟨by rw [HV.out]; rfl, rfl⟩

set_option maxRecDepth 100000 in
set_option maxHeartbeats 4000000 in
theorem rtokens_any (l : List UInt8) (w : World) (hl : l.length ≤ 2000000) :
    Calls Tryz.prog 5 #[.string (bs l)] w fun e w' => (∃ v us, e = .returned (.tuple #[v, .int .i64 (tokensOf l).2]) ∧ w'.ownsRow w.heap.size 48 5 v (tokensOf l).1.length us.flatten ∧ ToksOwn w' w.heap.size us (tokensOf l).1) ∧ Below w.heap.size w w' := by
  obtain ⟨i0, hi, hz0, hz1, hz2⟩ := info_parts (show (Tryz.prog.info? 48).map (fun i => (i.zero, i.size, i.bytes)) = some (some (.agg zeroTok), 5, 80) by kernel_rfl)
  have hnil : ∀ W : World, W.ownsRow w.heap.size 48 5 (.slice none 0 0) 0 ([] : List (List Value)).flatten ∧ ToksOwn W w.heap.size [] [] := fun W => ⟨World.ownsRow_nil _ _ _ _, trivial⟩
  have Hnil := hid hnil
  clear hnil
  have Hl := hid hl
  have Hs := hid (bs_size l)
  have hmax : ((bs l).size : Int) ≤ 2000000 := by rw [bs_size]; omega
  go_enter Tryz.func5, Tryz.ntmps5
  go_wp2_with fail
  refine (rvalid_any l _ (by omega)).mono ?_
  rintro e w' ⟨rfl, rfl⟩
  cases hV : validD l with
  | false =>
    have HT : Hid (tokensOf l = ([], 170)) := hid (by unfold tokensOf; rw [if_pos hV])
    clear hV
    go_wp2_with fail
    refine bodyPost_ret (results_tmp2 rfl _ _ _) rfl ?_
    rw [HT.out]
    exact ⟨⟨_, [], rfl, (Hnil.out _).1, (Hnil.out _).2⟩, Below.refl _ _⟩
  | true =>
    have HT : Hid (tokensOf l = if (toksFrom (l.length + 1) l).2.1 = true then ([], 170) else if (toksFrom (l.length + 1) l).2.2 = true ∨ 4000 < (toksFrom (l.length + 1) l).1.length then ([], 9) else ((toksFrom (l.length + 1) l).1, 0)) := hid (by unfold tokensOf; rw [if_neg (by rw [hV]; simp)])
    have hS0 := RState.start l
    have hN := toks_len (l.length + 1) l
    generalize toksFrom (l.length + 1) l = T at *
    have HS1 := hid hS0.trim
    have HV := hid hV
    clear hS0 hV
    go_wp2_with fail
    refine (past_any l 0 _ (by omega) (by omega)).mono ?_
    rintro e w2 ⟨⟨q0, rfl, hq0, hd0⟩, rfl⟩
    rw [List.drop_zero] at hd0
    have HS2 : Hid (RState T 0 (l.drop q0) false false ∧ trimLeftB (l.drop q0) 32 = l.drop q0 ∧ validD (l.drop q0) = true) := hid (by rw [hd0]; exact ⟨HS1.out, trimLeft_idem l, by rw [valid_trim]; exact HV.out⟩)
    clear HS1 HV hd0
    go_wp2_with fail
    go_loopw [5, 6, 7, 8, 9] (fun v m i _ _ wr => ∃ (k q : Nat) (us : List (List Value)) (much : Bool), q ≤ (bs l).size ∧ i = .int .i64 q ∧ m = .bool much ∧ wr.ownsRow w2.heap.size 48 5 v k us.flatten ∧ ToksOwn wr w2.heap.size us (T.1.take k) ∧ k ≤ T.1.length ∧ Below w2.heap.size w2 wr ∧
        Hid (RState T k (l.drop q) false much ∧ trimLeftB (l.drop q) 32 = l.drop q ∧ validD (l.drop q) = true))
      (fun _ _ i _ _ _ => (bs l).size - (intOf i).toNat)
    case atStart => exact ⟨0, q0, [], false, by rw [bs_size]; exact hq0, rfl, rfl, World.ownsRow_nil _ _ _ _, trivial, Nat.zero_le _, Below.refl _ _, HS2⟩
    case round =>
      obtain ⟨k, q, us, much, hq, rfl, rfl, hrow, htoks, hkl, hB, hinv⟩ := hrel
      obtain ⟨av, cv, rfl⟩ := own_slice hrow
      clear HS2 hq0
      by_cases hlt : q < (bs l).size
      · have hd : decide (q < (bs l).size) = true := by simpa using hlt
        have hll : q < l.length := by rw [← Hs.out]; exact hlt
        have hdr := drop_bt l q hll
        obtain ⟨r1, r2, r3⟩ := hinv.out
        obtain ⟨n1, n2, n3⟩ := (show RState T k (bt (bs l) q :: l.drop (q + 1)) false much from by rw [← hdr]; exact r1).next (by rw [← hdr]; exact r2)
        rw [← hdr] at n2 n3
        have hltr : (readTok (l.drop q)).2.1.length < (l.drop q).length := by rw [hdr]; exact readTok_lt
        have hvl := valid_left (show l.drop q ≠ [] by rw [hdr]; simp) r3
        have N3 := hid n3
        have N2 := hid n2
        have Hltr := hid hltr
        have Hvl := hid hvl
        clear n2 n3 hltr hvl hdr hinv
        go_wp2_with fail
        refine (rtoken_any l q _ (by have := Hl.out; omega) hll r3).mono ?_
        rintro e w3 ⟨⟨v, qn, rfl, hres⟩, b3⟩
        clear r1 r2 r3
        generalize hRT : readTok (l.drop q) = RT at *
        have HRT := hid hRT
        clear hRT
        obtain ⟨tk, left, bd⟩ := RT
        unfold TokRes at hres
        rw [HRT.out] at hres
        simp only at hres N2 N3 Hltr Hvl
        have hrow3 := owns_below hrow b3
        have hB3 := hB.trans (b3.mono hB.size)
        have htoks3 := htoks.map (fun v t ht => ht.below b3)
        have hsz3 : w2.heap.size ≤ w3.heap.size := hB3.size
        have hszr := hB.size
        clear hrow hB htoks
        rcases hres with ⟨rfl, rfl, rfl⟩ | ⟨rfl, htok, kq, rfl, hkq, hleft⟩
        · have HT2 : Hid (tokensOf l = ([], 170)) := hid (by
            have := N3.out.ends (.inr rfl) n1
            rw [HT.out, this.2, if_pos rfl])
          clear HT N3
          go_wp2_with fail
          refine bodyPost_ret (results_tmp2 rfl _ _ _) rfl ?_
          rw [HT2.out]
          exact ⟨⟨_, [], rfl, (Hnil.out _).1, (Hnil.out _).2⟩, hB3.alloc hB3.size _⟩
        · obtain ⟨vs, ve, rfl, o1, o2, o3⟩ := id htok
          obtain ⟨aS, cS, rfl⟩ := own_slice o1
          obtain ⟨aE, cE, rfl⟩ := own_slice o2
          have tk0 : decide ((kq : Int) < 0) = false := by simp
          have hts : Hid (ToksOwn w3 w2.heap.size (us ++ [[.int .i64 tk.kind, .string (bs tk.txt), .int .i64 tk.val.kind, .slice aS tk.val.shape.length cS, .slice aE tk.val.elems.length cE]]) (T.1.take (k + 1))) := hid (by
            rw [show T.1.take (k + 1) = T.1.take k ++ [tk] from by rw [List.take_add_one, N2.out]; rfl]
            exact htoks3.snoc (htok.mono hszr))
          have hne64 : (tk.val.elems.length : Int) ≤ 9223372036854775807 := by
            obtain ⟨a, cap, e, h1, h2, -⟩ := (Ints.of_owns o2).parts
            omega
          have hkl2 : k ≤ 2000001 := by have := Hl.out; omega
          have Hleft := hid hleft
          have hnew := hid (fun A => row_new (w3.alloc A) [.int .i64 tk.kind, .string (bs tk.txt), .int .i64 tk.val.kind, .slice aS tk.val.shape.length cS, .slice aE tk.val.elems.length cE] 48)
          obtain ⟨g4, hg4⟩ : ∃ g4 : Bool, decide (4096 < tk.val.elems.length) = g4 := ⟨_, rfl⟩
          have hg4' : decide ((4096 : Int) < (tk.val.elems.length : Int)) = g4 := by rw [← hg4]; rw [Bool.eq_iff_iff]; simp; omega
          rw [hg4] at N3
          have Hval := hid (Hvl.out rfl)
          clear o1 o2 o3 hleft htoks3 N2 Hvl HRT
          generalize tk.val.elems.length = ne at *
          cases much
          all_goals cases g4
          all_goals
            go_wp2_with (at_builtin; go_must (refine wpList_append_own _ rfl _ _ 23 rfl w2.heap.size 48 i0 (.agg zeroTok) 5 80 Tryz.underlying23 hi hz0 hz1 hz2 rfl (by decide) _ _ _ rfl ((hrow3.alloc _).alloc _) ⟨w3.heap.size + 1, 0, none⟩ 1 1 [.int .i64 tk.kind, .string (bs tk.txt), .int .i64 tk.val.kind, .slice aS tk.val.shape.length cS, .slice aE ne cE] rfl rfl (by have := hnew.out (.cells #[.int .i64 tk.kind, .string (bs tk.txt), .int .i64 tk.val.kind, .slice aS tk.val.shape.length cS, .slice aE ne cE] 48); simpa using this) (by simp [Value.oneCell']) (by simp [maxLen]; omega) (by omega) (by simp; omega) ?_); intro v' w4 hown' hgrow _; obtain ⟨g', cap', rfl⟩ := ownsRow_succ hown')
            have hts4 := hts.out.map (fun v t ht => ((ht.below ((Below.refl _ _).alloc (Nat.le_refl _) (.cells #[.int .i64 tk.kind, .string (bs tk.txt), .int .i64 tk.val.kind, .slice aS tk.val.shape.length cS, .slice aE ne cE] 48))).below ((Below.refl _ _).alloc (Nat.le_refl _) (.cells #[.int .i64 tk.kind, .string (bs tk.txt), .int .i64 tk.val.kind, .slice aS tk.val.shape.length cS, .slice aE ne cE] 48))).apart hgrow ((hrow3.alloc _).alloc _))
            have hB4 := ((hB3.alloc hsz3 (.cells #[.int .i64 tk.kind, .string (bs tk.txt), .int .i64 tk.val.kind, .slice aS tk.val.shape.length cS, .slice aE ne cE] 48)).alloc (by simp; omega) (.cells #[.int .i64 tk.kind, .string (bs tk.txt), .int .i64 tk.val.kind, .slice aS tk.val.shape.length cS, .slice aE ne cE] 48)).grown hgrow (by simp; omega) (fun k e => (hrow3.lt k e).1)
            clear hgrow hts
            refine (past_any l kq _ (by have := Hl.out; omega) hkq).mono ?_
            rintro e w5 ⟨⟨q2, rfl, hq2, hdq2⟩, rfl⟩
            have HQ := hid hdq2
            have hql2 : (l.drop q2).length = l.length - q2 := List.length_drop
            have hql : (l.drop q).length = l.length - q := List.length_drop
            have hle2 : (l.drop q2).length ≤ left.length := by rw [hdq2, Hleft.out]; exact trimLeft_len _ _
            have hltr := Hltr.out
            have hszl := Hs.out
            clear hdq2
            go_wp2_with fail
            go_roundw
            case rel =>
              refine ⟨k + 1, q2, _, _, by omega, rfl, rfl, by simpa using hown', hts4, by omega, hB4, hid ⟨?_, ?_, ?_⟩⟩
              · rw [HQ.out, Hleft.out]; exact N3.out.trim
              · rw [HQ.out]; exact trimLeft_idem _
              · rw [HQ.out, Hleft.out, valid_trim]; exact Hval.out
            case measure => simp [intOf]; omega
      · have hd : decide (q < (bs l).size) = false := by simpa using hlt
        obtain ⟨r1, r2, r3⟩ := hinv.out
        rw [List.drop_eq_nil_of_le (by rw [← Hs.out]; omega)] at r1
        obtain ⟨e1, e2⟩ := r1.ends (.inl rfl) hkl
        rw [List.take_of_length_le (by omega)] at htoks
        rw [e2] at HT
        have HE1 := hid e1
        clear r1 r2 r3 hinv e2
        cases much with
        | true =>
          have HT2 : Hid (tokensOf l = ([], 9)) := hid (by rw [HT.out, if_neg (by simp), if_pos (.inl rfl)])
          clear HT e1
          go_wp2_with fail
          refine bodyPost_ret (results_tmp2 rfl _ _ _) rfl ?_
          rw [HT2.out]
          exact ⟨⟨_, [], rfl, (Hnil.out _).1, (Hnil.out _).2⟩, hB⟩
        | false =>
          by_cases h4 : 4000 < k
          · have HT2 : Hid (tokensOf l = ([], 9)) := hid (by rw [HT.out, if_neg (by simp), if_pos (.inr (by omega))])
            have t4 : decide (4000 < k) = true := by simpa using h4
            have t4' : decide ((4000 : Int) < (k : Int)) = true := by simp; omega
            clear HT e1
            go_wp2_with fail
            refine bodyPost_ret (results_tmp2 rfl _ _ _) rfl ?_
            rw [HT2.out]
            exact ⟨⟨_, [], rfl, (Hnil.out _).1, (Hnil.out _).2⟩, hB⟩
          · have HT2 : Hid (tokensOf l = (T.1, 0)) := hid (by rw [HT.out, if_neg (by simp), if_neg (by simp; omega)])
            have t4 : decide (4000 < k) = false := by simpa using h4
            have t4' : decide ((4000 : Int) < (k : Int)) = false := by simp; omega
            clear HT e1
            go_wp2_with fail
            refine bodyPost_ret (results_tmp2 rfl _ _ _) rfl ?_
            rw [HT2.out]
            exact ⟨⟨_, us, rfl, by rw [HE1.out]; exact hrow, htoks⟩, hB⟩
end Go.Proofs.YthlingdlehdlhaaGreatDoor
