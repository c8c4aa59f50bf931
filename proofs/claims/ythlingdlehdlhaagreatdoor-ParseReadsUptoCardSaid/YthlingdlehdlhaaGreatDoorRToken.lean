/- The reference's token. -/
import Derived.Test.YthlingdlehdlhaaGreatDoorRTk
import Derived.Test.YthlingdlehdlhaaGreatDoorLexLaw
import Derived.Test.YthlingdlehdlhaaGreatDoorRdr
namespace Go.Proofs.YthlingdlehdlhaaGreatDoor
open Go.RowKit Go.Shelf
open Go.Lib (trimLeftB validD)
set_option linter.unusedVariables false
set_option linter.unusedSimpArgs false

def TokRes (l : List UInt8) (w' : World) (base : Nat) (L : List UInt8) (v : Value) (q : Int) : Prop :=
  ((readTok L).2.2 = true ∧ q = -1 ∧ v = .agg zeroTok) ∨
  ((readTok L).2.2 = false ∧ TokOwn w' base v (readTok L).1 ∧ ∃ k : Nat, q = k ∧ k ≤ l.length ∧ trimLeftB (l.drop k) 32 = trimLeftB (readTok L).2.1 32)

theorem nameLen_step {c : UInt8} {r : List UInt8} (h : innB c = true) : nameLen (c :: r) = nameLen r + 1 := by
  unfold nameLen; rw [List.takeWhile_cons, if_pos h]; simp
theorem nameLen_stop {c : UInt8} {r : List UInt8} (h : innB c = false) : nameLen (c :: r) = 0 := by
  unfold nameLen; rw [List.takeWhile_cons, if_neg (by rw [h]; simp)]; rfl

theorem chLen_decode {l : List UInt8} {p : Nat} (h : p < l.length) : (Utf8.decode (bs l) p).2 = chLen (l.drop p) := by
  unfold chLen Lib.decodeGo
  rw [if_neg (by rw [bs_size, List.length_drop]; omega), decode_drop, decode_drop, List.drop_zero]
/-- Of a valid text, what stands here as a glyph is a character. -/
theorem glyTxt_char {L : List UInt8} (hne : L ≠ []) (hv : validD L = true) : charB (glyTxt L) = true := by
  have hs := Lib.validD_step L hne
  rw [hv] at hs
  have hc := char_decoded L hne (fun h => by rw [if_pos h] at hs; cases hs)
  unfold glyTxt
  rw [chLen_L L hne]
  split
  · decide
  · exact hc

set_option maxRecDepth 100000 in
set_option maxHeartbeats 8000000 in
theorem rtoken_any (l : List UInt8) (p : Nat) (w : World) (hl : l.length ≤ 4000000) (hp : p < l.length) (hv : validD (l.drop p) = true) :
    Calls Tryz.prog 32 #[.string (bs l), .int .i64 p] w fun e w' => (∃ v q, e = .returned (.tuple #[v, .int .i64 q]) ∧ TokRes l w' w.heap.size (l.drop p) v q) ∧ Below w.heap.size w w' := by
  have hs : (bs l).size = l.length := bs_size l
  have hps : p < (bs l).size := by omega
  have hbt := bt_get (bs l) p hps
  have hdr := drop_bt l p hp
  rw [← hbt] at hdr
  have Hdr := hid hdr
  have Hv := hid hv
  have Hbt := hid (fun k h => bt_get (bs l) k h)
  have Hdrk := hid (fun k h => drop_bt l k h)
  have Hs := hid hs
  have hmax : ((bs l).size : Int) ≤ 4000000 := by rw [hs]; omega
  obtain ⟨L, hL⟩ : ∃ L, l.drop p = L := ⟨_, rfl⟩
  have HL := hid hL
  have hB1 : ∀ o, Below w.heap.size w (w.alloc o) := fun o => (Below.refl _ w).alloc (Nat.le_refl _) o
  have Hl := hid hl
  rw [hL]
  clear hdr hv hs hbt hL
  go_enter Tryz.func32, Tryz.ntmps32
  go_wp2_with fail
  refine (rnumbers_any l p _ (by omega) (by omega)).mono ?_
  rintro e w1 ⟨⟨v1, xs, q, rfl, o1, hrng, hxl, hfine, hq⟩, b1⟩
  rw [HL.out] at hfine hq ⊢
  obtain ⟨a1, d1, rfl⟩ := own_slice o1
  have hT1 : w1.heap[w.heap.size]? = some (.cells zeroTok 48) := (b1.block w.heap.size (by simp)).trans (heap_alloc_new w _)
  have hsz1 : w.heap.size + 1 ≤ w1.heap.size := by have := b1.size; simpa using this
  have hBw1 : Below w.heap.size w w1 := (hB1 _).trans (b1.mono (by simp))
  clear b1 hB1
  have hp' := Hl.out
  clear hp hl hp'
  rcases hq with ⟨rfl, hn⟩ | ⟨hn, k, rfl, hk, hd⟩
  · -- no number
    have hfree : (numsFrom L.length L).2.2 = false := by rw [numsFrom_none _ _ hn]
    rw [hfree]
    clear hfree hfine
    have HN := hid hn
    clear hn
    by_cases h39 : (bs l)[p] = 39
    · have t : (((bs l)[p].toNat : Int) == 39) = true := by rw [h39]; rfl
      have HL2 : Hid (L = 39 :: l.drop (p + 1)) := hid (by rw [← HL.out, Hdr.out, h39])
      clear h39
      go_wp2_with fail
      refine (rrchars_any l p _ (by have := Hl.out; omega) (by have := Hs.out; omega)).mono ?_
      rintro e w2 ⟨⟨qe, rfl, hend⟩, rfl⟩
      have HR : Hid (readTok L = (⟨1, [], chrsArr (runesOf (bs (quoted (l.drop (p + 1))).1))⟩, (quoted (l.drop (p + 1))).2.getD [], (quoted (l.drop (p + 1))).2.isNone)) := hid (by rw [HL2.out, readTok_39])
      have hql : (quoted (l.drop (p + 1))).1.length ≤ 4000000 := by
        have := quoted_len1 (l.drop (p + 1)); rw [List.length_drop] at this; have := Hl.out; omega
      generalize quoted (l.drop (p + 1)) = Q at *
      obtain ⟨Q1, Q2⟩ := Q
      simp only at hend HR hql ⊢
      rcases hend with ⟨rfl, rfl⟩ | ⟨k, rfl, hk, rfl⟩
      · have HB : Hid ((readTok L).2.2 = true) := hid (by rw [HR.out]; rfl)
        obtain ⟨k0, k1, k2, k3, k4, f0, f1, f2, f3, f4⟩ := five_facts hT1
        clear HR
        go_wp2_with fail
        refine bodyPost_ret (results_row_tmp rfl _ _ w.heap.size _ _ _ _ rfl (set5 hT1 (.int .i64 0) (.string ⟨#[]⟩) (.int .i64 0) (.slice none 0 0) (.slice none 0 0)) Tryz.underlying48 rfl (by kernel_rfl)) rfl ?_
        exact ⟨⟨_, _, rfl, .inl ⟨HB.out, rfl, rfl⟩⟩, below_put5 hBw1 (Nat.le_refl _) _ _ _ _ _⟩
      · have tk : decide ((k : Int) < 0) = false := by simp
        have HB : Hid ((readTok L).2.2 = false) := hid (by rw [HR.out]; rfl)
        have HK : Hid (trimLeftB (l.drop k) 32 = trimLeftB (readTok L).2.1 32) := hid (by rw [HR.out]; rfl)
        go_wp2_with fail
        refine (rchars11_any (bs Q1) _ (by rw [bs_size]; omega)).mono ?_
        rintro e w3 ⟨⟨v3, rfl, own3⟩, b3⟩
        obtain ⟨vs, ve, rfl, -⟩ := id own3
        go_wp2_with fail
        refine (rvalue_any _ _ _ _ own3).mono ?_
        rintro e w4 ⟨⟨v4, rfl, ts, te, rfl, p1, p2, p3⟩, b4⟩
        have HT : Hid ((readTok L).1 = ⟨1, [], valArr ⟨2, [((runesOf (bs Q1)).length : Int)], runesOf (bs Q1)⟩⟩) := hid (by rw [HR.out]; rfl)
        have b24 := b3.trans (b4.mono b3.size)
        generalize valArr ⟨2, [((runesOf (bs Q1)).length : Int)], runesOf (bs Q1)⟩ = va at *
        clear own3 HR b3 b4
        obtain ⟨aS, cS, rfl⟩ := own_slice p1
        obtain ⟨aE, cE, rfl⟩ := own_slice p2
        have hT4 := (b24.block w.heap.size (by omega)).trans hT1
        have hBw4 : Below w.heap.size w w4 := hBw1.trans (b24.mono (by omega))
        obtain ⟨k0, k1, k2, k3, k4, f0, f1, f2, f3, f4⟩ := five_facts hT4
        clear b24 hT1 hBw1
        go_wp2_with fail
        refine bodyPost_ret (results_row_tmp rfl _ _ w.heap.size _ _ _ _ rfl (set5 hT4 (.int .i64 1) (.string ⟨#[]⟩) (.int .i64 va.kind) (.slice aS va.shape.length cS) (.slice aE va.elems.length cE)) Tryz.underlying48 rfl (by kernel_rfl)) rfl ?_
        exact ⟨⟨_, _, rfl, .inr ⟨HB.out, by rw [HT.out]; exact ⟨_, _, rfl, owns_mono (owns_put5 p1 (by omega) _ _ _ _ _) (by omega), owns_mono (owns_put5 p2 (by omega) _ _ _ _ _) (by omega), p3⟩, k, rfl, hk, HK.out⟩⟩, below_put5 hBw4 (Nat.le_refl _) _ _ _ _ _⟩
    · have t : (((bs l)[p].toNat : Int) == 39) = false := by
        rw [beq_eq_false_iff_ne]; intro e; exact h39 (UInt8.toNat_inj.1 (by show _ = 39; omega))
      have H39 := hid h39
      clear h39
      go_wp2_with fail
      refine (rletter_any (bs l)[p] _).mono ?_
      rintro e w2 ⟨rfl, rfl⟩
      cases hlt : letB (bs l)[p] with
      | true =>
        have HRn : Hid (readTok L = (⟨2, L.take (nameLen L), noArr⟩, L.drop (nameLen L), decide (12 < nameLen L))) := hid (by
          have := HN.out; rw [← HL.out, Hdr.out] at this ⊢; exact readTok_name this H39.out hlt)
        clear hlt
        go_wp2_with fail
        go_loop [11] (fun i => ∃ (q : Nat), p ≤ q ∧ q ≤ (bs l).size ∧ i = .int .i64 q ∧ Hid (nameLen L = (q - p) + nameLen (l.drop q))) (fun i => (bs l).size - (intOf i).toNat)
        case atStart => exact ⟨p, Nat.le_refl _, by omega, rfl, hid (by rw [HL.out]; omega)⟩
        case round =>
          obtain ⟨q, hpq, hq, rfl, hinv⟩ := hrel
          by_cases hlt : q < (bs l).size
          · have hd : decide (q < (bs l).size) = true := by simpa using hlt
            have hc := Hbt.out q hlt
            have hdq := Hdrk.out q (by rw [← Hs.out]; exact hlt)
            rw [← hc] at hdq
            have Hdq := hid hdq
            have Hiq := hid (innB_eq (bs l)[q])
            have Hyes : Hid (innB (bs l)[q] = true → Hid (nameLen L = (q + 1 - p) + nameLen (l.drop (q + 1)))) := hid (fun h => hid (by rw [hinv.out, hdq, nameLen_step h]; omega))
            have Hno : Hid (innB (bs l)[q] = false → nameLen L = q - p) := hid (fun h => by rw [hinv.out, hdq, nameLen_stop h]; rfl)
            clear hc hdq hinv
            go_wp2_with fail
            refine (rletter_any (bs l)[q] _).mono ?_
            rintro e w3 ⟨rfl, rfl⟩
            cases h1 : letB (bs l)[q] with
            | true =>
              have HY := Hyes.out (by rw [Hiq.out, h1]; rfl)
              clear h1
              go_wp2_with fail
              go_round
              case rel => exact ⟨q + 1, by omega, by omega, by go_num, HY⟩
              case measure => simp [intOf]; omega
            | false =>
              go_wp2_with fail
              refine (rdigit_any (bs l)[q] _).mono ?_
              rintro e w3 ⟨rfl, rfl⟩
              cases h2 : digB (bs l)[q] with
              | true =>
                have HY := Hyes.out (by rw [Hiq.out, h1, h2]; rfl)
                clear h1 h2
                go_wp2_with fail
                go_round
                case rel => exact ⟨q + 1, by omega, by omega, by go_num, HY⟩
                case measure => simp [intOf]; omega
              | false =>
                cases h3 : (((bs l)[q].toNat : Int) == 95) with
                | true =>
                  have HY := Hyes.out (by rw [Hiq.out, h1, h2, h3]; rfl)
                  clear h1 h2
                  go_wp2_with fail
                  go_round
                  case rel => exact ⟨q + 1, by omega, by omega, by go_num, HY⟩
                  case measure => simp [intOf]; omega
                | false =>
                  have HE : Hid (nameLen L = q - p) := hid (Hno.out (by rw [Hiq.out, h1, h2, h3]; rfl))
                  clear h1 h2 Hyes Hno Hiq
                  have hsub : (q : Int) - (p : Int) = ((q - p : Nat) : Int) := by omega
                  have HTk : Hid (((bs l).extract p q) = bs (L.take (q - p))) := hid (by
                    have := slice_list l p (q - p)
                    rw [show p + (q - p) = q from by omega, HL.out] at this
                    apply ByteArray.ext; rw [← Array.toList_inj, this, bs_list])
                  have HDk : Hid (L.drop (q - p) = l.drop q) := hid (by rw [← HL.out, List.drop_drop, show p + (q - p) = q from by omega])
                  have hql : q ≤ l.length := by rw [← Hs.out]; exact hq
                  rw [HE.out] at HRn
                  obtain ⟨k0, k1, k2, k3, k4, f0, f1, f2, f3, f4⟩ := five_facts hT1
                  by_cases h12 : 12 < q - p
                  · have t12 : decide (12 < q - p) = true := by simpa using h12
                    have t12' : decide ((12 : Int) < ((q - p : Nat) : Int)) = true := by simp; omega
                    have HB : Hid ((readTok L).2.2 = true) := hid (by rw [HRn.out]; exact decide_eq_true h12)
                    clear HRn HE
                    go_wp2_with fail
                    refine bodyPost_ret (results_row_tmp rfl _ _ w.heap.size _ _ _ _ rfl (set5 hT1 (.int .i64 0) (.string ⟨#[]⟩) (.int .i64 0) (.slice none 0 0) (.slice none 0 0)) Tryz.underlying48 rfl (by kernel_rfl)) rfl ?_
                    exact ⟨⟨_, _, rfl, .inl ⟨HB.out, rfl, rfl⟩⟩, below_put5 hBw1 (Nat.le_refl _) _ _ _ _ _⟩
                  · have t12 : decide (12 < q - p) = false := by simpa using h12
                    have t12' : decide ((12 : Int) < ((q - p : Nat) : Int)) = false := by simp; omega
                    have hj1 : (p : Int) ≤ (q : Int) := by omega
                    have hj2 : (q : Int) ≤ ((bs l).size : Int) := by omega
                    have HB : Hid ((readTok L).2.2 = false) := hid (by rw [HRn.out]; exact decide_eq_false h12)
                    have HT : Hid ((readTok L).1 = ⟨2, L.take (q - p), noArr⟩) := hid (by rw [HRn.out])
                    have HK : Hid (trimLeftB (l.drop q) 32 = trimLeftB (readTok L).2.1 32) := hid (by rw [HRn.out]; simp only; rw [HDk.out])
                    clear HRn HE
                    go_wp2_with fail
                    refine bodyPost_ret (results_row_tmp rfl _ _ w.heap.size _ _ _ _ rfl (set5 hT1 (.int .i64 2) (.string ((bs l).extract p q)) (.int .i64 0) (.slice none 0 0) (.slice none 0 0)) Tryz.underlying48 rfl (by kernel_rfl)) rfl ?_
                    rw [HTk.out]
                    exact ⟨⟨_, _, rfl, .inr ⟨HB.out, by rw [HT.out]; exact tok_plain, q, rfl, hql, HK.out⟩⟩, below_put5 hBw1 (Nat.le_refl _) _ _ _ _ _⟩
          · have hd : decide (q < (bs l).size) = false := by simpa using hlt
            have HE : Hid (nameLen L = q - p) := hid (by rw [hinv.out, List.drop_eq_nil_of_le (by rw [← Hs.out]; omega)]; rfl)
            clear hinv
            have hsub : (q : Int) - (p : Int) = ((q - p : Nat) : Int) := by omega
            have HTk : Hid (((bs l).extract p q) = bs (L.take (q - p))) := hid (by
              have := slice_list l p (q - p)
              rw [show p + (q - p) = q from by omega, HL.out] at this
              apply ByteArray.ext; rw [← Array.toList_inj, this, bs_list])
            have HDk : Hid (L.drop (q - p) = l.drop q) := hid (by rw [← HL.out, List.drop_drop, show p + (q - p) = q from by omega])
            have hql : q ≤ l.length := by rw [← Hs.out]; exact hq
            rw [HE.out] at HRn
            obtain ⟨k0, k1, k2, k3, k4, f0, f1, f2, f3, f4⟩ := five_facts hT1
            by_cases h12 : 12 < q - p
            · have t12 : decide (12 < q - p) = true := by simpa using h12
              have t12' : decide ((12 : Int) < ((q - p : Nat) : Int)) = true := by simp; omega
              have HB : Hid ((readTok L).2.2 = true) := hid (by rw [HRn.out]; exact decide_eq_true h12)
              clear HRn HE
              go_wp2_with fail
              refine bodyPost_ret (results_row_tmp rfl _ _ w.heap.size _ _ _ _ rfl (set5 hT1 (.int .i64 0) (.string ⟨#[]⟩) (.int .i64 0) (.slice none 0 0) (.slice none 0 0)) Tryz.underlying48 rfl (by kernel_rfl)) rfl ?_
              exact ⟨⟨_, _, rfl, .inl ⟨HB.out, rfl, rfl⟩⟩, below_put5 hBw1 (Nat.le_refl _) _ _ _ _ _⟩
            · have t12 : decide (12 < q - p) = false := by simpa using h12
              have t12' : decide ((12 : Int) < ((q - p : Nat) : Int)) = false := by simp; omega
              have hj1 : (p : Int) ≤ (q : Int) := by omega
              have hj2 : (q : Int) ≤ ((bs l).size : Int) := by omega
              have HB : Hid ((readTok L).2.2 = false) := hid (by rw [HRn.out]; exact decide_eq_false h12)
              have HT : Hid ((readTok L).1 = ⟨2, L.take (q - p), noArr⟩) := hid (by rw [HRn.out])
              have HK : Hid (trimLeftB (l.drop q) 32 = trimLeftB (readTok L).2.1 32) := hid (by rw [HRn.out]; simp only; rw [HDk.out])
              clear HRn HE
              go_wp2_with fail
              refine bodyPost_ret (results_row_tmp rfl _ _ w.heap.size _ _ _ _ rfl (set5 hT1 (.int .i64 2) (.string ((bs l).extract p q)) (.int .i64 0) (.slice none 0 0) (.slice none 0 0)) Tryz.underlying48 rfl (by kernel_rfl)) rfl ?_
              rw [HTk.out]
              exact ⟨⟨_, _, rfl, .inr ⟨HB.out, by rw [HT.out]; exact tok_plain, q, rfl, hql, HK.out⟩⟩, below_put5 hBw1 (Nat.le_refl _) _ _ _ _ _⟩
      | false =>
        have HRg : Hid (readTok L = (⟨3, glyTxt L, noArr⟩, L.drop (chLen L), !Lib.contains glyphsL (glyTxt L))) := hid (by
          have := HN.out; rw [← HL.out, Hdr.out] at this ⊢; exact readTok_gly this H39.out hlt)
        have hne : L ≠ [] := by rw [← HL.out, Hdr.out]; simp
        have HCo : Hid (Lib.contains glyphsL (glyTxt L) = decide (glyTxt L ∈ glyChars)) := hid (contains_glyphs (glyTxt_char hne (by rw [← HL.out]; exact Hv.out)))
        have hcl : p + chLen L ≤ (bs l).size := by
          have := Lib.decodeL_le L hne; rw [← chLen_L L hne] at this; rw [← HL.out, List.length_drop] at this; have := Hs.out; rw [← HL.out]; omega
        have HCL := hid (chLen_decode (l := l) (p := p) (by have := Hs.out; omega))
        rw [HL.out] at HCL
        have HGl : Hid (glyTxt L = if L.take (chLen L) = [10] then [226, 139, 132] else L.take (chLen L)) := hid rfl
        have HDl : Hid (L.drop (chLen L) = l.drop (p + chLen L)) := hid (by rw [← HL.out, List.drop_drop])
        have HSl : Hid (((bs l).extract p (p + chLen L)) = bs (L.take (chLen L))) := hid (by
          apply ByteArray.ext; rw [← Array.toList_inj, slice_list, HL.out, bs_list])
        clear hlt hne
        go_wp2_with fail
        refine (rsize_any (bs l) p _ (by have := Hl.out; have := Hs.out; omega) hps).mono ?_
        rintro e w3 ⟨rfl, rfl⟩
        rw [HCL.out]
        have htl : (L.take (chLen L)).length ≤ 4000000 := by
          have h1 : (L.take (chLen L)).length ≤ L.length := by rw [List.length_take]; omega
          have h2 : L.length ≤ l.length := by rw [← HL.out, List.length_drop]; omega
          have := Hl.out; omega
        generalize chLen L = n at *
        generalize L.take n = T at *
        have hi2 : (p : Int) + (n : Int) ≤ ((bs l).size : Int) := by omega
        have hi3 : (p : Int) ≤ (p : Int) + (n : Int) := by omega
        by_cases h10 : T = [10]
        · have te : (((bs l).extract p (p + n)).toList == [10]) = true := by rw [HSl.out, ByteArray.toList_eq, bs_list, h10]; rfl
          have HG2 : Hid (glyTxt L = [226, 139, 132]) := hid (by rw [HGl.out, if_pos h10])
          rw [HG2.out] at HRg HCo
          clear HGl h10
          go_wp2_with fail
          refine (isglyph_any [226, 139, 132] _ (by decide)).mono ?_
          rintro e w4 ⟨rfl, rfl⟩
          rw [← HCo.out]
          generalize glyTxt L = G at *
          generalize hgv : Lib.contains glyphsL [226, 139, 132] = gv at *
          clear hgv HCo
          have HS3 : Hid ((ByteArray.mk #[226, 139, 132]) = bs [226, 139, 132]) := hid rfl
          obtain ⟨k0, k1, k2, k3, k4, f0, f1, f2, f3, f4⟩ := five_facts hT1
          have hnl : p + n ≤ l.length := by rw [← Hs.out]; exact hcl
          cases gv with
          | false =>
            have HB : Hid ((readTok L).2.2 = true) := hid (by rw [HRg.out]; rfl)
            clear HRg
            go_wp2_with fail
            refine bodyPost_ret (results_row_tmp rfl _ _ w.heap.size _ _ _ _ rfl (set5 hT1 (.int .i64 0) (.string ⟨#[]⟩) (.int .i64 0) (.slice none 0 0) (.slice none 0 0)) Tryz.underlying48 rfl (by kernel_rfl)) rfl ?_
            exact ⟨⟨_, _, rfl, .inl ⟨HB.out, rfl, rfl⟩⟩, below_put5 hBw1 (Nat.le_refl _) _ _ _ _ _⟩
          | true =>
            have HB : Hid ((readTok L).2.2 = false) := hid (by rw [HRg.out]; rfl)
            have HT : Hid ((readTok L).1 = ⟨3, [226, 139, 132], noArr⟩) := hid (by rw [HRg.out])
            have HK : Hid (trimLeftB (l.drop (p + n)) 32 = trimLeftB (readTok L).2.1 32) := hid (by rw [HRg.out]; simp only; rw [HDl.out])
            clear HRg
            go_wp2_with fail
            refine bodyPost_ret (results_row_tmp rfl _ _ w.heap.size _ _ _ _ rfl (set5 hT1 (.int .i64 3) (.string ⟨#[226, 139, 132]⟩) (.int .i64 0) (.slice none 0 0) (.slice none 0 0)) Tryz.underlying48 rfl (by kernel_rfl)) rfl ?_
            exact ⟨⟨_, _, rfl, .inr ⟨HB.out, by rw [HT.out]; exact tok_plain, p + n, by go_num, hnl, HK.out⟩⟩, below_put5 hBw1 (Nat.le_refl _) _ _ _ _ _⟩
        · have te : (((bs l).extract p (p + n)).toList == [10]) = false := by
            rw [HSl.out, ByteArray.toList_eq, bs_list, beq_eq_false_iff_ne]; exact h10
          have HG2 : Hid (glyTxt L = T) := hid (by rw [HGl.out, if_neg h10])
          rw [HG2.out] at HRg HCo
          clear HGl h10
          go_wp2_with fail
          rw [HSl.out]
          refine (isglyph_any T _ (by omega)).mono ?_
          rintro e w4 ⟨rfl, rfl⟩
          rw [← HCo.out]
          generalize glyTxt L = G at *
          generalize hgv : Lib.contains glyphsL T = gv at *
          clear hgv HCo
          obtain ⟨k0, k1, k2, k3, k4, f0, f1, f2, f3, f4⟩ := five_facts hT1
          have hnl : p + n ≤ l.length := by rw [← Hs.out]; exact hcl
          cases gv with
          | false =>
            have HB : Hid ((readTok L).2.2 = true) := hid (by rw [HRg.out]; rfl)
            clear HRg
            go_wp2_with fail
            refine bodyPost_ret (results_row_tmp rfl _ _ w.heap.size _ _ _ _ rfl (set5 hT1 (.int .i64 0) (.string ⟨#[]⟩) (.int .i64 0) (.slice none 0 0) (.slice none 0 0)) Tryz.underlying48 rfl (by kernel_rfl)) rfl ?_
            exact ⟨⟨_, _, rfl, .inl ⟨HB.out, rfl, rfl⟩⟩, below_put5 hBw1 (Nat.le_refl _) _ _ _ _ _⟩
          | true =>
            have HB : Hid ((readTok L).2.2 = false) := hid (by rw [HRg.out]; rfl)
            have HT : Hid ((readTok L).1 = ⟨3, T, noArr⟩) := hid (by rw [HRg.out])
            have HK : Hid (trimLeftB (l.drop (p + n)) 32 = trimLeftB (readTok L).2.1 32) := hid (by rw [HRg.out]; simp only; rw [HDl.out])
            clear HRg
            go_wp2_with fail
            refine bodyPost_ret (results_row_tmp rfl _ _ w.heap.size _ _ _ _ rfl (set5 hT1 (.int .i64 3) (.string (bs T)) (.int .i64 0) (.slice none 0 0) (.slice none 0 0)) Tryz.underlying48 rfl (by kernel_rfl)) rfl ?_
            exact ⟨⟨_, _, rfl, .inr ⟨HB.out, by rw [HT.out]; exact tok_plain, p + n, by go_num, hnl, HK.out⟩⟩, below_put5 hBw1 (Nat.le_refl _) _ _ _ _ _⟩
  · -- numbers
    have HR := hid (readTok_num hn)
    have tk : decide ((0 : Int) ≤ (k : Int)) = true := by simp
    cases hb : (numsFrom L.length L).2.2 with
    | true =>
      have HB : Hid ((readTok L).2.2 = true) := hid (by rw [HR.out]; exact hb)
      obtain ⟨k0, k1, k2, k3, k4, f0, f1, f2, f3, f4⟩ := five_facts hT1
      clear HR hb hn hfine hd
      simp only [Bool.not_true]
      go_wp2_with fail
      refine bodyPost_ret (results_row_tmp rfl _ _ w.heap.size _ _ _ _ rfl (set5 hT1 (.int .i64 0) (.string ⟨#[]⟩) (.int .i64 0) (.slice none 0 0) (.slice none 0 0)) Tryz.underlying48 rfl (by kernel_rfl)) rfl ?_
      exact ⟨⟨_, _, rfl, .inl ⟨HB.out, rfl, rfl⟩⟩, below_put5 hBw1 (Nat.le_refl _) _ _ _ _ _⟩
    | false =>
      have HB : Hid ((readTok L).2.2 = false) := hid (by rw [HR.out]; exact hb)
      have HK : Hid (trimLeftB (l.drop k) 32 = trimLeftB (readTok L).2.1 32) := hid (by rw [HR.out, ← hd, trimLeft_idem])
      have HX : Hid (xs = (numsFrom L.length L).1) := hid (hfine hb)
      clear hb hn hfine hd
      simp only [Bool.not_false]
      go_wp2_with fail
      refine (rvector_any _ xs _ (Ints.of_owns o1) (by have := Hl.out; omega) hrng).mono ?_
      rintro e w3 ⟨⟨v3, rfl, own3⟩, b3⟩
      obtain ⟨vs, ve, rfl, -⟩ := id own3
      go_wp2_with fail
      refine (rvalue_any _ _ _ _ own3).mono ?_
      rintro e w4 ⟨⟨v4, rfl, ts, te, rfl, p1, p2, p3⟩, b4⟩
      have HT : Hid ((readTok L).1 = ⟨1, [], valArr ⟨1, [(xs.length : Int)], xs⟩⟩) := hid (by rw [HR.out, ← HX.out]; rfl)
      have b24 := b3.trans (b4.mono b3.size)
      generalize valArr ⟨1, [(xs.length : Int)], xs⟩ = va at *
      clear own3 HR b3 b4 o1 HX
      obtain ⟨aS, cS, rfl⟩ := own_slice p1
      obtain ⟨aE, cE, rfl⟩ := own_slice p2
      have hT4 := (b24.block w.heap.size (by omega)).trans hT1
      have hBw4 : Below w.heap.size w w4 := hBw1.trans (b24.mono (by omega))
      obtain ⟨k0, k1, k2, k3, k4, f0, f1, f2, f3, f4⟩ := five_facts hT4
      clear b24 hT1 hBw1
      go_wp2_with fail
      refine bodyPost_ret (results_row_tmp rfl _ _ w.heap.size _ _ _ _ rfl (set5 hT4 (.int .i64 1) (.string ⟨#[]⟩) (.int .i64 va.kind) (.slice aS va.shape.length cS) (.slice aE va.elems.length cE)) Tryz.underlying48 rfl (by kernel_rfl)) rfl ?_
      exact ⟨⟨_, _, rfl, .inr ⟨HB.out, by rw [HT.out]; exact ⟨_, _, rfl, owns_mono (owns_put5 p1 (by omega) _ _ _ _ _) (by omega), owns_mono (owns_put5 p2 (by omega) _ _ _ _ _) (by omega), p3⟩, k, rfl, hk, HK.out⟩⟩, below_put5 hBw4 (Nat.le_refl _) _ _ _ _ _⟩
end Go.Proofs.YthlingdlehdlhaaGreatDoor
