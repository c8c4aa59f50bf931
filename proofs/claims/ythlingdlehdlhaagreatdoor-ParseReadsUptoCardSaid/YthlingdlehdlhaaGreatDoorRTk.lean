/- The reference's reading: numbers, chars.
   The reference's reading: chars, isGlyph.
   The reference's tokens: Chars, value. -/
import Derived.Test.YthlingdlehdlhaaGreatDoorRNm
import Derived.Test.YthlingdlehdlhaaGreatDoorRdr
import Derived.Test.YthlingdlehdlhaaGreatDoorLexLaw
namespace Go.Proofs.YthlingdlehdlhaaGreatDoor
open Go.RowKit Go.Shelf
open Go.Lib (trimLeftB)
set_option linter.unusedVariables false
set_option linter.unusedSimpArgs false

theorem refVal_rng (f : Bool) (s : Bool × Nat) : -9223372036854775808 ≤ refVal f s ∧ refVal f s ≤ 9223372036854775807 := by
  unfold refVal wrap64
  split <;> omega

/-- What has been read of the numbers that stand at L: where the reading is (l1: behind the blanks), the end of the last one, whether all were fine. -/
def RefNums (l L : List UInt8) (l1 : List UInt8) (acc : List Int) (fine : Bool) (e : Int) : Prop :=
  (fine && !(numsFrom l1.length l1).2.2) = !(numsFrom L.length L).2.2 ∧ ((numsFrom L.length L).2.2 = false → acc ++ (numsFrom l1.length l1).1 = (numsFrom L.length L).1) ∧
  (numsFrom l1.length l1).2.1 = (numsFrom L.length L).2.1 ∧ ((e = -1 ∧ acc = [] ∧ l1 = L) ∨ (numB L = true ∧ ∃ q : Nat, e = q ∧ q ≤ l.length ∧ trimLeftB (l.drop q) 32 = l1 ∧ acc ≠ []))

theorem numsFrom_len (l : List UInt8) (h : numB l = true) : numsFrom l.length l = (numVal l :: (numsFrom (trimLeftB (numLeft l) 32).length (trimLeftB (numLeft l) 32)).1, (numsFrom (trimLeftB (numLeft l) 32).length (trimLeftB (numLeft l) 32)).2.1, numBad l || (numsFrom (trimLeftB (numLeft l) 32).length (trimLeftB (numLeft l) 32)).2.2) := by
  have h1 := numLeft_lt h
  have h2 := trimLeft_len (numLeft l) 32
  obtain ⟨n, hn⟩ : ∃ n, l.length = n + 1 := ⟨l.length - 1, by omega⟩
  have e := numsFrom_more n (trimLeftB (numLeft l) 32).length (trimLeftB (numLeft l) 32) (by omega) (Nat.le_refl _)
  rw [hn, numsFrom, if_pos h]
  simp only [e]
theorem numsFrom_none (l : List UInt8) (f : Nat) (h : numB l = false) : numsFrom f l = ([], l, false) := by
  cases f <;> simp [numsFrom, h]

theorem RefNums.start (l L : List UInt8) : RefNums l L L [] true (-1) := ⟨by simp, fun _ => rfl, rfl, .inl ⟨rfl, rfl, rfl⟩⟩
theorem RefNums.step {l L l1 : List UInt8} {acc : List Int} {fine : Bool} {e : Int} (h : RefNums l L l1 acc fine e) (hn : numB l1 = true) (q : Nat) (hq : q ≤ l.length) (hd : l.drop q = numLeft l1) :
    RefNums l L (trimLeftB (numLeft l1) 32) (acc ++ [refVal (minusB l1) (refNum (numDigs l1))]) (fine && refFits (minusB l1) (refNum (numDigs l1))) (q : Int) := by
  obtain ⟨h1, h2, h3, h4⟩ := h
  obtain ⟨s1, s2⟩ := num_same hn
  have hl := numsFrom_len l1 hn
  rw [hl] at h1 h2 h3
  simp only at h1 h2 h3
  refine ⟨?_, ?_, h3, .inr ⟨?_, q, rfl, hq, by rw [hd], by simp⟩⟩
  · rw [← h1, s1]; cases fine <;> cases refFits (minusB l1) (refNum (numDigs l1)) <;> simp
  · intro hb
    rw [hb] at h1
    have hnb : numBad l1 = false := by
      cases hx : numBad l1
      · rfl
      · rw [hx] at h1; simp at h1
    rw [← h2 hb, List.append_assoc, ← s2 hnb]; rfl
  · rcases h4 with ⟨_, _, rfl⟩ | ⟨h4, _⟩
    · exact hn
    · exact h4

set_option maxRecDepth 100000 in
set_option maxHeartbeats 4000000 in
theorem rnumbers_any (l : List UInt8) (p : Nat) (w : World) (hl : l.length ≤ 8000000) (hp : p ≤ l.length) :
    Calls Tryz.prog 72 #[.string (bs l), .int .i64 p] w fun e w' => (∃ (v : Value) (xs : List Int) (q : Int), e = .returned (.tuple #[v, .int .i64 q, .bool (!(numsFrom (l.drop p).length (l.drop p)).2.2)]) ∧
      w'.ownsRow w.heap.size 2 1 v xs.length (xs.map (.int .i64)) ∧ Rng xs ∧ xs.length ≤ l.length ∧ ((numsFrom (l.drop p).length (l.drop p)).2.2 = false → xs = (numsFrom (l.drop p).length (l.drop p)).1) ∧
      ((q = -1 ∧ numB (l.drop p) = false) ∨ (numB (l.drop p) = true ∧ ∃ k : Nat, q = k ∧ k ≤ l.length ∧ trimLeftB (l.drop k) 32 = (numsFrom (l.drop p).length (l.drop p)).2.1))) ∧ Below w.heap.size w w' := by
  obtain ⟨i0, hi, hz0, hz1, hz2⟩ := info_parts (show (Tryz.prog.info? 2).map (fun i => (i.zero, i.size, i.bytes)) = some (some (.int .i64 0), 1, 8) by kernel_rfl)
  obtain ⟨L, hL⟩ : ∃ L, l.drop p = L := ⟨_, rfl⟩
  have hs0 := RefNums.start l L
  rw [hL]
  have HL := hid hL
  have HS := hid hs0
  clear hL hs0
  go_enter Tryz.func72, Tryz.ntmps72
  go_wp2_with fail
  go_loopw [1, 7, 8, 9, 10, 11, 12] (fun i v e f _ _ _ wr => ∃ (q : Nat) (acc : List Int) (fine : Bool) (en : Int), q ≤ l.length ∧ i = .int .i64 q ∧ e = .int .i64 en ∧ f = .bool fine ∧ wr.ownsRow w.heap.size 2 1 v acc.length (acc.map (.int .i64)) ∧ Below w.heap.size w wr ∧ Hid (RefNums l L (l.drop q) acc fine en) ∧ acc.length + (l.drop q).length ≤ l.length ∧ Rng acc)
    (fun i _ _ _ _ _ _ _ => l.length - (intOf i).toNat)
  case atStart => exact ⟨p, [], true, -1, hp, rfl, rfl, rfl, World.ownsRow_nil _ _ _ _, Below.refl _ _, by rw [HL.out]; exact HS, by simp, fun i hi => by simp at hi⟩
  case round =>
    obtain ⟨q, acc, fine, en, hq, rfl, rfl, rfl, hrow, hB, hinv, hlen, hrng⟩ := hrel
    obtain ⟨av, cv, rfl⟩ := own_slice hrow
    have hdl : (l.drop q).length = l.length - q := List.length_drop
    go_wp2_with fail
    refine (rnumber_any l q _ hl hq).mono ?_
    rintro e w' ⟨(⟨hn, rfl⟩ | ⟨hn, k, hk, hd, rfl⟩), rfl⟩
    · have hf : numsFrom (l.drop q).length (l.drop q) = ([], l.drop q, false) := numsFrom_none _ _ hn
      obtain ⟨h1, h2, h3, h4⟩ := hinv.out
      rw [hf] at h1 h2 h3
      simp only [List.append_nil, Bool.not_false, Bool.and_true] at h1 h2 h3
      have H1 := hid h1
      have H2 := hid h2
      have H3 := hid h3
      have H4 := hid h4
      have HN := hid hn
      clear hf h1 h2 h3 h4 hn hinv
      go_wp2_with fail
      refine bodyPost_ret (results_tmp3 rfl _ _ _) rfl ?_
      refine ⟨⟨_, acc, en, by rw [← H1.out]; rfl, hrow, hrng, by omega, fun hb => H2.out hb, ?_⟩, hB⟩
      rcases H4.out with ⟨e1, e2, e3⟩ | ⟨e1, k, e2, e3, e4, e5⟩
      · exact .inl ⟨e1, by rw [← e3]; exact HN.out⟩
      · exact .inr ⟨e1, k, e2, e3, by rw [e4]; exact H3.out⟩
    · have HS2 : Hid (RefNums l L (trimLeftB (numLeft (l.drop q)) 32) (acc ++ [refVal (minusB (l.drop q)) (refNum (numDigs (l.drop q)))]) (fine && refFits (minusB (l.drop q)) (refNum (numDigs (l.drop q)))) (k : Int)) := hid (hinv.out.step hn k hk hd)
      have hlt := numLeft_lt hn
      have htl := trimLeft_len (numLeft (l.drop q)) 32
      have hrv := refVal_rng (minusB (l.drop q)) (refNum (numDigs (l.drop q)))
      have HD := hid hd
      have HN := hid hn
      rw [← hd] at hlt htl
      have hkl : k ≤ l.length := hk
      have hqk : q < k := by
        have e1 : (l.drop k).length = l.length - k := List.length_drop
        omega
      clear hinv hd hn
      generalize refVal (minusB (l.drop q)) (refNum (numDigs (l.drop q))) = r at *
      generalize refFits (minusB (l.drop q)) (refNum (numDigs (l.drop q))) = ft at *
      have tk : decide ((k : Int) < 0) = false := by simp
      cases fine
      all_goals
        go_wp2_with (at_builtin; go_must (refine wpList_append_own _ rfl _ _ 28 rfl w.heap.size 2 i0 (.int .i64 0) 1 8 Tryz.underlying28 hi hz0 hz1 hz2 rfl (by decide) _ _ _ rfl (hrow.alloc _) ⟨w'.heap.size, 0, none⟩ 1 1 [.int .i64 r] rfl rfl (one_new w' (.int .i64 r) 2) (by simp [Value.oneCell']) (by simp [maxLen]; omega) (by omega) (by have := hB.size; simp; omega) ?_); intro v' w3 hown' hgrow _; obtain ⟨g', cap', rfl⟩ := ownsRow_succ hown')
        have hB3 := (hB.alloc hB.size (.cells #[.int .i64 r] 2)).grown hgrow (by have := hB.size; simp; omega) (fun k e => (hrow.lt k e).1)
        clear hgrow
        refine (past_any l k _ (by omega) hk).mono ?_
        rintro e w4 ⟨⟨q2, rfl, hq2, hdq2⟩, rfl⟩
        have HQ := hid hdq2
        have hq2l : (l.drop q2).length = l.length - q2 := List.length_drop
        have hq2k : (l.drop q2).length ≤ (l.drop k).length := by rw [hdq2]; exact trimLeft_len _ _
        have hkl2 : (l.drop k).length = l.length - k := List.length_drop
        clear hdq2
        go_wp2_with fail
        go_roundw
        case rel =>
          refine ⟨q2, acc ++ [r], _, k, hq2, rfl, rfl, rfl, by simpa using hown', hB3, ?_, by simp; omega, rng_snoc hrng hrv⟩
          rw [HQ.out, HD.out]
          first | exact HS2 | simpa using HS2
        case measure => simp [intOf]; omega
end Go.Proofs.YthlingdlehdlhaaGreatDoor

namespace Go.Proofs.YthlingdlehdlhaaGreatDoor
open Go.RowKit Go.Shelf
open Go.Lib (trimLeftB)
set_option linter.unusedVariables false
set_option linter.unusedSimpArgs false

theorem one_more (l acc : List UInt8) (k : Nat) (h : k < l.length) : bs acc ++ (bs l).extract k (k + 1) = bs (acc ++ [bt (bs l) k]) := by
  rw [← bs_append]
  congr 1
  apply ByteArray.ext
  rw [← Array.toList_inj, slice_list, bs_list, drop_bt l k h]
  rfl

/-- Where the place behind the quoted characters is. -/
def EndAt (l : List UInt8) (o : Option (List UInt8)) (q : Int) : Prop := (o = none ∧ q = -1) ∨ ∃ k : Nat, q = k ∧ k ≤ l.length ∧ o = some (l.drop k)

set_option maxRecDepth 100000 in
set_option maxHeartbeats 4000000 in
theorem rrchars_any (l : List UInt8) (p : Nat) (w : World) (hl : l.length ≤ 8000000) (hp : p < l.length) :
    Calls Tryz.prog 75 #[.string (bs l), .int .i64 p] w fun e w' => (∃ q : Int, e = .returned (.tuple #[.string (bs (quoted (l.drop (p + 1))).1), .int .i64 q]) ∧ EndAt l (quoted (l.drop (p + 1))).2 q) ∧ w' = w := by
  have hs : (bs l).size = l.length := bs_size l
  have Hbt := hid (fun k h => bt_get (bs l) k h)
  have Hdr := hid (fun k h => drop_bt l k h)
  have Hom := hid (fun acc k h => one_more l acc k h)
  have Hs := hid hs
  have hmax : ((bs l).size : Int) ≤ 8000000 := by rw [hs]; omega
  have hp2 : p + 1 ≤ (bs l).size := by omega
  obtain ⟨Q, hQ⟩ : ∃ Q, (quoted (l.drop (p + 1))).1 = Q := ⟨_, rfl⟩
  obtain ⟨O, hO⟩ : ∃ O, (quoted (l.drop (p + 1))).2 = O := ⟨_, rfl⟩
  rw [hQ, hO]
  have HQ := hid hQ
  have HO := hid hO
  clear hQ hO hs hl hp
  go_enter Tryz.func75, Tryz.ntmps75
  go_wp2_with fail
  go_loop [6, 7] (fun o i => ∃ (acc : List UInt8) (k : Nat), o = .string (bs acc) ∧ i = .int .i64 k ∧ k ≤ (bs l).size ∧ Hid (acc ++ (quoted (l.drop k)).1 = Q) ∧ Hid ((quoted (l.drop k)).2 = O) ∧ acc.length ≤ k) (fun _ i => (bs l).size - (intOf i).toNat)
  case atStart => exact ⟨[], p + 1, rfl, by go_num, hp2, HQ, HO, by simp⟩
  case round =>
    obtain ⟨acc, k, rfl, rfl, hk, H1, H2, hal⟩ := hrel
    have hsa : ((bs acc).size : Int) ≤ 8000000 := by rw [bs_size]; omega
    by_cases hlt : k < (bs l).size
    · have hd : decide (k < (bs l).size) = true := by simpa using hlt
      have hc := Hbt.out k hlt
      have hdq := Hdr.out k (by rw [← Hs.out]; exact hlt)
      have hom := Hom.out acc k (by rw [← Hs.out]; exact hlt)
      rw [← hc] at hdq hom
      by_cases h39 : (bs l)[k] = 39
      · have t : (((bs l)[k].toNat : Int) == 39) = true := by rw [h39]; rfl
        rw [hdq, h39] at H1 H2
        clear hc hdq hom
        by_cases hlt2 : k + 1 < (bs l).size
        · have hd2 : decide (((bs l).size : Int) ≤ (k : Int) + 1) = false := by simp; omega
          have hc2 := Hbt.out (k + 1) hlt2
          have hdq2 := Hdr.out (k + 1) (by rw [← Hs.out]; exact hlt2)
          rw [← hc2] at hdq2
          by_cases h2 : (bs l)[k + 1] = 39
          · have t2 : (((bs l)[k + 1].toNat : Int) == 39) = true := by rw [h2]; rfl
            have G1 : Hid ((acc ++ [39]) ++ (quoted (l.drop (k + 2))).1 = Q) := hid (by
              have := H1.out; rw [hdq2, h2, quoted_cons, if_pos rfl] at this; simp only [if_true] at this; rw [← this]; simp)
            have G2 : Hid ((quoted (l.drop (k + 2))).2 = O) := hid (by
              have := H2.out; rw [hdq2, h2, quoted_cons, if_pos rfl] at this; simp only [if_true] at this; rw [← this])
            have G3 : Hid (bs acc ++ ⟨#[39]⟩ = bs (acc ++ [39])) := hid (by rw [← bs_append]; rfl)
            clear H1 H2 hc2 hdq2
            go_wp2_with fail
            go_round
            case rel => exact ⟨acc ++ [39], k + 2, by rw [← G3.out], by go_num, by omega, G1, G2, by simp; omega⟩
            case measure => simp [intOf]; omega
          · have t2 : (((bs l)[k + 1].toNat : Int) == 39) = false := by
              rw [beq_eq_false_iff_ne]; intro e; exact h2 (UInt8.toNat_inj.1 (by show _ = 39; omega))
            have G1 : Hid (acc = Q) := hid (by
              have := H1.out; rw [hdq2, quoted_cons, if_pos rfl] at this; simp only [if_neg h2, List.append_nil] at this; exact this)
            have G2 : Hid (some (l.drop (k + 1)) = O) := hid (by
              have := H2.out; rw [hdq2, quoted_cons, if_pos rfl] at this; simp only [if_neg h2] at this; rw [hdq2]; exact this)
            clear H1 H2 hc2 hdq2
            go_wp2_with fail
            refine bodyPost_ret (results_tmp2 rfl _ _ _) rfl ?_
            exact ⟨⟨_, by rw [← G1.out]; rfl, .inr ⟨k + 1, by omega, by rw [← Hs.out]; omega, G2.out.symm⟩⟩, rfl⟩
        · have hd2 : decide (((bs l).size : Int) ≤ (k : Int) + 1) = true := by simp; omega
          have hnil : l.drop (k + 1) = [] := List.drop_eq_nil_of_le (by rw [← Hs.out]; omega)
          have G1 : Hid (acc = Q) := hid (by
            have := H1.out; rw [hnil, quoted_cons, if_pos rfl] at this; simp only [List.append_nil] at this; exact this)
          have G2 : Hid (some (l.drop (k + 1)) = O) := hid (by
            have := H2.out; rw [hnil, quoted_cons, if_pos rfl] at this; simp only at this; rw [hnil]; exact this)
          clear H1 H2
          go_wp2_with fail
          refine bodyPost_ret (results_tmp2 rfl _ _ _) rfl ?_
          exact ⟨⟨_, by rw [← G1.out]; rfl, .inr ⟨k + 1, by omega, by rw [← Hs.out]; omega, G2.out.symm⟩⟩, rfl⟩
      · have t : (((bs l)[k].toNat : Int) == 39) = false := by
          rw [beq_eq_false_iff_ne]; intro e; exact h39 (UInt8.toNat_inj.1 (by show _ = 39; omega))
        have G1 : Hid ((acc ++ [bt (bs l) k]) ++ (quoted (l.drop (k + 1))).1 = Q) := hid (by
          have := H1.out; rw [hdq, quoted_cons, if_neg h39] at this; simp only at this; rw [← this, ← hc]; simp)
        have G2 : Hid ((quoted (l.drop (k + 1))).2 = O) := hid (by
          have := H2.out; rw [hdq, quoted_cons, if_neg h39] at this; exact this)
        have G3 := hid hom
        rw [hc] at G3
        have hk2 : (k : Int) + 1 ≤ ((bs l).size : Int) := by omega
        have hk3 : (k : Int) ≤ (k : Int) + 1 := by omega
        clear H1 H2 hc hdq hom
        go_wp2_with fail
        go_round
        case rel => exact ⟨acc ++ [bt (bs l) k], k + 1, by rw [← G3.out], by go_num, by omega, G1, G2, by simp; omega⟩
        case measure => simp [intOf]; omega
    · have hd : decide (k < (bs l).size) = false := by simpa using hlt
      have hnil : l.drop k = [] := List.drop_eq_nil_of_le (by rw [← Hs.out]; omega)
      have G1 : Hid (acc = Q) := hid (by have := H1.out; rw [hnil, quoted_nil] at this; simp only [List.append_nil] at this; exact this)
      have G2 : Hid (none = O) := hid (by have := H2.out; rw [hnil, quoted_nil] at this; exact this)
      clear H1 H2
      go_wp2_with fail
      refine bodyPost_ret (results_tmp2 rfl _ _ _) rfl ?_
      exact ⟨⟨_, by rw [← G1.out]; rfl, .inl ⟨G2.out.symm, rfl⟩⟩, rfl⟩

theorem glys : ∀ k : Nat, k < 45 → (Utf8.decode ⟨glyphsL.toArray⟩ (glyChars.take k).flatten.length).2 = (glyChars.getD k []).length ∧ (glyphsL.drop (glyChars.take k).flatten.length).take (glyChars.getD k []).length = glyChars.getD k [] ∧
    (glyChars.take k).flatten.length + (glyChars.getD k []).length = (glyChars.take (k + 1)).flatten.length ∧ (glyChars.take k).flatten.length + (glyChars.getD k []).length ≤ 93 := by decide +kernel
theorem glys_end : (glyChars.take 45).flatten.length = 93 ∧ glyphsL.length = 93 ∧ glyChars.length = 45 := by decide +kernel

set_option maxRecDepth 100000 in
theorem rglyphs_any (w : World) : Calls Tryz.prog 116 #[] w fun e w' => e = .returned (.string (bs glyphsL)) ∧ w' = w := by
  go_enter Tryz.func116, Tryz.ntmps116
  go_wp2_with fail
  go_ret
  exact ⟨rfl, rfl⟩

set_option maxRecDepth 100000 in
set_option maxHeartbeats 4000000 in
theorem isglyph_any (g : List UInt8) (w : World) (hg : g.length ≤ 8000000) :
    Calls Tryz.prog 58 #[.string (bs g)] w fun e w' => e = .returned (.bool (decide (g ∈ glyChars))) ∧ w' = w := by
  obtain ⟨ge1, ge2, ge3⟩ := glys_end
  have hsz : (bs glyphsL).size = 93 := by rw [bs_size]; exact ge2
  obtain ⟨G, hG⟩ : ∃ G, bs glyphsL = G := ⟨_, rfl⟩
  have HG := hid hG
  have Hsl := hid (fun i k => slice_list glyphsL i k)
  have Hdec := hid (show ∀ i : Nat, i < 93 → ∀ w, Calls Tryz.prog 79 #[.string G, .int .i64 i] w fun e w' => e = .returned (.int .i64 ((Utf8.decode G i).2 : Nat)) ∧ w' = w from fun i hi w => rsize_any G i w (by rw [← hG, hsz]; omega) (by rw [← hG, hsz]; exact hi))
  have HE1 := hid ge1
  have HE3 := hid ge3
  rw [hG] at hsz
  have Hsz := hid hsz
  have hszI : (G.size : Int) ≤ 1000 := by rw [hsz]; decide
  clear hsz
  clear ge1 ge2 ge3 hG
  go_enter Tryz.func58, Tryz.ntmps58
  go_wp2_with fail
  refine (rglyphs_any _).mono ?_
  rintro e w' ⟨rfl, rfl⟩
  rw [HG.out]
  go_wp2_with fail
  go_loop [4, 5] (fun i _ => ∃ (k q : Nat), k ≤ 45 ∧ i = .int .i64 q ∧ Hid (q = (glyChars.take k).flatten.length) ∧ Hid (g ∉ glyChars.take k) ∧ q ≤ 93) (fun i _ => 93 - (intOf i).toNat)
  case atStart => exact ⟨0, 0, by omega, rfl, hid rfl, hid (by simp), by omega⟩
  case round =>
    obtain ⟨k, q, hk, rfl, H1, H2, hq⟩ := hrel
    by_cases hlt : k < 45
    · obtain ⟨g1, g2, g3, g4⟩ := glys k hlt
      rw [← H1.out] at g1 g2 g3 g4
      have hpos : 1 ≤ (glyChars.getD k []).length := by
        have := List.all_eq_true.1 glyChars_all (glyChars.getD k []) (by rw [List.getD_eq_getElem?_getD, List.getElem?_eq_getElem (by rw [HE3.out]; exact hlt)]; exact List.getElem_mem _)
        cases hx : glyChars.getD k [] with
        | nil => rw [hx] at this; cases this
        | cons => simp
      have hq2 : q < 93 := by omega
      have hgs := Hsz.out
      have hd : decide (q < G.size) = true := by simp; omega
      have HX : Hid (((G.extract q (q + (glyChars.getD k []).length)).toList == (bs g).toList) = decide (glyChars.getD k [] = g)) := hid (by
        rw [← HG.out, ByteArray.toList_eq, slice_list, g2, ByteArray.toList_eq, bs_list, Bool.eq_iff_iff, beq_iff_eq, decide_eq_true_eq])
      have HT : Hid (glyChars.take (k + 1) = glyChars.take k ++ [glyChars.getD k []]) := hid (by
        rw [List.take_add_one, List.getD_eq_getElem?_getD, List.getElem?_eq_getElem (by rw [HE3.out]; exact hlt)]; rfl)
      have hdc := Hdec.out q hq2
      have hgd : Hid ((Utf8.decode G q).2 = (glyChars.getD k []).length) := hid (by rw [← HG.out]; exact g1)
      rw [hgd.out] at hdc
      have Hdc := hid hdc
      have G3 := hid g3
      have Hmem : Hid (glyChars.getD k [] ∈ glyChars) := hid (by rw [List.getD_eq_getElem?_getD, List.getElem?_eq_getElem (by rw [HE3.out]; exact hlt)]; exact List.getElem_mem _)
      clear g1 g2 g3 hdc
      generalize glyChars.getD k [] = ch at *
      generalize hn : ch.length = n at *
      have hi2 : (q : Int) + (n : Int) ≤ (G.size : Int) := by omega
      have hi3 : (q : Int) ≤ (q : Int) + (n : Int) := by omega
      have hi4 : q + n ≤ G.size := by omega
      have hq93 : (q : Int) + (n : Int) ≤ 1000 := by omega
      clear hgs
      go_wp2_with fail
      refine (Hdc.out _).mono ?_
      rintro e w4 ⟨rfl, rfl⟩
      cases hc : decide (ch = g) with
      | true =>
        have hx := HX.out
        rw [hc] at hx
        have hfin : Hid (decide (g ∈ glyChars) = true) := hid (by have := of_decide_eq_true hc; rw [← this]; exact decide_eq_true Hmem.out)
        clear hc HX
        go_wp2_with fail
        go_ret
        exact ⟨by rw [hfin.out]; rfl, rfl⟩
      | false =>
        have hx := HX.out
        rw [hc] at hx
        have hmem : Hid (g ∉ glyChars.take (k + 1)) := hid (by
          rw [HT.out, List.mem_append]
          rintro (h | h)
          · exact H2.out h
          · rw [List.mem_singleton] at h; exact of_decide_eq_false hc h.symm)
        clear hc HX
        go_wp2_with fail
        go_round
        case rel => exact ⟨k + 1, q + n, by omega, by go_num, hid (by rw [G3.out]), hmem, by omega⟩
        case measure => simp [intOf]; omega
    · obtain rfl : k = 45 := by omega
      have hq1 : q = 93 := by rw [H1.out, HE1.out]
      subst hq1
      have hd : decide (93 < G.size) = false := by rw [Hsz.out]; rfl
      have hd' : decide ((93 : Int) < (G.size : Int)) = false := by rw [Hsz.out]; rfl
      have hfin : Hid (decide (g ∈ glyChars) = false) := hid (decide_eq_false (fun h => H2.out (by rw [List.take_of_length_le (by rw [HE3.out]; omega)]; exact h)))
      clear H1 H2
      go_wp2_with fail
      go_ret
      exact ⟨by rw [hfin.out]; rfl, rfl⟩
end Go.Proofs.YthlingdlehdlhaaGreatDoor

namespace Go.Proofs.YthlingdlehdlhaaGreatDoor
open Go.RowKit Go.Shelf
set_option linter.unusedVariables false
set_option linter.unusedSimpArgs false

theorem tok_plain {w : World} {base : Nat} {k : Int} {t : List UInt8} : TokOwn w base (.agg #[.int .i64 k, .string (bs t), .int .i64 0, .slice none 0 0, .slice none 0 0]) ⟨k, t, noArr⟩ :=
  ⟨_, _, rfl, World.ownsRow_nil _ _ _ _, World.ownsRow_nil _ _ _ _, fun i hi => by simp [noArr] at hi⟩

theorem runes_len (s : ByteArray) (f p : Nat) : (runesFrom s f p).length ≤ f := by
  induction f generalizing p with
  | zero => simp [runesFrom]
  | succ f ih =>
    rw [runesFrom]
    split
    · have := ih (p + (Utf8.decode s p).2); simp only [List.length_cons]; omega
    · simp
theorem runesOf_len (s : ByteArray) : (runesOf s).length ≤ s.size := runes_len s s.size 0
theorem runes_rng (s : ByteArray) : Rng (runesOf s) := by
  have key : ∀ f p, ∀ x ∈ runesFrom s f p, 0 ≤ x ∧ x ≤ 2147483647 := by
    intro f
    induction f with
    | zero => intro p x hx; cases hx
    | succ f ih =>
      intro p x hx
      rw [runesFrom] at hx
      split at hx
      · rcases List.mem_cons.1 hx with rfl | h
        · have := decode_le s p; omega
        · exact ih _ x h
      · cases hx
  intro i hi
  have := key s.size 0 ((runesOf s)[i]?.getD 0) (by rw [List.getElem?_eq_getElem hi, Option.getD_some]; exact List.getElem_mem _)
  omega

set_option maxRecDepth 100000 in
theorem rchars11_any (s : ByteArray) (w : World) (hs : s.size ≤ 8000000) :
    Calls Tryz.prog 76 #[.string s] w fun e w' => (∃ v, e = .returned v ∧ ArrOwn w' w.heap.size v ⟨2, [((runesOf s).length : Int)], runesOf s⟩) ∧ Below w.heap.size w w' := by
  have hB1 : ∀ o, Below w.heap.size w (w.alloc o) := fun o => (Below.refl _ w).alloc (Nat.le_refl _) o
  have hlen := runesOf_len s
  have hrng := runes_rng s
  obtain ⟨rs, hrs⟩ : ∃ rs, runesOf s = rs := ⟨_, rfl⟩
  rw [hrs] at hlen hrng ⊢
  have Hrs := hid hrs
  clear hrs
  go_enter Tryz.func76, Tryz.ntmps76
  go_wp2_with fail
  refine (rruns_any s _ hs).mono ?_
  rintro e w1 ⟨⟨u1, rfl, o1⟩, b1⟩
  rw [Hrs.out] at o1
  obtain ⟨aR, cR, rfl⟩ := own_slice o1
  have z1 := (b1.block w.heap.size (by simp)).trans (heap_alloc_new w _)
  have hsz1 : w.heap.size + 1 ≤ w1.heap.size := by have := b1.size; simpa using this
  have hB2 := (hB1 (.cells #[.int .i64 0, .slice none 0 0, .slice none 0 0] 30)).trans (b1.mono (by simp))
  have hio := fun o => (Ints.of_owns o1).below ((Below.refl _ w1).alloc (Nat.le_refl _) o)
  go_wp2_with fail
  refine (rof_any 2 _ _ [(rs.length : Int)] rs _ (ints_one (by simp)) (hio _) (by simp) (by omega) hrng).mono ?_
  rintro e w2 ⟨⟨v1, rfl, vs, ve, rfl, p1, p2, p3⟩, b2⟩
  obtain ⟨aS, cS, rfl⟩ := own_slice p1
  obtain ⟨aE, cE, rfl⟩ := own_slice p2
  have z2 := (b2.block w.heap.size (by simp; omega)).trans ((heap_alloc_old w1 _ (by omega)).trans z1)
  have hsz2 : w1.heap.size + 1 ≤ w2.heap.size := by have := b2.size; simpa using this
  have hB : Below w.heap.size w w2 := (hB2.alloc hB2.size _).trans (b2.mono (by simp; omega))
  obtain ⟨k0, k1, k2, f0, f1, f2⟩ := zero_facts z2
  simp only [List.length_cons, List.length_nil, Nat.zero_add] at p1 ⊢
  clear hio b1 b2 hB1 hB2
  go_wp2_with fail
  have hW := heap_set3 z2 (.int .i64 2) (.slice aS 1 cS) (.slice aE rs.length cE)
  have q1 := ownsRow_setCell_below (ownsRow_setCell_below (ownsRow_setCell_below p1 (a := ⟨w.heap.size, 0, none⟩) (by simp; omega) (.int .i64 2)) (a := ⟨w.heap.size, 1, none⟩) (by simp; omega) (.slice aS 1 cS)) (a := ⟨w.heap.size, 2, none⟩) (by simp; omega) (.slice aE rs.length cE)
  have q2 := ownsRow_setCell_below (ownsRow_setCell_below (ownsRow_setCell_below p2 (a := ⟨w.heap.size, 0, none⟩) (by simp; omega) (.int .i64 2)) (a := ⟨w.heap.size, 1, none⟩) (by simp; omega) (.slice aS 1 cS)) (a := ⟨w.heap.size, 2, none⟩) (by simp; omega) (.slice aE rs.length cE)
  have qb := ((hB.setCell (p := ⟨w.heap.size, 0, none⟩) (by simp) (.int .i64 2)).setCell (p := ⟨w.heap.size, 1, none⟩) (by simp) (.slice aS 1 cS)).setCell (p := ⟨w.heap.size, 2, none⟩) (by simp) (.slice aE rs.length cE)
  refine bodyPost_ret (results_cell_row rfl _ _ w.heap.size _ _ _ _ rfl hW Tryz.underlying30 rfl (by kernel_rfl)) rfl ?_
  exact ⟨⟨_, rfl, _, _, rfl, owns_mono q1 (by simp; omega), owns_mono q2 (by simp; omega), p3⟩, qb⟩

theorem below_put5 {B : Nat} {w A : World} {R : Nat} (h : Below B w A) (hR : B ≤ R) (a0 a1 a2 a3 a4 : Value) :
    Below B w (((((A.setCell ⟨R, 0, none⟩ a0).setCell ⟨R, 1, none⟩ a1).setCell ⟨R, 2, none⟩ a2).setCell ⟨R, 3, none⟩ a3).setCell ⟨R, 4, none⟩ a4) :=
  ((((h.setCell hR a0).setCell hR a1).setCell hR a2).setCell hR a3).setCell hR a4
/-- An array as a token's value: a scalar if there is one element. -/
def valArr (x : Arr) : Arr := ⟨x.kind, if x.elems.length = 1 then [] else x.shape, x.elems⟩

set_option maxRecDepth 100000 in
theorem rvalue_any (v : Value) (x : Arr) (base : Nat) (w : World) (hx : ArrOwn w base v x) :
    Calls Tryz.prog 73 #[v] w fun e w' => (∃ v', e = .returned v' ∧ TokOwn w' base v' ⟨1, [], valArr x⟩) ∧ Below w.heap.size w w' := by
  obtain ⟨vs, ve, rfl, o1, o2, o3⟩ := hx
  obtain ⟨aS, cS, rfl⟩ := own_slice o1
  obtain ⟨aE, cE, rfl⟩ := own_slice o2
  obtain ⟨n, hn⟩ : ∃ n, x.elems.length = n := ⟨_, rfl⟩
  have HN := hid hn
  have hl63 : (n : Int) ≤ 9223372036854775807 := by
    obtain ⟨a, cap, e, h1, h2, -⟩ := (Ints.of_owns o2).parts
    rw [← hn]; omega
  rw [hn]
  go_enter Tryz.func73, Tryz.ntmps73
  by_cases h1 : n = 1
  · have HA : Hid (valArr x = ⟨x.kind, [], x.elems⟩) := hid (by unfold valArr; rw [hn, if_pos h1])
    have t1 : ((n : Int) == 1) = true := by simp [h1]
    rw [hn] at o2
    clear hn h1
    go_wp2_with fail
    refine bodyPost_ret (results_cell_row rfl _ _ (w.heap.size + 1) _ _ _ _ rfl (heap_alloc2_new w (.cells #[.int .i64 x.kind, .slice none 0 0, .slice aE n cE] 30) (.cells #[.int .i64 1, .string ⟨#[]⟩, .int .i64 x.kind, .slice none 0 0, .slice aE n cE] 48)) Tryz.underlying48 rfl (by kernel_rfl)) rfl ?_
    have hB := fun A B => (((Below.refl _ w).alloc (Nat.le_refl _) A).alloc (by simp) B)
    refine ⟨⟨_, rfl, ?_⟩, hB _ _⟩
    rw [HA.out]
    refine ⟨_, _, rfl, World.ownsRow_nil _ _ _ _, ?_, o3⟩
    simp only [HN.out]
    exact owns_below o2 (hB _ _)
  · have HA : Hid (valArr x = x) := hid (by unfold valArr; rw [hn, if_neg h1])
    have t1 : ((n : Int) == 1) = false := by rw [beq_eq_false_iff_ne]; omega
    rw [hn] at o2
    clear hn h1
    go_wp2_with fail
    refine bodyPost_ret (results_cell_row rfl _ _ (w.heap.size + 1) _ _ _ _ rfl (heap_alloc2_new w (.cells #[.int .i64 x.kind, .slice aS x.shape.length cS, .slice aE n cE] 30) (.cells #[.int .i64 1, .string ⟨#[]⟩, .int .i64 x.kind, .slice aS x.shape.length cS, .slice aE n cE] 48)) Tryz.underlying48 rfl (by kernel_rfl)) rfl ?_
    have hB := fun A B => (((Below.refl _ w).alloc (Nat.le_refl _) A).alloc (by simp) B)
    refine ⟨⟨_, rfl, ?_⟩, hB _ _⟩
    rw [HA.out]
    refine ⟨_, _, rfl, owns_below o1 (hB _ _), ?_, o3⟩
    simp only [HN.out]
    exact owns_below o2 (hB _ _)
end Go.Proofs.YthlingdlehdlhaaGreatDoor
