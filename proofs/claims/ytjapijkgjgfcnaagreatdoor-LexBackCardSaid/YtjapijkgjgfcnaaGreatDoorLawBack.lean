/- LexBack: the walk of the law. -/
import Derived.Test.YtjapijkgjgfcnaaGreatDoorBackLaw
import Derived.Test.YtjapijkgjgfcnaaGreatDoorLAlive
namespace Go.Proofs.YtjapijkgjgfcnaaGreatDoor
open Go.RowKit Go.Shelf
set_option linter.unusedVariables false
set_option linter.unusedSimpArgs false

theorem repeat_blks (n : Nat) : Lib.repeatL [32] n = blks n := by
  induction n with
  | zero => rfl
  | succ n ih => rw [Lib.repeatL, ih]; rfl
set_option maxRecDepth 100000 in
set_option maxHeartbeats 4000000 in
theorem back_walk (s : ByteArray) (n : Int) (w : World) (hG : Glob w) (hT : Tabs w) (hs0 : s.size ≤ 9223372036854775807) (hn0 : 0 ≤ n) (hn1 : n ≤ 255) :
    Calls Tryz.prog 8 #[.string s, .int .u8 n] w fun e w' => e = .returned (.bool true) ∧ Below w.heap.size w w' := by
  have hsz : (s.size : Int) ≤ 9223372036854775807 := by omega
  go_enter Tryz.func8, Tryz.ntmps8
  go_wp2_with fail
  refine (lalive_any _ hG).mono ?_
  rintro e w1 ⟨rfl, b1⟩
  have hG1 := hG.below b1
  have hT1 := hT.below b1
  by_cases hlen : 20000 < s.size
  · have d1 : decide (20000 < s.size) = true := by simpa using hlen
    have d2 : decide ((20000 : Int) < (s.size : Int)) = true := by simp; omega
    clear hlen
    go_wp2_with fail
    go_ret
    exact ⟨rfl, b1⟩
  · have d1 : decide (20000 < s.size) = false := by simpa using hlen
    have d2 : decide ((20000 : Int) < (s.size : Int)) = false := by simp; omega
    obtain ⟨l, rfl⟩ : ∃ l, s = bs l := ⟨s.data.toList, rfl⟩
    have hl : l.length ≤ 20000 := by rw [bs_size] at hlen; omega
    obtain ⟨k, rfl⟩ : ∃ k : Nat, n = k := ⟨n.toNat, by omega⟩
    have hk : k ≤ 255 := by omega
    have HL := hid hl
    have HS := hid (bs_size l)
    have hrep := fun W => Tryz.strings_Repeat ⟨#[32]⟩ k W (by omega) (by show 1 * k ≤ _; omega)
    rw [show (ByteArray.mk #[32]).data.toList = [32] from rfl, repeat_blks] at hrep
    clear hlen hl hn0 hn1
    go_wp2_with fail
    refine (tokens_any l _ hG1 (by have := HL.out; omega)).mono ?_
    rintro e w2 ⟨⟨v2, us2, rfl, hrow2, htoks2⟩, b2⟩
    have h2 := IsToks.of_own hrow2 htoks2
    obtain ⟨a2, c2, rfl⟩ := own_slice hrow2
    have B2 := b1.trans (b2.mono b1.size)
    have hG2 := hG1.below b2
    have hT2 := hT1.below b2
    clear hrow2 htoks2 b2 b1 hG1 hT1
    go_wp2_with fail
    refine (hrep _).mono ?_
    rintro e w3 ⟨rfl, b3⟩
    rw [show (ByteArray.mk (blks k).toArray) = bs (blks k) from rfl]
    have h3 := h2.below b3
    have B3 := B2.trans (b3.mono B2.size)
    have hG3 := hG2.below b3
    have hT3 := hT2.below b3
    have HA := hid (show bs (blks k) ++ bs l ++ bs (blks k) = bs (blks k ++ l ++ blks k) by rw [bs_append, bs_append])
    have hbl : (blks k).length = k := by simp [blks]
    have hz1 : ((bs (blks k)).size : Int) ≤ 255 := by rw [bs_size, hbl]; omega
    have hz2 : ((bs l).size : Int) ≤ 20000 := by rw [bs_size]; have := HL.out; omega
    clear h2 b3 B2 hG2 hT2 hrep
    go_wp2_with fail
    have HT := hid (tokens_any (blks k ++ l ++ blks k) w3 hG3 (by rw [List.length_append, List.length_append, hbl]; have := HL.out; omega))
    rw [tokens_blanks] at HT
    have HC := hid (fun h => tokens_chain (l := l) h)
    have HE := hid (fun h => tokens_err (l := l) h)
    have HB := hid (fun h => tokens_back (l := l) h)
    have HN := hid (fun h => tokens_len (l := l) h)
    rw [HA.out]
    generalize tokensOf l = TT at *
    obtain ⟨T, er⟩ := TT
    simp only at h3 HT HC HE HB HN ⊢
    refine HT.out.mono ?_
    rintro e w4 ⟨⟨v4, us4, rfl, hrow4, htoks4⟩, b4⟩
    have h4 := IsToks.of_own hrow4 htoks4
    obtain ⟨a4, c4, rfl⟩ := own_slice hrow4
    have h34 := h3.below b4
    have B4 := B3.trans (b4.mono B3.size)
    have hG4 := hG3.below b4
    have hT4 := hT3.below b4
    have t1 : (er != er) = false := by simp
    clear hrow4 htoks4 b4 B3 hG3 hT3 h3 HT HA
    by_cases he : er = 0
    · subst he
      have HC1 := hid (HC.out rfl).1
      have HC2 := hid (HC.out rfl).2
      have HB1 := hid (HB.out rfl)
      have HN1 := hid (HN.out rfl)
      clear HC HE HB HN
      go_wp2_with fail
      refine (lsame_any _ _ T T _ h34 h4).mono ?_
      rintro e w5 ⟨rfl, b5⟩
      rw [decide_eq_true rfl]
      have h5 := h34.below b5
      have B5 := B4.trans (b5.mono B4.size)
      have hG5 := hG4.below b5
      have hT5 := hT4.below b5
      clear b5 B4 hG4 hT4 h34 h4
      go_wp2_with fail
      have hsh := show_any _ T _ hG5 hT5 h5 (by have := HC2.out; omega) (fun t ht => Nat.le_trans ((HC1.out.good t ht).txt_len) (by omega))
      rw [HC1.out.join] at hsh
      refine hsh.mono ?_
      rintro e w6 ⟨rfl, b6⟩
      have h6 := h5.below b6
      have B6 := B5.trans (b6.mono B5.size)
      have hG6 := hG5.below b6
      clear b6 B5 hG5 hT5 h5 hsh
      have HT := hid (tokens_any (shText T) _ hG6 (by have := HN1.out; have := HL.out; omega))
      rw [HB1.out] at HT
      go_wp2_with fail
      refine HT.out.mono ?_
      rintro e w7 ⟨⟨v7, us7, rfl, hrow7, htoks7⟩, b7⟩
      have h7 := IsToks.of_own hrow7 htoks7
      obtain ⟨a7, c7, rfl⟩ := own_slice hrow7
      have h67 := h6.below b7
      have B7 := B6.trans (b7.mono B6.size)
      clear hrow7 htoks7 b7 B6 hG6 h6 HT
      simp only at h7 ⊢
      go_wp2_with fail
      refine (lsame_any _ _ T T _ h7 h67).mono ?_
      rintro e w8 ⟨rfl, b8⟩
      rw [decide_eq_true rfl]
      go_wp2_with fail
      go_ret
      exact ⟨rfl, B7.trans (b8.mono B7.size)⟩
    · have hTe := HE.out he
      subst hTe
      have t2 : (er == 0) = false := by simpa using he
      have t3 : (er != 0) = true := by simpa using he
      clear HC HE HB HN he
      go_wp2_with fail
      go_ret
      exact ⟨rfl, B4⟩
end Go.Proofs.YtjapijkgjgfcnaaGreatDoor
