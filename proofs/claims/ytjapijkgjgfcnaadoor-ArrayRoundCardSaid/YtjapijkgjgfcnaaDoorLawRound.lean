/- ArrayRound: the walk of the law. -/
import Derived.Test.YtjapijkgjgfcnaaDoorPlaceLaw
import Derived.Test.YtjapijkgjgfcnaaDoorAlive
import Derived.Test.YtjapijkgjgfcnaaDoorRead11
namespace Go.Proofs.YtjapijkgjgfcnaaDoor
open Go.RowKit Go.Shelf
set_option linter.unusedVariables false

theorem tri (xs : List Int) (c n : Int) (hc : count xs = some c) :
    (decide (0 ≤ n) = true ∧ decide (n < c) = true ∧ (atRes xs n).isSome = true) ∨ (decide (0 ≤ n) = false ∧ (atRes xs n).isSome = false) ∨ (decide (0 ≤ n) = true ∧ decide (n < c) = false ∧ (atRes xs n).isSome = false) := by
  rw [at_isSome hc]
  cases decide (0 ≤ n) <;> cases decide (n < c) <;> simp

theorem atRes_length {xs l : List Int} {n : Int} (h : atRes xs n = some l) : l.length = xs.length := by
  unfold atRes at h
  split at h
  · simp at h
  · split at h
    · obtain rfl : atList xs n = l := by simpa using h
      simp [atList]
    · simp at h

theorem lexLt_step {l l' : List Int} {k : Nat} (h : k < l.length) (h' : k < l'.length) :
    lexLt (l.drop k) (l'.drop k) = if l[k]?.getD 0 = l'[k]?.getD 0 then lexLt (l.drop (k + 1)) (l'.drop (k + 1)) else decide (l[k]?.getD 0 < l'[k]?.getD 0) := by
  rw [drop_cons l k h, drop_cons l' k h', lexLt]

set_option maxRecDepth 100000 in
set_option maxHeartbeats 4000000 in
theorem round_walk (va vb : Value) (xs at_ : List Int) (n m : Int) (w : World) (hT : Tabs w) (hx : Ints w va xs) (hy : Ints w vb at_) (hn0 : -9223372036854775808 ≤ n) (hn1 : n ≤ 9223372036854775807) (hm0 : -9223372036854775808 ≤ m) (hm1 : m ≤ 9223372036854775807) :
    Calls Tryd.prog 3 #[va, .int .i64 n, .int .i64 m, vb] w fun e w' => e = .returned (.bool true) ∧ Below w.heap.size w w' := by
  obtain ⟨a', cap', rfl, h1', h2', h3', -⟩ := hy.parts
  go_enter Tryd.func3, Tryd.ntmps3
  go_wp2_with fail
  refine (alive_any _ hT).mono ?_
  rintro e w1 ⟨rfl, hB⟩
  go_wp2_with fail
  refine (count_any _ xs _ (hx.below hB)).mono ?_
  rintro e w1 ⟨rfl, rfl⟩
  clear hT
  by_cases hlen : 10 < at_.length
  · have hd : decide ((10 : Int) < (at_.length : Int)) = true := by simp; omega
    cases hc : count xs with
    | none => simp only [cRes]; go_wp2_with fail; go_ret; exact ⟨rfl, hB⟩
    | some c => simp only [cRes]; go_wp2_with fail; go_ret; exact ⟨rfl, hB⟩
  have hd : decide ((10 : Int) < (at_.length : Int)) = false := by simp; omega
  cases hc : count xs with
  | none => simp only [cRes]; go_wp2_with fail; go_ret; exact ⟨rfl, hB⟩
  | some c =>
    have hc4 := count_le _ _ hc
    simp only [cRes]
    have Hc := hid hc
    clear hlen hc
    go_wp2_with fail
    refine (place_any _ _ xs at_ _ (hx.below hB) (hy.below hB)).mono ?_
    rintro e w2 ⟨rfl, hb⟩
    replace hB := hB.trans (hb.mono hB.size)
    clear hb
    cases hp : place xs at_ with
    | none =>
      simp only [pRes]
      clear hp
      go_wp2_with fail
      refine (at_any _ xs n _ (hx.below hB) hn0 hn1).mono ?_
      rintro e w5 ⟨v5, rfl, ho5, hb5⟩
      have hB5 := hB.trans (hb5.mono hB.size)
      have i5 := Ints.of_owns ho5
      clear hB hb5 ho5
      obtain ⟨a5, c5, rfl, p51, p52, p53, -⟩ := i5.parts
      go_wp2_with fail
      refine (at_any _ xs m _ (hx.below hB5) hm0 hm1).mono ?_
      rintro e w6 ⟨v6, rfl, ho6, hb6⟩
      have hB6 := hB5.trans (hb6.mono hB5.size)
      have i6 := Ints.of_owns ho6
      have j5 := i5.below hb6
      clear hB5 hb6 ho6 i5
      obtain ⟨a6, c6, rfl, p61, p62, p63, -⟩ := i6.parts
      rcases tri xs c n Hc.out with ⟨n0, n1, ns⟩ | ⟨n0, ns⟩ | ⟨n0, n1, ns⟩ <;> rcases tri xs c m Hc.out with ⟨m0, m1, ms⟩ | ⟨m0, ms⟩ | ⟨m0, m1, ms⟩
      rotate_left
      iterate 8
        · rw [ns, ms]; go_wp2_with fail; go_ret; exact ⟨rfl, hB6⟩
      rw [ns, ms]
      obtain ⟨l, hl⟩ := Option.isSome_iff_exists.1 ns
      obtain ⟨l', hl'⟩ := Option.isSome_iff_exists.1 ms
      simp only [hl, hl', Option.getD_some] at j5 i6 p51 p61 ⊢
      have hll := hid (atRes_length hl)
      have hll' := hid (atRes_length hl')
      have hpl := at_place Hc.out hl
      have hlx := hid (at_lex Hc.out hl hl')
      clear hl hl' ns ms p53 p63
      go_wp2_with fail
      refine (place_any _ _ xs l _ (hx.below hB6) j5).mono ?_
      rintro e w7 ⟨rfl, hb7⟩
      rw [hpl]
      simp only [pRes]
      have i7 := i6.below hb7
      have j7 := j5.below hb7
      have hB7 := hB6.trans (hb7.mono hB6.size)
      clear hb7 hB6 i6 j5 hpl
      obtain ⟨_, _, ea, _, _, _, hcx⟩ := j7.parts
      obtain ⟨_, _, eb, _, _, _, hcy⟩ := i7.parts
      simp only [Value.slice.injEq] at ea eb
      obtain ⟨rfl, -, rfl⟩ := ea
      obtain ⟨rfl, -, rfl⟩ := eb
      clear i7 j7
      go_wp2_with fail
      go_loopw [22, 23] (fun b i wr => ∃ k : Nat, k ≤ l.length ∧ b = .bool false ∧ i = .int .i64 k ∧ lexLt (l.drop k) (l'.drop k) = decide (n < m) ∧ Quiet w7 wr) (fun _ i _ => l.length - (intOf i).toNat)
      case atStart => exact ⟨0, by omega, rfl, rfl, by simpa using hlx.out, Quiet.refl _⟩
      case round =>
        obtain ⟨k, hk, rfl, rfl, hlk, ⟨nq0, rfl⟩⟩ := hrel
        by_cases hlt : k < l.length
        · have hlt' : k < l'.length := by have h1 := hll.out; have h2 := hll'.out; omega
          rcases hcx with rfl | ⟨b, o, rfl, hcx⟩
          · simp at hlt
          rcases hcy with rfl | ⟨b', o', rfl, hcy⟩
          · simp only [List.length_nil] at hlt'; omega
          have hcell := hcx k hlt
          have hcell' := hcy k hlt'
          rw [lexLt_step hlt hlt'] at hlk
          generalize l[k]?.getD 0 = u at hcell hlk
          generalize l'[k]?.getD 0 = u' at hcell' hlk
          have hki : (k : Int) < (l.length : Int) := by omega
          have hki' : (k : Int) < (l'.length : Int) := by omega
          by_cases he : u = u'
          · rw [if_pos he] at hlk
            subst he
            have H := hid hlk
            clear hlk hcx hcy hll hll'
            go_wp2
            go_quiet (fail)
            go_wp2
            go_roundw
            case rel => exact ⟨k + 1, by omega, rfl, by go_num, H.out, ⟨_, rfl⟩⟩
            case measure => simp [intOf]; omega
          · rw [if_neg he] at hlk
            have tne : (u != u') = true := by simpa using he
            have H := hid hlk
            clear hlk hcx hcy hll hll' he
            go_wp2
            go_quiet (fail)
            go_wp2
            go_quiet (fail)
            go_wp2
            go_ret
            exact ⟨by show Ending.returned (Value.bool (decide (u < u') == decide (n < m))) = _; rw [H.out]; simp, below_drewN hB7 _⟩
        · have H : Hid (decide (n < m) = false) := hid (by
            rw [List.drop_of_length_le (by omega), List.drop_of_length_le (by have h1 := hll.out; have h2 := hll'.out; omega)] at hlk
            rw [← hlk]; rfl)
          clear hlk hcx hcy
          go_wp2
          go_ret
          exact ⟨by show Ending.returned (Value.bool (!decide (n < m))) = _; rw [H.out]; rfl, below_drewN hB7 _⟩
    | some k =>
      obtain ⟨hat, hk0, hkc⟩ := place_some Hc.out hp
      simp only [pRes]
      clear hp
      go_wp2_with fail
      refine (at_any _ xs k _ (hx.below hB) (by omega) (by omega)).mono ?_
      rintro e w3 ⟨v3, rfl, ho3, hb3⟩
      rw [hat] at ho3 ⊢
      simp only [Option.getD_some, Option.isSome_some] at ho3 ⊢
      have hB3 := hB.trans (hb3.mono hB.size)
      have i3 := Ints.of_owns ho3
      have t1 : decide (k < 0) = false := by simp; omega
      have t2 : decide (c ≤ k) = false := by simp; omega
      clear hB hb3 ho3 hat hk0 hkc
      go_wp2_with fail
      refine (rshapes_any _ _ at_ at_ _ i3 (hy.below hB3)).mono ?_
      rintro e w4 ⟨rfl, hq⟩
      have hB := hB3.trans (hq.below _)
      have hdec : decide (at_ = at_) = true := by simp
      rw [hdec]
      clear hdec hq hB3 i3
      go_wp2_with fail
      refine (at_any _ xs n _ (hx.below hB) hn0 hn1).mono ?_
      rintro e w5 ⟨v5, rfl, ho5, hb5⟩
      have hB5 := hB.trans (hb5.mono hB.size)
      have i5 := Ints.of_owns ho5
      clear hB hb5 ho5
      obtain ⟨a5, c5, rfl, p51, p52, p53, -⟩ := i5.parts
      go_wp2_with fail
      refine (at_any _ xs m _ (hx.below hB5) hm0 hm1).mono ?_
      rintro e w6 ⟨v6, rfl, ho6, hb6⟩
      have hB6 := hB5.trans (hb6.mono hB5.size)
      have i6 := Ints.of_owns ho6
      have j5 := i5.below hb6
      clear hB5 hb6 ho6 i5
      obtain ⟨a6, c6, rfl, p61, p62, p63, -⟩ := i6.parts
      rcases tri xs c n Hc.out with ⟨n0, n1, ns⟩ | ⟨n0, ns⟩ | ⟨n0, n1, ns⟩ <;> rcases tri xs c m Hc.out with ⟨m0, m1, ms⟩ | ⟨m0, ms⟩ | ⟨m0, m1, ms⟩
      rotate_left
      iterate 8
        · rw [ns, ms]; go_wp2_with fail; go_ret; exact ⟨rfl, hB6⟩
      rw [ns, ms]
      obtain ⟨l, hl⟩ := Option.isSome_iff_exists.1 ns
      obtain ⟨l', hl'⟩ := Option.isSome_iff_exists.1 ms
      simp only [hl, hl', Option.getD_some] at j5 i6 p51 p61 ⊢
      have hll := hid (atRes_length hl)
      have hll' := hid (atRes_length hl')
      have hpl := at_place Hc.out hl
      have hlx := hid (at_lex Hc.out hl hl')
      clear hl hl' ns ms p53 p63
      go_wp2_with fail
      refine (place_any _ _ xs l _ (hx.below hB6) j5).mono ?_
      rintro e w7 ⟨rfl, hb7⟩
      rw [hpl]
      simp only [pRes]
      have i7 := i6.below hb7
      have j7 := j5.below hb7
      have hB7 := hB6.trans (hb7.mono hB6.size)
      clear hb7 hB6 i6 j5 hpl
      obtain ⟨_, _, ea, _, _, _, hcx⟩ := j7.parts
      obtain ⟨_, _, eb, _, _, _, hcy⟩ := i7.parts
      simp only [Value.slice.injEq] at ea eb
      obtain ⟨rfl, -, rfl⟩ := ea
      obtain ⟨rfl, -, rfl⟩ := eb
      clear i7 j7
      go_wp2_with fail
      go_loopw [22, 23] (fun b i wr => ∃ k : Nat, k ≤ l.length ∧ b = .bool false ∧ i = .int .i64 k ∧ lexLt (l.drop k) (l'.drop k) = decide (n < m) ∧ Quiet w7 wr) (fun _ i _ => l.length - (intOf i).toNat)
      case atStart => exact ⟨0, by omega, rfl, rfl, by simpa using hlx.out, Quiet.refl _⟩
      case round =>
        obtain ⟨k, hk, rfl, rfl, hlk, ⟨nq0, rfl⟩⟩ := hrel
        by_cases hlt : k < l.length
        · have hlt' : k < l'.length := by have h1 := hll.out; have h2 := hll'.out; omega
          rcases hcx with rfl | ⟨b, o, rfl, hcx⟩
          · simp at hlt
          rcases hcy with rfl | ⟨b', o', rfl, hcy⟩
          · simp only [List.length_nil] at hlt'; omega
          have hcell := hcx k hlt
          have hcell' := hcy k hlt'
          rw [lexLt_step hlt hlt'] at hlk
          generalize l[k]?.getD 0 = u at hcell hlk
          generalize l'[k]?.getD 0 = u' at hcell' hlk
          have hki : (k : Int) < (l.length : Int) := by omega
          have hki' : (k : Int) < (l'.length : Int) := by omega
          by_cases he : u = u'
          · rw [if_pos he] at hlk
            subst he
            have H := hid hlk
            clear hlk hcx hcy hll hll'
            go_wp2
            go_quiet (fail)
            go_wp2
            go_roundw
            case rel => exact ⟨k + 1, by omega, rfl, by go_num, H.out, ⟨_, rfl⟩⟩
            case measure => simp [intOf]; omega
          · rw [if_neg he] at hlk
            have tne : (u != u') = true := by simpa using he
            have H := hid hlk
            clear hlk hcx hcy hll hll' he
            go_wp2
            go_quiet (fail)
            go_wp2
            go_quiet (fail)
            go_wp2
            go_ret
            exact ⟨by show Ending.returned (Value.bool (decide (u < u') == decide (n < m))) = _; rw [H.out]; simp, below_drewN hB7 _⟩
        · have H : Hid (decide (n < m) = false) := hid (by
            rw [List.drop_of_length_le (by omega), List.drop_of_length_le (by have h1 := hll.out; have h2 := hll'.out; omega)] at hlk
            rw [← hlk]; rfl)
          clear hlk hcx hcy
          go_wp2
          go_ret
          exact ⟨by show Ending.returned (Value.bool (!decide (n < m))) = _; rw [H.out]; rfl, below_drewN hB7 _⟩

end Go.Proofs.YtjapijkgjgfcnaaDoor
