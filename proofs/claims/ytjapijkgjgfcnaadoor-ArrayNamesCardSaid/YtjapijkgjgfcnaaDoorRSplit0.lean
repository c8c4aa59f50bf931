/- The reference's small readers: begins, blank, Texts. -/
import Derived.Test.YtjapijkgjgfcnaaDoorLexSmall
import Derived.Test.YtjapijkgjgfcnaaDoorSeq
namespace Go.Proofs.YtjapijkgjgfcnaaDoor
open Go.RowKit Go.Shelf
set_option linter.unusedVariables false

theorem dia_slice (s : ByteArray) (i : Nat) (h : i + 3 ≤ s.size) : (s.extract i (i + 3)).data.toList = (s.data.toList.drop i).take 3 := by
  rw [ByteArray.data_extract, Array.toList_extract, List.extract_eq_take_drop]
  congr 1; omega

theorem diaAt_iff (s : ByteArray) (i : Nat) (h : i + 3 ≤ s.size) : diaAt s i = true ↔ (s.extract i (i + 3)).data.toList = [226, 139, 132] := by
  rw [dia_slice s i h]
  unfold diaAt Lib.hasPrefix dia
  rw [List.isPrefixOf_iff_prefix]
  constructor
  · rintro ⟨t, ht⟩; rw [← ht]; rfl
  · intro e; exact ⟨(s.data.toList.drop i).drop 3, by rw [← e, List.take_append_drop]⟩

theorem diaAt_far (s : ByteArray) (i : Nat) (h : ¬ i + 3 ≤ s.size) : diaAt s i = false := by
  cases hd : diaAt s i
  · rfl
  · exact absurd (dia_bytes s i hd).1 h

set_option maxRecDepth 100000 in
set_option maxHeartbeats 400000 in
theorem begins_dia (s : ByteArray) (i : Nat) (w : World) (hs : s.size ≤ 1000000000) (hi : i ≤ s.size) :
    Calls Tryd.prog 51 #[.string s, .int .i64 i, .string ⟨#[226, 139, 132]⟩] w fun e w' => e = .returned (.bool (diaAt s i)) ∧ w = w' := by
  by_cases h : i + 3 ≤ s.size
  · have hd := diaAt_iff s i h
    have hk : decide ((i : Int) + 3 ≤ (s.size : Int)) = true := by simp; omega
    have h2 : (i : Int) + 3 ≤ (s.size : Int) := by omega
    have h3 : (i : Int) ≤ (i : Int) + 3 := by omega
    have H : Hid (((s.extract i (i + 3)).toList == [226, 139, 132]) = diaAt s i) := hid (by
      rw [ByteArray.toList_eq, Bool.eq_iff_iff, beq_iff_eq]; exact hd.symm)
    clear hd
    go_enter Tryd.func51, Tryd.ntmps51
    go_wp2_with fail
    go_ret
    exact ⟨ret_bool H.out, rfl⟩
  · have hd := hid (diaAt_far s i h)
    have hk : decide ((i : Int) + 3 ≤ (s.size : Int)) = false := by simp; omega
    go_enter Tryd.func51, Tryd.ntmps51
    go_wp2_with fail
    go_ret
    exact ⟨by rw [hd.out]; rfl, rfl⟩

set_option maxRecDepth 100000 in
set_option maxHeartbeats 400000 in
theorem blank_any (s : ByteArray) (w : World) (hs : s.size ≤ 9223372036854775807) :
    Calls Tryd.prog 52 #[.string s] w fun e w' => e = .returned (.bool (blankB s)) ∧ w = w' := by
  have hsl : s.data.toList.length = s.size := by rw [Array.length_toList]; rfl
  have hb : ∀ k, k < s.size → s.data.toList[k]? = some (bt s k) := fun k h => by
    unfold bt; rw [List.getElem?_eq_getElem (by omega)]; rfl
  have Hsl := hid hsl
  have Hb := hid hb
  clear hsl hb
  go_enter Tryd.func52, Tryd.ntmps52
  go_wp2_with fail
  go_loop [3] (fun i => ∃ k : Nat, k ≤ s.size ∧ i = .int .i64 k ∧ ∀ j, j < k → bt s j = 32) (fun i => s.size - (intOf i).toNat)
  case atStart => exact ⟨0, by omega, rfl, by intro j h; omega⟩
  case round =>
    obtain ⟨k, hk, rfl, hall⟩ := hrel
    have Hall := hid hall
    clear hall
    by_cases hlt : k < s.size
    · have hg := hid (bt_get s k hlt)
      have hd : decide ((k : Int) < (s.size : Int)) = true := by simp; omega
      by_cases h32 : s[k] = 32
      · have t : ((s[k].toNat : Int) != 32) = false := by rw [h32]; decide
        have Hn : Hid (∀ j, j < k + 1 → bt s j = 32) := hid (fun j hj => by
          by_cases e : j = k
          · subst e; rw [← hg.out]; exact h32
          · exact Hall.out j (by omega))
        clear h32
        go_wp2_with fail
        go_round
        case rel => exact ⟨k + 1, by omega, by go_num, Hn.out⟩
        case measure => simp [intOf]; omega
      · have t : ((s[k].toNat : Int) != 32) = true := by
          rw [bne_iff_ne]; intro e; apply h32; rw [← UInt8.toNat_inj]; simpa using (by omega : s[k].toNat = 32)
        have H : Hid (blankB s = false) := hid (by
          unfold blankB
          rw [List.all_eq_false]
          refine ⟨bt s k, List.mem_of_getElem? (Hb.out k hlt), ?_⟩
          rw [← hg.out]; simpa using h32)
        clear h32
        go_wp2_with fail
        go_ret
        exact ⟨by rw [H.out]; rfl, rfl⟩
    · obtain rfl : k = s.size := by omega
      have H : Hid (blankB s = true) := hid (by
        unfold blankB
        rw [List.all_eq_true]
        intro x hx
        obtain ⟨j, hj, rfl⟩ := List.getElem_of_mem hx
        have h1 := Hb.out j (by rw [← Hsl.out]; exact hj)
        rw [List.getElem?_eq_getElem hj] at h1
        rw [Option.some.inj h1, Hall.out j (by rw [← Hsl.out]; exact hj)]; rfl)
      have hd : decide ((s.size : Int) < (s.size : Int)) = false := by simp
      go_wp2_with fail
      go_ret
      exact ⟨by rw [H.out]; rfl, rfl⟩

theorem str_ne {l l' : ByteArray} (h : l ≠ l') : (l.toList == l'.toList) = false := by
  rw [beq_eq_false_iff_ne]
  intro e
  apply h
  rw [ByteArray.toList_eq, ByteArray.toList_eq] at e
  apply ByteArray.ext
  exact Array.toList_inj.1 e

/-- A slice of strings that reads as a list. -/
def Strs (w : World) (v : Value) (xs : List ByteArray) : Prop :=
  ∃ a cap, v = .slice a xs.length cap ∧ xs.length ≤ cap ∧ cap ≤ 9223372036854775807 ∧ (a = none → cap = 0) ∧ Lies w a (xs.map Value.string)

theorem Strs.below {w w' : World} {v : Value} {xs : List ByteArray} (h : Strs w v xs) (hb : Below w.heap.size w w') : Strs w' v xs := by
  obtain ⟨a, cap, e, h1, h2, h3, h4⟩ := h
  exact ⟨a, cap, e, h1, h2, h3, h4.below hb⟩

theorem Strs.parts {w : World} {v : Value} {xs : List ByteArray} (h : Strs w v xs) :
    ∃ a cap, v = .slice a xs.length cap ∧ xs.length ≤ cap ∧ cap ≤ 9223372036854775807 ∧ (a = none → cap = 0) ∧
      (xs = [] ∨ ∃ b o, a = some ⟨b, o, none⟩ ∧ ∀ i (hi : i < xs.length), w.cell? ⟨b, o + i, none⟩ = some (.string xs[i])) := by
  obtain ⟨a, cap, e, h1, h2, h3, h4⟩ := h
  refine ⟨a, cap, e, h1, h2, h3, ?_⟩
  cases xs with
  | nil => exact .inl rfl
  | cons x r =>
    obtain ⟨b, o, e', _⟩ := h4 0 (by simp)
    refine .inr ⟨b, o, e', fun i hi => ?_⟩
    obtain ⟨b', o', e'', hc⟩ := h4 i (by simpa using hi)
    obtain ⟨rfl, rfl⟩ : b = b' ∧ o = o' := by rw [e'] at e''; simpa using e''
    rw [hc, List.getElem_map]

theorem Strs.of_owns {w : World} {base e : Nat} {v : Value} {xs : List ByteArray} (h : w.ownsRow base e 1 v xs.length (xs.map Value.string)) : Strs w v xs := by
  have h0 := h
  obtain ⟨h1, ⟨rfl, h2⟩ | ⟨g, cap, cur, rfl, h3, h4, h5, h6, h7, h8⟩⟩ := h
  · obtain rfl : xs = [] := List.eq_nil_of_length_eq_zero h2
    exact ⟨none, 0, rfl, Nat.le_refl _, by omega, fun _ => rfl, fun i hi => by simp at hi⟩
  · refine ⟨some ⟨g, 0, none⟩, cap, rfl, h5, by simpa [maxLen] using h6, by simp, fun i hi => ⟨g, 0, rfl, ?_⟩⟩
    have := h0.cells (g := g) rfl i _ (List.getElem?_eq_getElem hi)
    rw [Addr.add_lit] at this
    exact this

set_option maxRecDepth 100000 in
set_option maxHeartbeats 400000 in
theorem rtexts_any (va vb : Value) (xs ys : List ByteArray) (w : World) (hx : Strs w va xs) (hy : Strs w vb ys) :
    Calls Tryd.prog 29 #[va, vb] w fun e w' => e = .returned (.bool (decide (xs = ys))) ∧ Quiet w w' := by
  obtain ⟨a, cap, rfl, h1, h2, h3, hc⟩ := hx.parts
  obtain ⟨a', cap', rfl, h1', h2', h3', hc'⟩ := hy.parts
  clear hx hy
  by_cases hlen : xs.length = ys.length
  · have hb : ((xs.length : Int) != (ys.length : Int)) = false := by simp [hlen]
    have hlen' : ¬ xs.length < ys.length := by omega
    have hlen2 : ¬ ys.length < xs.length := by omega
    clear hlen
    go_enter Tryd.func29, Tryd.ntmps29
    go_wp2
    go_loopw [5] (fun i wr => ∃ k : Nat, k ≤ xs.length ∧ i = .int .i64 k ∧ xs.take k = ys.take k ∧ Quiet w wr) (fun i _ => xs.length - (intOf i).toNat)
    case atStart => exact ⟨0, by omega, rfl, by simp, Quiet.refl _⟩
    case round =>
      obtain ⟨k, hk, rfl, ht, ⟨nq0, rfl⟩⟩ := hrel
      by_cases hlt : k < xs.length
      · rcases hc with rfl | ⟨b, o, rfl, hc⟩
        · simp at hlt
        rcases hc' with rfl | ⟨b', o', rfl, hc'⟩
        · simp only [List.length_nil] at hlen2; omega
        have hlt' : k < ys.length := by omega
        have hcell := hc k hlt
        have hcell' := hc' k hlt'
        have t1 : xs.take (k + 1) = xs.take k ++ [xs[k]] := List.take_succ_eq_append_getElem hlt
        have t2 : ys.take (k + 1) = ys.take k ++ [ys[k]] := List.take_succ_eq_append_getElem hlt'
        generalize xs[k] = l at hcell t1
        generalize ys[k] = l' at hcell' t2
        have hki : (k : Int) < (xs.length : Int) := by omega
        have hki' : (k : Int) < (ys.length : Int) := by omega
        by_cases he : l = l'
        · subst he
          have H : Hid (xs.take (k + 1) = ys.take (k + 1)) := hid (by rw [t1, t2, ht])
          clear t1 t2 ht hc hc'
          go_wp2
          go_quiet (fail)
          go_wp2
          go_roundw
          case rel => exact ⟨k + 1, by omega, by go_num, H.out, ⟨_, rfl⟩⟩
          case measure => simp [intOf]; omega
        · have H : Hid (xs ≠ ys) := hid (by rintro rfl; exact he (by simpa using t1.symm.trans t2))
          have hbe := str_ne he
          clear t1 t2 he ht hc hc'
          go_wp2
          go_quiet (fail)
          go_wp2
          go_ret
          exact ⟨by rw [decide_eq_false H.out]; rfl, (Quiet.mk _ _).trans (Quiet.mk _ _)⟩
      · have H : Hid (xs = ys) := hid (by rw [List.take_of_length_le (by omega), List.take_of_length_le (by omega)] at ht; exact ht)
        clear ht hc hc'
        go_wp2
        go_ret
        exact ⟨by rw [decide_eq_true H.out]; rfl, ⟨_, rfl⟩⟩
  · have hb : ((xs.length : Int) != (ys.length : Int)) = true := by rw [bne_iff_ne]; omega
    have H : Hid (xs ≠ ys) := hid (fun e => hlen (by rw [e]))
    clear hlen hc hc'
    go_enter Tryd.func29, Tryd.ntmps29
    go_wp2
    go_ret
    exact ⟨by rw [decide_eq_false H.out]; rfl, Quiet.refl _⟩

end Go.Proofs.YtjapijkgjgfcnaaDoor
