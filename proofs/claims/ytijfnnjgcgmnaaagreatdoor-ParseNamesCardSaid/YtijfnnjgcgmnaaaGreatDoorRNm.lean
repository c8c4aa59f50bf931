/- The reference's decode; Size.
   The reference's arrays: Ints, Longs, Of, Vector, Runes, Chars; value; Valid.
   The reference's reading: begins, past, number.
   The reference's reading: number. -/
import Derived.Test.YtijfnnjgcgmnaaaGreatDoorTok
import Derived.Test.YtijfnnjgcgmnaaaGreatDoorChars
import Derived.Laws.AppendOwnNone
import Derived.Lib.FieldsU
namespace Go.Proofs.YtijfnnjgcgmnaaaGreatDoor
open Go.RowKit Go.Shelf
set_option linter.unusedVariables false
set_option linter.unusedSimpArgs false

theorem bN_get (s : ByteArray) (k : Nat) (h : k < s.size) : s[k].toNat = bN s k := by
  unfold bN
  rw [bt_get s k h]

theorem conts_lt (s : ByteArray) (i n0 : Nat) (h0 : n0 < 32) (k : Nat) (hk : k ≤ 3) : nAfter s i n0 k ≤ 32 * 64 ^ k + 64 ^ k * 4 := by
  have h1 := bN_lt s (i + 1)
  have h2 := bN_lt s (i + 2)
  have h3 := bN_lt s (i + 3)
  have : k = 0 ∨ k = 1 ∨ k = 2 ∨ k = 3 := by omega
  rcases this with rfl | rfl | rfl | rfl
  · show n0 ≤ 32 * 1 + 1 * 4; omega
  · rw [nAfter1]; show _ ≤ 32 * 64 + 64 * 4; omega
  · rw [nAfter2]; show _ ≤ 32 * 4096 + 4096 * 4; omega
  · rw [nAfter3]; show _ ≤ 32 * 262144 + 262144 * 4; omega

theorem conts_upto {s : ByteArray} {i M j : Nat} (h : conts s i M = true) (hj : j ≤ M) : conts s i j = true := by
  induction M with
  | zero => obtain rfl : j = 0 := by omega
            rfl
  | succ M ih =>
    have h' : (conts s i M && contB s (i + (M + 1))) = true := h
    rw [Bool.and_eq_true] at h'
    by_cases e : j = M + 1
    · subst e; exact h
    · exact ih h'.1 (by omega)


end Go.Proofs.YtijfnnjgcgmnaaaGreatDoor

namespace Go.Proofs.YtijfnnjgcgmnaaaGreatDoor
open Go.RowKit Go.Shelf
set_option linter.unusedVariables false
set_option linter.unusedSimpArgs false

theorem decode_in (s : ByteArray) (q : Nat) (h : q < s.size) : q + (Utf8.decode s q).2 ≤ s.size := by
  have := decode_le s q
  have := Lib.decodeN_le_n' (s.size - q) (s.get! q).toNat (s.get! (q + 1)).toNat (s.get! (q + 2)).toNat (s.get! (q + 3)).toNat (by omega)
  rw [← Lib.decode_at] at this
  omega
theorem cells_news {w : World} {b o : Nat} {xs : List Int} (hc : ∀ i, i < xs.length → w.cell? ⟨b, o + i, none⟩ = some (.int .i64 (xs[i]?.getD 0))) :
    ∀ j u, (xs.map (Value.int .i64))[j]? = some u → w.cell? ((⟨b, o, none⟩ : Addr).add j) = some u := by
  intro j u hj
  obtain ⟨hj', rfl⟩ := List.getElem?_eq_some_iff.1 hj
  have hj2 : j < xs.length := by simpa using hj'
  have := hc j hj2
  rw [List.getElem?_eq_getElem hj2, Option.getD_some] at this
  rw [List.getElem_map, Addr.add_lit]; exact this
theorem one_cells (xs : List Int) : ∀ u ∈ xs.map (Value.int .i64), u.oneCell' = true := by
  intro u hu; obtain ⟨n, _, rfl⟩ := List.mem_map.1 hu; rfl





end Go.Proofs.YtijfnnjgcgmnaaaGreatDoor

namespace Go.Proofs.YtijfnnjgcgmnaaaGreatDoor
open Go.RowKit Go.Shelf
open Go.Lib (trimLeftB)
set_option linter.unusedVariables false
set_option linter.unusedSimpArgs false

theorem drop_bt (l : List UInt8) (k : Nat) (h : k < l.length) : l.drop k = bt (bs l) k :: l.drop (k + 1) := by
  rw [List.drop_eq_getElem_cons h]
  congr 1
  unfold bt
  rw [bs_list, List.getElem?_eq_getElem h]; rfl

theorem slice_list (l : List UInt8) (i k : Nat) : ((bs l).extract i (i + k)).data.toList = (l.drop i).take k := by
  have : ((bs l).extract i (i + k)) = bs ((l.drop i).take k) := by
    apply ByteArray.ext; simp [bs, List.extract_eq_take_drop]
  rw [this, bs_list]


end Go.Proofs.YtijfnnjgcgmnaaaGreatDoor

namespace Go.Proofs.YtijfnnjgcgmnaaaGreatDoor
open Go.RowKit Go.Shelf
open Go.Lib (trimLeftB)
set_option linter.unusedVariables false
set_option linter.unusedSimpArgs false

theorem numLeft_dw (L : List UInt8) : numLeft L = (numBody L).dropWhile digB := by
  unfold numLeft digLen
  conv => lhs; rw [← List.takeWhile_append_dropWhile (p := digB) (l := numBody L)]
  rw [List.drop_left']
  rw [List.takeWhile_append_dropWhile]

theorem numB_body (L : List UInt8) : numB L = match numBody L with | [] => false | c :: _ => digB c := by
  unfold numB numBody minusB Lib.trimPrefix Lib.hasPrefix
  by_cases h : ([194, 175] : List UInt8).isPrefixOf L = true
  · rw [if_pos h, if_pos h]; rfl
  · rw [if_neg h, if_neg h]; rfl

theorem numBody_drop (l : List UInt8) (p : Nat) : numBody (l.drop p) = l.drop (if minusB (l.drop p) = true then p + 2 else p) := by
  unfold numBody
  split
  · rw [List.drop_drop]
  · rfl

theorem minus_room {l : List UInt8} {p : Nat} (h : minusB (l.drop p) = true) : p + 2 ≤ l.length := by
  unfold minusB Lib.hasPrefix at h
  have := (List.isPrefixOf_iff_prefix.1 h).length_le
  rw [List.length_drop] at this
  simp at this
  omega

def RefIn (l : List UInt8) (L : List UInt8) (q : Nat) (st : Bool × Nat) : Prop :=
  ((l.drop q).takeWhile digB).foldl refStep st = refNum (numDigs L) ∧ (l.drop q).dropWhile digB = numLeft L

theorem RefIn.step {l L : List UInt8} {q : Nat} {st : Bool × Nat} {c : UInt8} (h : RefIn l L q st) (hd : l.drop q = c :: l.drop (q + 1)) (hc : digB c = true) : RefIn l L (q + 1) (refStep st c) := by
  obtain ⟨h1, h2⟩ := h
  rw [hd, List.takeWhile_cons, if_pos hc] at h1
  rw [hd, List.dropWhile_cons_of_pos hc] at h2
  exact ⟨h1, h2⟩
theorem RefIn.ends {l L : List UInt8} {q : Nat} {st : Bool × Nat} (h : RefIn l L q st) (hd : ∀ c r, l.drop q = c :: r → digB c = false) : st = refNum (numDigs L) ∧ l.drop q = numLeft L := by
  obtain ⟨h1, h2⟩ := h
  cases hl : l.drop q with
  | nil => rw [hl] at h1 h2; exact ⟨h1, h2⟩
  | cons c r =>
    have hc := hd c r hl
    rw [hl, List.takeWhile_cons, if_neg (by rw [hc]; simp)] at h1
    rw [hl, List.dropWhile_cons_of_neg (by rw [hc]; simp)] at h2
    exact ⟨h1, h2⟩
theorem refStep_le {st : Bool × Nat} {c : UInt8} (h : st.2 ≤ 9223372036854775809) (hc : digB c = true) : (refStep st c).2 ≤ 9223372036854775809 := by
  have := digB_iff hc
  unfold refStep
  show 10 * (if 922337203685477580 < st.2 then (false, 0) else st).2 + (c.toNat - 48) ≤ _
  split
  · show 10 * 0 + (c.toNat - 48) ≤ _; omega
  · omega

theorem refVal_neg (f : Bool) (n : Nat) : Hid (refVal true (f, n) = wrap64 (-(n : Int))) := by
  unfold refVal; rw [if_pos rfl]; exact hid rfl
theorem refVal_pos (f : Bool) (n : Nat) : Hid (refVal false (f, n) = wrap64 (n : Int)) := by
  unfold refVal; rw [if_neg (by simp)]; exact hid rfl
theorem refFits_neg (f t : Bool) (n : Nat) (h : decide ((n : Int) ≤ 9223372036854775808) = t) : Hid (refFits true (f, n) = (f && t)) := by
  unfold refFits; rw [← h, if_pos rfl]; congr 1; rw [Bool.eq_iff_iff]; simp; omega
theorem refFits_pos (f t : Bool) (n : Nat) (h : decide ((n : Int) ≤ 9223372036854775807) = t) : Hid (refFits false (f, n) = (f && t)) := by
  unfold refFits; rw [← h, if_neg (by simp)]; congr 1; rw [Bool.eq_iff_iff]; simp; omega
theorem conv_neg (n : Nat) (h : n ≤ 9223372036854775809) : IntKind.i64.wrap (IntKind.u64.wrap (-(n : Int))) = wrap64 (-(n : Int)) := by
  have e1 : (2 : Int) ^ 64 = 18446744073709551616 := by decide
  have e2 : (2 : Int) ^ (64 - 1) = 9223372036854775808 := by decide
  unfold wrap64
  simp only [IntKind.wrap, IntKind.signed, IntKind.bits, Bool.false_and, Bool.true_and, Bool.false_eq_true, if_false, decide_eq_true_eq, e1, e2]
  split <;> omega
theorem conv_pos (n : Nat) (h : n ≤ 9223372036854775809) : IntKind.i64.wrap (n : Int) = wrap64 (n : Int) := by
  have e1 : (2 : Int) ^ 64 = 18446744073709551616 := by decide
  have e2 : (2 : Int) ^ (64 - 1) = 9223372036854775808 := by decide
  unfold wrap64
  simp only [IntKind.wrap, IntKind.signed, IntKind.bits, Bool.false_and, Bool.true_and, Bool.false_eq_true, if_false, decide_eq_true_eq, e1, e2]
  split <;> omega

end Go.Proofs.YtijfnnjgcgmnaaaGreatDoor
