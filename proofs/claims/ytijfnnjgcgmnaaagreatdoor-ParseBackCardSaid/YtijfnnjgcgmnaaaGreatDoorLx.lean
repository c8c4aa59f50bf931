/- Letters, digits, what a name holds: of both texts.
   lex.cuts: where a program is cut.
   lex.Split: a program's statements.
   The reference's small readers: begins, blank, Texts. -/
import Derived.Test.YtijfnnjgcgmnaaaGreatDoorProg
import Derived.Test.YtijfnnjgcgmnaaaGreatDoorBase
import Derived.WalkKit
import Derived.Shelf.Abstract
import Derived.Deep.QuietTactic
import Derived.BigQuiet
import Derived.Test.YtijfnnjgcgmnaaaGreatDoorShelf
namespace Go.Proofs.YtijfnnjgcgmnaaaGreatDoor
open Go.RowKit Go.Shelf
set_option linter.unusedVariables false

def letB (c : UInt8) : Bool := decide (97 ≤ (c ||| 32).toNat) && decide ((c ||| 32).toNat ≤ 122)
def digB (c : UInt8) : Bool := decide (48 ≤ c.toNat) && decide (c.toNat ≤ 57)
def innB (c : UInt8) : Bool := letB c || digB c || c == 95

theorem ret_bool {a b : Bool} (h : a = b) : Ending.returned (.bool a) = Ending.returned (.bool b) := by rw [h]

theorem or_fin : ∀ n : Fin 256, bits BinOp.or .u8 (n.val : Int) 32 = ((n.val ||| 32 : Nat) : Int) := by decide +kernel
theorem or_byte (c : UInt8) : bits BinOp.or .u8 (c.toNat : Int) 32 = ((c ||| 32).toNat : Int) := by
  have := or_fin ⟨c.toNat, c.toNat_lt⟩
  simpa [UInt8.toNat_or] using this

set_option maxHeartbeats 400000 in
theorem letter_any (c : UInt8) (w : World) : Calls Tryz.prog 82 #[.int .u8 c.toNat] w fun e w' => e = .returned (.bool (letB c)) ∧ w = w' := by
  have ho := or_byte c
  have hl : Hid (letB c = (decide (97 ≤ bits BinOp.or .u8 (c.toNat : Int) 32) && decide (bits BinOp.or .u8 (c.toNat : Int) 32 ≤ 122))) := hid (by
    rw [ho]; unfold letB; congr 1 <;> (rw [decide_eq_decide]; omega))
  clear ho
  go_enter Tryz.func82, Tryz.ntmps82
  go_wp2_with fail
  · have h : 97 ≤ bits BinOp.or .u8 (c.toNat : Int) 32 := by assumption
    go_ret
    exact ⟨ret_bool (by rw [hl.out, decide_eq_true h]; rfl), rfl⟩
  · go_ret
    exact ⟨ret_bool (by rw [hl.out, decide_eq_false (by omega)]; rfl), rfl⟩

set_option maxHeartbeats 400000 in
theorem digit_any (c : UInt8) (w : World) : Calls Tryz.prog 119 #[.int .u8 c.toNat] w fun e w' => e = .returned (.bool (digB c)) ∧ w = w' := by
  have hl : Hid (digB c = (decide (48 ≤ (c.toNat : Int)) && decide ((c.toNat : Int) ≤ 57))) := hid (by
    unfold digB; congr 1 <;> (rw [decide_eq_decide]; omega))
  go_enter Tryz.func119, Tryz.ntmps119
  go_wp2_with fail
  · have h : 48 ≤ (c.toNat : Int) := by assumption
    go_ret
    exact ⟨ret_bool (by rw [hl.out, decide_eq_true h]; rfl), rfl⟩
  · go_ret
    exact ⟨ret_bool (by rw [hl.out, decide_eq_false (by omega)]; rfl), rfl⟩

set_option maxHeartbeats 400000 in
theorem inner_any (c : UInt8) (w : World) : Calls Tryz.prog 84 #[.int .u8 c.toNat] w fun e w' => e = .returned (.bool (innB c)) ∧ w = w' := by
  have hl : Hid (innB c = (letB c || digB c || ((c.toNat : Int) == 95))) := hid (by
    unfold innB; congr 1; rw [Bool.eq_iff_iff, beq_iff_eq, beq_iff_eq, ← UInt8.toNat_inj]; simp; omega)
  go_enter Tryz.func84, Tryz.ntmps84
  go_wp2_with fail
  refine (letter_any c _).mono ?_
  rintro e w' ⟨rfl, rfl⟩
  cases h1 : letB c
  · go_wp2_with fail
    refine (digit_any c _).mono ?_
    rintro e w' ⟨rfl, rfl⟩
    cases h2 : digB c
    · go_wp2_with fail
      go_ret
      exact ⟨ret_bool (by rw [hl.out, h1, h2]; rfl), rfl⟩
    · go_wp2_with fail
      go_ret
      exact ⟨ret_bool (by rw [hl.out, h1, h2]; rfl), rfl⟩
  · go_wp2_with fail
    go_ret
    exact ⟨ret_bool (by rw [hl.out, h1]; rfl), rfl⟩

theorem let_fin : ∀ n : Fin 256, (decide (97 ≤ n.val ||| 32) && decide (n.val ||| 32 ≤ 122)) = (decide (97 ≤ n.val) && decide (n.val ≤ 122) || decide (65 ≤ n.val) && decide (n.val ≤ 90)) := by decide +kernel
theorem letB_eq (c : UInt8) : letB c = (decide (97 ≤ (c.toNat : Int)) && decide ((c.toNat : Int) ≤ 122) || decide (65 ≤ (c.toNat : Int)) && decide ((c.toNat : Int) ≤ 90)) := by
  have := let_fin ⟨c.toNat, c.toNat_lt⟩
  dsimp only at this
  unfold letB
  rw [UInt8.toNat_or]
  refine this.trans ?_
  congr 1 <;> congr 1 <;> (rw [decide_eq_decide]; omega)

/-- How many first bytes are of a kind. -/
def frontOf (p : UInt8 → Bool) (s : ByteArray) : Nat := (s.data.toList.takeWhile p).length

theorem front_step (p : UInt8 → Bool) (s : ByteArray) (k : Nat) (hk : k < s.size) (h : ∀ j, j < k → p (bt s j) = true) (hp : p (bt s k) = false) : frontOf p s = k := by
  have hs : s.data.toList.length = s.size := by rw [Array.length_toList]; rfl
  unfold frontOf
  rw [← List.take_append_drop k s.data.toList, List.takeWhile_append_of_pos, List.drop_eq_getElem_cons (by omega), List.takeWhile_cons_of_neg]
  · simp; omega
  · rw [bt, List.getElem?_eq_getElem (by omega)] at hp; simpa using hp
  · intro x hx
    obtain ⟨j, hj, rfl⟩ := List.getElem_of_mem hx
    have hj' : j < k := by rw [List.length_take] at hj; omega
    have := h j hj'
    rw [bt, List.getElem?_eq_getElem (by omega)] at this
    rw [List.getElem_take]; simpa using this

theorem front_all (p : UInt8 → Bool) (s : ByteArray) (h : ∀ j, j < s.size → p (bt s j) = true) : frontOf p s = s.size := by
  have hs : s.data.toList.length = s.size := by rw [Array.length_toList]; rfl
  unfold frontOf
  rw [← List.append_nil s.data.toList, List.takeWhile_append_of_pos]
  · simp [hs]
  intro x hx
  obtain ⟨j, hj, rfl⟩ := List.getElem_of_mem hx
  have := h j (by omega)
  rw [bt, List.getElem?_eq_getElem (by omega)] at this
  simpa using this

set_option maxHeartbeats 1000000 in
theorem front_any (f : Nat) (p : UInt8 → Bool) (hen : ∀ args w, (callFunc f args).run Tryz.prog w = .ok (.enter f args) w) (hp : ∀ c w, Calls Tryz.prog f #[.int .u8 c.toNat] w fun e w' => e = .returned (.bool (p c)) ∧ w = w')
    (b o : Nat) (s : ByteArray) (w : World) (hs : s.size ≤ 9223372036854775807) (hc : w.cell? ⟨b, o, none⟩ = some (.string s)) :
    Calls Tryz.prog 83 #[.pointer (some ⟨b, o, none⟩), .func (.func f) #[] #[]] w fun e w' => e = .returned (.int .i64 (frontOf p s)) ∧ w = w' := by
  go_enter Tryz.func83, Tryz.ntmps83
  go_wp2_with fail
  go_loop [5] (fun i => ∃ k : Nat, k ≤ s.size ∧ i = .int .i64 k ∧ ∀ j, j < k → p (bt s j) = true) (fun i => s.size - (intOf i).toNat)
  case atStart => exact ⟨0, by omega, rfl, by intro j h; omega⟩
  case round =>
    obtain ⟨k, hk, rfl, hall⟩ := hrel
    have Hall := hid hall
    clear hall
    by_cases hlt : k < s.size
    · have hg := hid (bt_get s k hlt)
      have hd : decide ((k : Int) < (s.size : Int)) = true := by simp; omega
      go_wp2_with fail
      refine (hp s[k] _).mono ?_
      rintro e w' ⟨rfl, rfl⟩
      cases hpk : p s[k]
      · go_wp2_with fail
        go_ret
        exact ⟨by rw [front_step p s k hlt Hall.out (by rw [← hg.out]; exact hpk)]; rfl, rfl⟩
      · go_wp2_with fail
        go_round
        case rel => exact ⟨k + 1, by omega, by go_num, fun j hj => by
          by_cases e : j = k
          · subst e; rw [← hg.out]; exact hpk
          · exact Hall.out j (by omega)⟩
        case measure => simp [intOf]; omega
    · obtain rfl : k = s.size := by omega
      have hd : decide ((s.size : Int) < (s.size : Int)) = false := by simp
      go_wp2_with fail
      go_ret
      exact ⟨by rw [front_all p s Hall.out]; rfl, rfl⟩

/-- Is a text a name? -/
def namB (s : ByteArray) : Bool := decide (0 < s.size) && letB (bt s 0) && decide (frontOf innB s = s.size) && decide (s.size ≤ 12)

theorem empty_of_size (s : ByteArray) (h : s.size = 0) : s = ByteArray.empty := by
  apply ByteArray.ext
  apply Array.eq_empty_of_size_eq_zero
  exact h

theorem toList_ne (s : ByteArray) (h : ¬ s.size = 0) : s.toList.isEmpty = false := by
  rw [List.isEmpty_eq_false_iff]
  intro e
  apply h
  have := congrArg List.length e
  rw [ByteArray.toList_eq] at this
  simpa using this

set_option maxHeartbeats 1000000 in
theorem names_any (s : ByteArray) (w : World) (hs : s.size ≤ 9223372036854775807) :
    Calls Tryz.prog 52 #[.string s] w fun e w' => e = .returned (.bool (namB s)) ∧ Below w.heap.size w w' := by
  by_cases h0 : s.size = 0
  · obtain rfl := empty_of_size s h0
    go_enter Tryz.func52, Tryz.ntmps52
    go_wp2_with fail
    go_ret
    exact ⟨rfl, by repeat (first | exact Below.refl _ _ | refine Below.alloc ?_ (by simp) _ | refine Below.setCell ?_ (by simp) _)⟩
  · have hne : s.toList.isEmpty = false := toList_ne s h0
    have h0' : (0 : Int) < (s.size : Int) := by omega
    have hg := hid (bt_get s 0 (by omega))
    go_enter Tryz.func52, Tryz.ntmps52
    go_wp2_with fail
    refine (letter_any s[0] _).mono ?_
    rintro e w' ⟨rfl, rfl⟩
    cases hl : letB s[0]
    · have H : Hid (namB s = false) := hid (by unfold namB; rw [← hg.out, hl]; simp)
      go_wp2_with fail
      go_ret
      exact ⟨by rw [H.out]; rfl, by repeat (first | exact Below.refl _ _ | refine Below.alloc ?_ (by simp) _ | refine Below.setCell ?_ (by simp) _)⟩
    · have hB : Below w.heap.size w (w.alloc (.cells #[.string s, .bool false, .bool false] 104)) := (Below.refl _ _).alloc (Nat.le_refl _) _
      have hlt := hid hl
      clear hl
      go_wp2_with fail
      refine (front_any 84 innB (enters_of Tryz.func84 (by kernel_rfl) rfl) inner_any w.heap.size 0 s _ hs (by go_simp)).mono ?_
      rintro e w' ⟨rfl, rfl⟩
      have hn := hid (show namB s = (decide (frontOf innB s = s.size) && decide (s.size ≤ 12)) by unfold namB; rw [← hg.out, hlt.out]; simp [show 0 < s.size by omega])
      generalize frontOf innB s = m at *
      by_cases h1 : m = s.size
      · have h1' : ((m : Int) == (s.size : Int)) = true := by rw [beq_iff_eq]; omega
        have H : Hid (namB s = decide ((s.size : Int) ≤ 12)) := hid (by rw [hn.out, h1]; simp; omega)
        clear h1
        go_wp2_with fail
        go_ret
        exact ⟨by rw [H.out]; rfl, hB⟩
      · have h1' : ((m : Int) == (s.size : Int)) = false := by rw [beq_eq_false_iff_ne]; omega
        have H : Hid (namB s = false) := hid (by rw [hn.out]; simp [h1])
        clear h1
        go_wp2_with fail
        go_ret
        exact ⟨by rw [H.out]; rfl, hB⟩

theorem innB_eq (c : UInt8) : innB c = (letB c || digB c || ((c.toNat : Int) == 95)) := by
  unfold innB; congr 1; rw [Bool.eq_iff_iff, beq_iff_eq, beq_iff_eq, ← UInt8.toNat_inj]; simp; omega

end Go.Proofs.YtijfnnjgcgmnaaaGreatDoor

namespace Go.Proofs.YtijfnnjgcgmnaaaGreatDoor
open Go.RowKit Go.Shelf
set_option linter.unusedVariables false
attribute [local go_sem] Oper.semAt_some

end Go.Proofs.YtijfnnjgcgmnaaaGreatDoor

namespace Go.Proofs.YtijfnnjgcgmnaaaGreatDoor
open Go.RowKit Go.Shelf
set_option linter.unusedVariables false
attribute [local go_sem] Oper.semAt_some

theorem Tryz.infoStr : (Tryz.prog.info? 9).map (fun i => (i.zero, i.size, i.bytes)) = some (some (.string ⟨#[]⟩), 1, 16) := by kernel_rfl

theorem tw_all {α : Type} (p : α → Bool) (l : List α) (x : α) (h : x ∈ l.takeWhile p) : p x = true := by
  induction l with
  | nil => simp at h
  | cons y r ih =>
    by_cases hy : p y = true
    · rw [List.takeWhile_cons_of_pos hy] at h
      rcases List.mem_cons.1 h with rfl | h
      · exact hy
      · exact ih h
    · rw [List.takeWhile_cons_of_neg hy] at h; simp at h

end Go.Proofs.YtijfnnjgcgmnaaaGreatDoor

namespace Go.Proofs.YtijfnnjgcgmnaaaGreatDoor
open Go.RowKit Go.Shelf
set_option linter.unusedVariables false

theorem str_ne {l l' : ByteArray} (h : l ≠ l') : (l.toList == l'.toList) = false := by
  rw [beq_eq_false_iff_ne]
  intro e
  apply h
  rw [ByteArray.toList_eq, ByteArray.toList_eq] at e
  apply ByteArray.ext
  exact Array.toList_inj.1 e

/-- A slice of strings that reads as a list. -/
def Strs (w : World) (v : Value) (xs : List ByteArray) : Prop :=
  ∃ a cap, v = .slice a xs.length cap ∧ xs.length ≤ cap ∧ cap ≤ 9223372036854775807 ∧ (a = none → cap = 0) ∧ Lies w a (xs.map Value.string)

theorem Strs.below {w w' : World} {v : Value} {xs : List ByteArray} (h : Strs w v xs) (hb : Below w.heap.size w w') : Strs w' v xs := by
  obtain ⟨a, cap, e, h1, h2, h3, h4⟩ := h
  exact ⟨a, cap, e, h1, h2, h3, h4.below hb⟩

theorem Strs.parts {w : World} {v : Value} {xs : List ByteArray} (h : Strs w v xs) :
    ∃ a cap, v = .slice a xs.length cap ∧ xs.length ≤ cap ∧ cap ≤ 9223372036854775807 ∧ (a = none → cap = 0) ∧
      (xs = [] ∨ ∃ b o, a = some ⟨b, o, none⟩ ∧ ∀ i (hi : i < xs.length), w.cell? ⟨b, o + i, none⟩ = some (.string xs[i])) := by
  obtain ⟨a, cap, e, h1, h2, h3, h4⟩ := h
  refine ⟨a, cap, e, h1, h2, h3, ?_⟩
  cases xs with
  | nil => exact .inl rfl
  | cons x r =>
    obtain ⟨b, o, e', _⟩ := h4 0 (by simp)
    refine .inr ⟨b, o, e', fun i hi => ?_⟩
    obtain ⟨b', o', e'', hc⟩ := h4 i (by simpa using hi)
    obtain ⟨rfl, rfl⟩ : b = b' ∧ o = o' := by rw [e'] at e''; simpa using e''
    rw [hc, List.getElem_map]

theorem Strs.of_owns {w : World} {base e : Nat} {v : Value} {xs : List ByteArray} (h : w.ownsRow base e 1 v xs.length (xs.map Value.string)) : Strs w v xs := by
  have h0 := h
  obtain ⟨h1, ⟨rfl, h2⟩ | ⟨g, cap, cur, rfl, h3, h4, h5, h6, h7, h8⟩⟩ := h
  · obtain rfl : xs = [] := List.eq_nil_of_length_eq_zero h2
    exact ⟨none, 0, rfl, Nat.le_refl _, by omega, fun _ => rfl, fun i hi => by simp at hi⟩
  · refine ⟨some ⟨g, 0, none⟩, cap, rfl, h5, by simpa [maxLen] using h6, by simp, fun i hi => ⟨g, 0, rfl, ?_⟩⟩
    have := h0.cells (g := g) rfl i _ (List.getElem?_eq_getElem hi)
    rw [Addr.add_lit] at this
    exact this

end Go.Proofs.YtijfnnjgcgmnaaaGreatDoor
