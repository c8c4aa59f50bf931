/- Letters, digits, what a name holds: of both texts.
   lex.cuts: where a program is cut.
   lex.Split: a program's statements.
   The reference's small readers: begins, blank, Texts. -/
import Derived.Test.YthlingdlehdlhaaGreatDoorProg
import Derived.Test.YthlingdlehdlhaaGreatDoorBase
import Derived.WalkKit
import Derived.Shelf.Abstract
import Derived.Deep.QuietTactic
import Derived.BigQuiet
import Derived.Test.YthlingdlehdlhaaGreatDoorShelf
namespace Go.Proofs.YthlingdlehdlhaaGreatDoor
open Go.RowKit Go.Shelf
set_option linter.unusedVariables false

def letB (c : UInt8) : Bool := decide (97 ≤ (c ||| 32).toNat) && decide ((c ||| 32).toNat ≤ 122)
def digB (c : UInt8) : Bool := decide (48 ≤ c.toNat) && decide (c.toNat ≤ 57)
def innB (c : UInt8) : Bool := letB c || digB c || c == 95

theorem ret_bool {a b : Bool} (h : a = b) : Ending.returned (.bool a) = Ending.returned (.bool b) := by rw [h]

theorem let_fin : ∀ n : Fin 256, (decide (97 ≤ n.val ||| 32) && decide (n.val ||| 32 ≤ 122)) = (decide (97 ≤ n.val) && decide (n.val ≤ 122) || decide (65 ≤ n.val) && decide (n.val ≤ 90)) := by decide +kernel
theorem letB_eq (c : UInt8) : letB c = (decide (97 ≤ (c.toNat : Int)) && decide ((c.toNat : Int) ≤ 122) || decide (65 ≤ (c.toNat : Int)) && decide ((c.toNat : Int) ≤ 90)) := by
  have := let_fin ⟨c.toNat, c.toNat_lt⟩
  dsimp only at this
  unfold letB
  rw [UInt8.toNat_or]
  refine this.trans ?_
  congr 1 <;> congr 1 <;> (rw [decide_eq_decide]; omega)

set_option maxHeartbeats 400000 in
theorem rletter_any (c : UInt8) (w : World) : Calls Tryz.prog 77 #[.int .u8 c.toNat] w fun e w' => e = .returned (.bool (letB c)) ∧ w = w' := by
  have hl := hid (letB_eq c)
  generalize (c.toNat : Int) = n at *
  by_cases h1 : 97 ≤ n
  · by_cases h2 : n ≤ 122
    · go_enter Tryz.func77, Tryz.ntmps77
      go_wp2_with fail
      go_ret
      exact ⟨ret_bool (by rw [hl.out, decide_eq_true h1, decide_eq_true h2]; rfl), rfl⟩
    · have h2' : decide (n ≤ 122) = false := by simpa using h2
      have h3 : 65 ≤ n := by omega
      have h4 : decide (n ≤ 90) = false := by simp; omega
      go_enter Tryz.func77, Tryz.ntmps77
      go_wp2_with fail
      go_ret
      exact ⟨ret_bool (by rw [hl.out, decide_eq_true h1, h2', h4]; simp), rfl⟩
  · have h1' : decide (97 ≤ n) = false := by simpa using h1
    by_cases h3 : 65 ≤ n
    · go_enter Tryz.func77, Tryz.ntmps77
      go_wp2_with fail
      go_ret
      exact ⟨ret_bool (by rw [hl.out, h1', decide_eq_true h3]; rfl), rfl⟩
    · have h3' : decide (65 ≤ n) = false := by simpa using h3
      go_enter Tryz.func77, Tryz.ntmps77
      go_wp2_with fail
      go_ret
      exact ⟨ret_bool (by rw [hl.out, h1', h3']; rfl), rfl⟩

set_option maxHeartbeats 400000 in
theorem rdigit_any (c : UInt8) (w : World) : Calls Tryz.prog 78 #[.int .u8 c.toNat] w fun e w' => e = .returned (.bool (digB c)) ∧ w = w' := by
  have hl : Hid (digB c = (decide (48 ≤ (c.toNat : Int)) && decide ((c.toNat : Int) ≤ 57))) := hid (by
    unfold digB; congr 1 <;> (rw [decide_eq_decide]; omega))
  go_enter Tryz.func78, Tryz.ntmps78
  go_wp2_with fail
  · have h : 48 ≤ (c.toNat : Int) := by assumption
    go_ret
    exact ⟨ret_bool (by rw [hl.out, decide_eq_true h]; rfl), rfl⟩
  · go_ret
    exact ⟨ret_bool (by rw [hl.out, decide_eq_false (by omega)]; rfl), rfl⟩

/-- How many first bytes are of a kind. -/
def frontOf (p : UInt8 → Bool) (s : ByteArray) : Nat := (s.data.toList.takeWhile p).length

/-- Is a text a name? -/
def namB (s : ByteArray) : Bool := decide (0 < s.size) && letB (bt s 0) && decide (frontOf innB s = s.size) && decide (s.size ≤ 12)

theorem innB_eq (c : UInt8) : innB c = (letB c || digB c || ((c.toNat : Int) == 95)) := by
  unfold innB; congr 1; rw [Bool.eq_iff_iff, beq_iff_eq, beq_iff_eq, ← UInt8.toNat_inj]; simp; omega

end Go.Proofs.YthlingdlehdlhaaGreatDoor

namespace Go.Proofs.YthlingdlehdlhaaGreatDoor
open Go.RowKit Go.Shelf
set_option linter.unusedVariables false
attribute [local go_sem] Oper.semAt_some

end Go.Proofs.YthlingdlehdlhaaGreatDoor

namespace Go.Proofs.YthlingdlehdlhaaGreatDoor
open Go.RowKit Go.Shelf
set_option linter.unusedVariables false
attribute [local go_sem] Oper.semAt_some

theorem tw_all {α : Type} (p : α → Bool) (l : List α) (x : α) (h : x ∈ l.takeWhile p) : p x = true := by
  induction l with
  | nil => simp at h
  | cons y r ih =>
    by_cases hy : p y = true
    · rw [List.takeWhile_cons_of_pos hy] at h
      rcases List.mem_cons.1 h with rfl | h
      · exact hy
      · exact ih h
    · rw [List.takeWhile_cons_of_neg hy] at h; simp at h

end Go.Proofs.YthlingdlehdlhaaGreatDoor

namespace Go.Proofs.YthlingdlehdlhaaGreatDoor
open Go.RowKit Go.Shelf
set_option linter.unusedVariables false

theorem str_ne {l l' : ByteArray} (h : l ≠ l') : (l.toList == l'.toList) = false := by
  rw [beq_eq_false_iff_ne]
  intro e
  apply h
  rw [ByteArray.toList_eq, ByteArray.toList_eq] at e
  apply ByteArray.ext
  exact Array.toList_inj.1 e

/-- A slice of strings that reads as a list. -/
def Strs (w : World) (v : Value) (xs : List ByteArray) : Prop :=
  ∃ a cap, v = .slice a xs.length cap ∧ xs.length ≤ cap ∧ cap ≤ 9223372036854775807 ∧ (a = none → cap = 0) ∧ Lies w a (xs.map Value.string)

theorem Strs.below {w w' : World} {v : Value} {xs : List ByteArray} (h : Strs w v xs) (hb : Below w.heap.size w w') : Strs w' v xs := by
  obtain ⟨a, cap, e, h1, h2, h3, h4⟩ := h
  exact ⟨a, cap, e, h1, h2, h3, h4.below hb⟩

theorem Strs.parts {w : World} {v : Value} {xs : List ByteArray} (h : Strs w v xs) :
    ∃ a cap, v = .slice a xs.length cap ∧ xs.length ≤ cap ∧ cap ≤ 9223372036854775807 ∧ (a = none → cap = 0) ∧
      (xs = [] ∨ ∃ b o, a = some ⟨b, o, none⟩ ∧ ∀ i (hi : i < xs.length), w.cell? ⟨b, o + i, none⟩ = some (.string xs[i])) := by
  obtain ⟨a, cap, e, h1, h2, h3, h4⟩ := h
  refine ⟨a, cap, e, h1, h2, h3, ?_⟩
  cases xs with
  | nil => exact .inl rfl
  | cons x r =>
    obtain ⟨b, o, e', _⟩ := h4 0 (by simp)
    refine .inr ⟨b, o, e', fun i hi => ?_⟩
    obtain ⟨b', o', e'', hc⟩ := h4 i (by simpa using hi)
    obtain ⟨rfl, rfl⟩ : b = b' ∧ o = o' := by rw [e'] at e''; simpa using e''
    rw [hc, List.getElem_map]

theorem Strs.of_owns {w : World} {base e : Nat} {v : Value} {xs : List ByteArray} (h : w.ownsRow base e 1 v xs.length (xs.map Value.string)) : Strs w v xs := by
  have h0 := h
  obtain ⟨h1, ⟨rfl, h2⟩ | ⟨g, cap, cur, rfl, h3, h4, h5, h6, h7, h8⟩⟩ := h
  · obtain rfl : xs = [] := List.eq_nil_of_length_eq_zero h2
    exact ⟨none, 0, rfl, Nat.le_refl _, by omega, fun _ => rfl, fun i hi => by simp at hi⟩
  · refine ⟨some ⟨g, 0, none⟩, cap, rfl, h5, by simpa [maxLen] using h6, by simp, fun i hi => ⟨g, 0, rfl, ?_⟩⟩
    have := h0.cells (g := g) rfl i _ (List.getElem?_eq_getElem hi)
    rw [Addr.add_lit] at this
    exact this

set_option maxRecDepth 100000 in
set_option maxHeartbeats 400000 in
theorem rtexts_any (va vb : Value) (xs ys : List ByteArray) (w : World) (hx : Strs w va xs) (hy : Strs w vb ys) :
    Calls Tryz.prog 11 #[va, vb] w fun e w' => e = .returned (.bool (decide (xs = ys))) ∧ Quiet w w' := by
  obtain ⟨a, cap, rfl, h1, h2, h3, hc⟩ := hx.parts
  obtain ⟨a', cap', rfl, h1', h2', h3', hc'⟩ := hy.parts
  clear hx hy
  by_cases hlen : xs.length = ys.length
  · have hb : ((xs.length : Int) != (ys.length : Int)) = false := by simp [hlen]
    have hlen' : ¬ xs.length < ys.length := by omega
    have hlen2 : ¬ ys.length < xs.length := by omega
    clear hlen
    go_enter Tryz.func11, Tryz.ntmps11
    go_wp2
    go_loopw [5] (fun i wr => ∃ k : Nat, k ≤ xs.length ∧ i = .int .i64 k ∧ xs.take k = ys.take k ∧ Quiet w wr) (fun i _ => xs.length - (intOf i).toNat)
    case atStart => exact ⟨0, by omega, rfl, by simp, Quiet.refl _⟩
    case round =>
      obtain ⟨k, hk, rfl, ht, ⟨nq0, rfl⟩⟩ := hrel
      by_cases hlt : k < xs.length
      · rcases hc with rfl | ⟨b, o, rfl, hc⟩
        · simp at hlt
        rcases hc' with rfl | ⟨b', o', rfl, hc'⟩
        · simp only [List.length_nil] at hlen2; omega
        have hlt' : k < ys.length := by omega
        have hcell := hc k hlt
        have hcell' := hc' k hlt'
        have t1 : xs.take (k + 1) = xs.take k ++ [xs[k]] := List.take_succ_eq_append_getElem hlt
        have t2 : ys.take (k + 1) = ys.take k ++ [ys[k]] := List.take_succ_eq_append_getElem hlt'
        generalize xs[k] = l at hcell t1
        generalize ys[k] = l' at hcell' t2
        have hki : (k : Int) < (xs.length : Int) := by omega
        have hki' : (k : Int) < (ys.length : Int) := by omega
        by_cases he : l = l'
        · subst he
          have H : Hid (xs.take (k + 1) = ys.take (k + 1)) := hid (by rw [t1, t2, ht])
          clear t1 t2 ht hc hc'
          go_wp2
          go_quiet (fail)
          go_wp2
          go_roundw
          case rel => exact ⟨k + 1, by omega, by go_num, H.out, ⟨_, rfl⟩⟩
          case measure => simp [intOf]; omega
        · have H : Hid (xs ≠ ys) := hid (by rintro rfl; exact he (by simpa using t1.symm.trans t2))
          have hbe := str_ne he
          clear t1 t2 he ht hc hc'
          go_wp2
          go_quiet (fail)
          go_wp2
          go_ret
          exact ⟨by rw [decide_eq_false H.out]; rfl, (Quiet.mk _ _).trans (Quiet.mk _ _)⟩
      · have H : Hid (xs = ys) := hid (by rw [List.take_of_length_le (by omega), List.take_of_length_le (by omega)] at ht; exact ht)
        clear ht hc hc'
        go_wp2
        go_ret
        exact ⟨by rw [decide_eq_true H.out]; rfl, ⟨_, rfl⟩⟩
  · have hb : ((xs.length : Int) != (ys.length : Int)) = true := by rw [bne_iff_ne]; omega
    have H : Hid (xs ≠ ys) := hid (fun e => hlen (by rw [e]))
    clear hlen hc hc'
    go_enter Tryz.func11, Tryz.ntmps11
    go_wp2
    go_ret
    exact ⟨by rw [decide_eq_false H.out]; rfl, Quiet.refl _⟩

end Go.Proofs.YthlingdlehdlhaaGreatDoor
