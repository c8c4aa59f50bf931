/- Letters, digits, what a name holds: of both texts.
   lex.cuts: where a program is cut.
   lex.Split: a program's statements.
   The reference's small readers: begins, blank, Texts. -/
import Derived.Test.YthlingdlehdlhaaDoorProg
import Derived.Test.YthlingdlehdlhaaDoorBase
import Derived.WalkKit
import Derived.Shelf.Abstract
import Derived.Deep.QuietTactic
import Derived.BigQuiet
import Derived.Test.YthlingdlehdlhaaDoorShelf
namespace Go.Proofs.YthlingdlehdlhaaDoor
open Go.RowKit Go.Shelf
set_option linter.unusedVariables false

def letB (c : UInt8) : Bool := decide (97 ≤ (c ||| 32).toNat) && decide ((c ||| 32).toNat ≤ 122)
def digB (c : UInt8) : Bool := decide (48 ≤ c.toNat) && decide (c.toNat ≤ 57)
def innB (c : UInt8) : Bool := letB c || digB c || c == 95

theorem ret_bool {a b : Bool} (h : a = b) : Ending.returned (.bool a) = Ending.returned (.bool b) := by rw [h]

theorem or_fin : ∀ n : Fin 256, bits BinOp.or .u8 (n.val : Int) 32 = ((n.val ||| 32 : Nat) : Int) := by decide +kernel
theorem or_byte (c : UInt8) : bits BinOp.or .u8 (c.toNat : Int) 32 = ((c ||| 32).toNat : Int) := by
  have := or_fin ⟨c.toNat, c.toNat_lt⟩
  simpa [UInt8.toNat_or] using this




theorem let_fin : ∀ n : Fin 256, (decide (97 ≤ n.val ||| 32) && decide (n.val ||| 32 ≤ 122)) = (decide (97 ≤ n.val) && decide (n.val ≤ 122) || decide (65 ≤ n.val) && decide (n.val ≤ 90)) := by decide +kernel
theorem letB_eq (c : UInt8) : letB c = (decide (97 ≤ (c.toNat : Int)) && decide ((c.toNat : Int) ≤ 122) || decide (65 ≤ (c.toNat : Int)) && decide ((c.toNat : Int) ≤ 90)) := by
  have := let_fin ⟨c.toNat, c.toNat_lt⟩
  dsimp only at this
  unfold letB
  rw [UInt8.toNat_or]
  refine this.trans ?_
  congr 1 <;> congr 1 <;> (rw [decide_eq_decide]; omega)

set_option maxHeartbeats 400000 in
theorem rletter_any (c : UInt8) (w : World) : Calls Tryd.prog 45 #[.int .u8 c.toNat] w fun e w' => e = .returned (.bool (letB c)) ∧ w = w' := by
  have hl := hid (letB_eq c)
  generalize (c.toNat : Int) = n at *
  by_cases h1 : 97 ≤ n
  · by_cases h2 : n ≤ 122
    · go_enter Tryd.func45, Tryd.ntmps45
      go_wp2_with fail
      go_ret
      exact ⟨ret_bool (by rw [hl.out, decide_eq_true h1, decide_eq_true h2]; rfl), rfl⟩
    · have h2' : decide (n ≤ 122) = false := by simpa using h2
      have h3 : 65 ≤ n := by omega
      have h4 : decide (n ≤ 90) = false := by simp; omega
      go_enter Tryd.func45, Tryd.ntmps45
      go_wp2_with fail
      go_ret
      exact ⟨ret_bool (by rw [hl.out, decide_eq_true h1, h2', h4]; simp), rfl⟩
  · have h1' : decide (97 ≤ n) = false := by simpa using h1
    by_cases h3 : 65 ≤ n
    · go_enter Tryd.func45, Tryd.ntmps45
      go_wp2_with fail
      go_ret
      exact ⟨ret_bool (by rw [hl.out, h1', decide_eq_true h3]; rfl), rfl⟩
    · have h3' : decide (65 ≤ n) = false := by simpa using h3
      go_enter Tryd.func45, Tryd.ntmps45
      go_wp2_with fail
      go_ret
      exact ⟨ret_bool (by rw [hl.out, h1', h3']; rfl), rfl⟩

set_option maxHeartbeats 400000 in
theorem rdigit_any (c : UInt8) (w : World) : Calls Tryd.prog 46 #[.int .u8 c.toNat] w fun e w' => e = .returned (.bool (digB c)) ∧ w = w' := by
  have hl : Hid (digB c = (decide (48 ≤ (c.toNat : Int)) && decide ((c.toNat : Int) ≤ 57))) := hid (by
    unfold digB; congr 1 <;> (rw [decide_eq_decide]; omega))
  go_enter Tryd.func46, Tryd.ntmps46
  go_wp2_with fail
  · have h : 48 ≤ (c.toNat : Int) := by assumption
    go_ret
    exact ⟨ret_bool (by rw [hl.out, decide_eq_true h]; rfl), rfl⟩
  · go_ret
    exact ⟨ret_bool (by rw [hl.out, decide_eq_false (by omega)]; rfl), rfl⟩

/-- How many first bytes are of a kind. -/
def frontOf (p : UInt8 → Bool) (s : ByteArray) : Nat := (s.data.toList.takeWhile p).length

theorem front_step (p : UInt8 → Bool) (s : ByteArray) (k : Nat) (hk : k < s.size) (h : ∀ j, j < k → p (bt s j) = true) (hp : p (bt s k) = false) : frontOf p s = k := by
  have hs : s.data.toList.length = s.size := by rw [Array.length_toList]; rfl
  unfold frontOf
  rw [← List.take_append_drop k s.data.toList, List.takeWhile_append_of_pos, List.drop_eq_getElem_cons (by omega), List.takeWhile_cons_of_neg]
  · simp; omega
  · rw [bt, List.getElem?_eq_getElem (by omega)] at hp; simpa using hp
  · intro x hx
    obtain ⟨j, hj, rfl⟩ := List.getElem_of_mem hx
    have hj' : j < k := by rw [List.length_take] at hj; omega
    have := h j hj'
    rw [bt, List.getElem?_eq_getElem (by omega)] at this
    rw [List.getElem_take]; simpa using this

theorem front_all (p : UInt8 → Bool) (s : ByteArray) (h : ∀ j, j < s.size → p (bt s j) = true) : frontOf p s = s.size := by
  have hs : s.data.toList.length = s.size := by rw [Array.length_toList]; rfl
  unfold frontOf
  rw [← List.append_nil s.data.toList, List.takeWhile_append_of_pos]
  · simp [hs]
  intro x hx
  obtain ⟨j, hj, rfl⟩ := List.getElem_of_mem hx
  have := h j (by omega)
  rw [bt, List.getElem?_eq_getElem (by omega)] at this
  simpa using this


/-- Is a text a name? -/
def namB (s : ByteArray) : Bool := decide (0 < s.size) && letB (bt s 0) && decide (frontOf innB s = s.size) && decide (s.size ≤ 12)

theorem empty_of_size (s : ByteArray) (h : s.size = 0) : s = ByteArray.empty := by
  apply ByteArray.ext
  apply Array.eq_empty_of_size_eq_zero
  exact h

theorem toList_ne (s : ByteArray) (h : ¬ s.size = 0) : s.toList.isEmpty = false := by
  rw [List.isEmpty_eq_false_iff]
  intro e
  apply h
  have := congrArg List.length e
  rw [ByteArray.toList_eq] at this
  simpa using this


theorem innB_eq (c : UInt8) : innB c = (letB c || digB c || ((c.toNat : Int) == 95)) := by
  unfold innB; congr 1; rw [Bool.eq_iff_iff, beq_iff_eq, beq_iff_eq, ← UInt8.toNat_inj]; simp; omega


end Go.Proofs.YthlingdlehdlhaaDoor

namespace Go.Proofs.YthlingdlehdlhaaDoor
open Go.RowKit Go.Shelf
set_option linter.unusedVariables false
attribute [local go_sem] Oper.semAt_some

theorem deep_le (s : ByteArray) (k : Nat) : (stAt s k).2 ≤ k := by
  induction k with
  | zero => simp [stAt]
  | succ k ih =>
    rw [stAt]
    unfold stepSt
    split
    · simp; omega
    · split
      · simp; omega
      · split
        · simp; omega
        · split <;> simp <;> omega

theorem drop_extract (s : ByteArray) (k : Nat) : (s.extract k s.size).data.toList = s.data.toList.drop k := by
  rw [ByteArray.data_extract, Array.toList_extract]
  have hs : s.data.toList.length = s.size := by rw [Array.length_toList]; rfl
  rw [List.extract_eq_take_drop, ← hs]
  rw [List.take_of_length_le (by simp)]

def cutEnc (s : ByteArray) (k : Nat) : Array Value := #[.int .i64 (((allCuts s)[k]?.getD (0, 0)).1 : Nat), .int .i64 (((allCuts s)[k]?.getD (0, 0)).2 : Nat)]

theorem cutEnc_at (s : ByteArray) (k : Nat) (hk : k < s.size) (h : cutAt s k ≠ 0) : (cutsTo s k).length < (allCuts s).length ∧ cutEnc s (cutsTo s k).length = #[.int .i64 (k : Int), .int .i64 ((k + cutAt s k : Nat) : Int)] := by
  obtain ⟨t, ht⟩ := cutsTo_take s (k + 1) s.size (by omega)
  have ha : allCuts s = cutsTo s k ++ ((k, k + cutAt s k) :: (t ++ [(s.size, s.size)])) := by
    unfold allCuts; rw [ht, cutsTo, if_neg h]; simp
  refine ⟨by rw [ha]; simp, ?_⟩
  unfold cutEnc
  rw [ha, List.getElem?_append_right (Nat.le_refl _), Nat.sub_self]
  simp

theorem cutEnc_end (s : ByteArray) : (cutsTo s s.size).length < (allCuts s).length ∧ (cutsTo s s.size).length + 1 = (allCuts s).length ∧ cutEnc s (cutsTo s s.size).length = #[.int .i64 (s.size : Int), .int .i64 (s.size : Int)] := by
  refine ⟨by simp [allCuts], by simp [allCuts], ?_⟩
  unfold cutEnc allCuts
  rw [List.getElem?_append_right (Nat.le_refl _), Nat.sub_self]
  simp

theorem cuts_stay (s : ByteArray) (k : Nat) (h : cutAt s k = 0) : cutsTo s (k + 1) = cutsTo s k := by rw [cutsTo, if_pos h, List.append_nil]
theorem cuts_more (s : ByteArray) (k : Nat) (h : cutAt s k ≠ 0) : (cutsTo s (k + 1)).length = (cutsTo s k).length + 1 := by rw [cutsTo, if_neg h]; simp



end Go.Proofs.YthlingdlehdlhaaDoor

namespace Go.Proofs.YthlingdlehdlhaaDoor
open Go.RowKit Go.Shelf
set_option linter.unusedVariables false
attribute [local go_sem] Oper.semAt_some

theorem Tryd.infoStr : (Tryd.prog.info? 9).map (fun i => (i.zero, i.size, i.bytes)) = some (some (.string ⟨#[]⟩), 1, 16) := by kernel_rfl


/-- New strings. -/
def NewStrs (w : World) (xs : List ByteArray) (v : Value) (w' : World) : Prop :=
  w'.ownsRow w.heap.size 9 1 v xs.length (xs.map Value.string) ∧ Below w.heap.size w w'
def RetStrs (w : World) (xs : List ByteArray) (e : Ending) (w' : World) : Prop := ∃ v, e = .returned v ∧ NewStrs w xs v w'

/-- What Split holds when k pieces have gone. -/
def splitI (s : ByteArray) (w : World) (k : Nat) (W : World) : Prop :=
  ((∃ v, Boxed W (w.heap.size + 1) 46 v ∧ W.ownsRow (w.heap.size + 4) 9 1 v (outOf s ((allCuts s).take k) 0).length ((outOf s ((allCuts s).take k) 0).map Value.string)) ∧
    Boxed W (w.heap.size + 1 + 1) 3 (.int .i64 (endOf ((allCuts s).take k))) ∧ Boxed W w.heap.size 9 (.string s) ∧ w.heap.size + 4 ≤ W.heap.size) ∧ Below w.heap.size w W

theorem tw_all {α : Type} (p : α → Bool) (l : List α) (x : α) (h : x ∈ l.takeWhile p) : p x = true := by
  induction l with
  | nil => simp at h
  | cons y r ih =>
    by_cases hy : p y = true
    · rw [List.takeWhile_cons_of_pos hy] at h
      rcases List.mem_cons.1 h with rfl | h
      · exact hy
      · exact ih h
    · rw [List.takeWhile_cons_of_neg hy] at h; simp at h

theorem dw_nil {α : Type} (p : α → Bool) (l : List α) (h : ∀ x ∈ l, p x = true) : l.dropWhile p = [] := by
  induction l with
  | nil => rfl
  | cons y r ih =>
    rw [List.dropWhile_cons_of_pos (h y (by simp))]
    exact ih (fun x hx => h x (by simp [hx]))

theorem trim_blank (pc : ByteArray) : Lib.trimB pc.data.toList 32 = [] ↔ blankB pc = true := by
  unfold Lib.trimB Lib.trimLeftB Lib.trimRightB blankB
  generalize pc.data.toList = l
  rw [List.all_eq_true]
  constructor
  · intro h
    have h1 : ∀ x ∈ (l.reverse.dropWhile (· == 32)).reverse, (x == 32) = true := by
      intro x hx
      have := List.takeWhile_append_dropWhile (p := (· == 32)) (l := (l.reverse.dropWhile (· == 32)).reverse)
      rw [h, List.append_nil] at this
      rw [← this] at hx
      exact (tw_all (· == 32) _ _ hx)
    intro x hx
    have e := List.takeWhile_append_dropWhile (p := (· == 32)) (l := l.reverse)
    have hx' : x ∈ l.reverse := List.mem_reverse.2 hx
    rw [← e] at hx'
    rcases List.mem_append.1 hx' with h2 | h2
    · exact tw_all (· == 32) _ _ h2
    · exact h1 x (List.mem_reverse.2 h2)
  · intro h
    have h1 : l.reverse.dropWhile (· == 32) = [] := dw_nil _ _ (fun x hx => h x (List.mem_reverse.1 hx))
    rw [h1]; rfl

theorem outOf_len (s : ByteArray) (l : List (Nat × Nat)) (f : Nat) : (outOf s l f).length ≤ l.length := by
  induction l generalizing f with
  | nil => simp [outOf]
  | cons c r ih =>
    obtain ⟨p, nx⟩ := c
    have := ih nx
    simp only [outOf, List.length_append, List.length_cons]
    split <;> simp <;> omega

theorem outOf_take_len (s : ByteArray) (k : Nat) : (outOf s ((allCuts s).take k) 0).length ≤ s.size + 1 := by
  have h1 := outOf_len s ((allCuts s).take k) 0
  have h2 : ((allCuts s).take k).length ≤ (allCuts s).length := List.length_take_le' _ _
  have h3 := allCuts_length_le s
  omega


end Go.Proofs.YthlingdlehdlhaaDoor

namespace Go.Proofs.YthlingdlehdlhaaDoor
open Go.RowKit Go.Shelf
set_option linter.unusedVariables false

theorem dia_slice (s : ByteArray) (i : Nat) (h : i + 3 ≤ s.size) : (s.extract i (i + 3)).data.toList = (s.data.toList.drop i).take 3 := by
  rw [ByteArray.data_extract, Array.toList_extract, List.extract_eq_take_drop]
  congr 1; omega

theorem diaAt_iff (s : ByteArray) (i : Nat) (h : i + 3 ≤ s.size) : diaAt s i = true ↔ (s.extract i (i + 3)).data.toList = [226, 139, 132] := by
  rw [dia_slice s i h]
  unfold diaAt Lib.hasPrefix dia
  rw [List.isPrefixOf_iff_prefix]
  constructor
  · rintro ⟨t, ht⟩; rw [← ht]; rfl
  · intro e; exact ⟨(s.data.toList.drop i).drop 3, by rw [← e, List.take_append_drop]⟩

theorem diaAt_far (s : ByteArray) (i : Nat) (h : ¬ i + 3 ≤ s.size) : diaAt s i = false := by
  cases hd : diaAt s i
  · rfl
  · exact absurd (dia_bytes s i hd).1 h

set_option maxRecDepth 100000 in
set_option maxHeartbeats 400000 in
theorem begins_dia (s : ByteArray) (i : Nat) (w : World) (hs : s.size ≤ 1000000000) (hi : i ≤ s.size) :
    Calls Tryd.prog 93 #[.string s, .int .i64 i, .string ⟨#[226, 139, 132]⟩] w fun e w' => e = .returned (.bool (diaAt s i)) ∧ w = w' := by
  by_cases h : i + 3 ≤ s.size
  · have hd := diaAt_iff s i h
    have hk : decide ((i : Int) + 3 ≤ (s.size : Int)) = true := by simp; omega
    have h2 : (i : Int) + 3 ≤ (s.size : Int) := by omega
    have h3 : (i : Int) ≤ (i : Int) + 3 := by omega
    have H : Hid (((s.extract i (i + 3)).toList == [226, 139, 132]) = diaAt s i) := hid (by
      rw [ByteArray.toList_eq, Bool.eq_iff_iff, beq_iff_eq]; exact hd.symm)
    clear hd
    go_enter Tryd.func93, Tryd.ntmps93
    go_wp2_with fail
    go_ret
    exact ⟨ret_bool H.out, rfl⟩
  · have hd := hid (diaAt_far s i h)
    have hk : decide ((i : Int) + 3 ≤ (s.size : Int)) = false := by simp; omega
    go_enter Tryd.func93, Tryd.ntmps93
    go_wp2_with fail
    go_ret
    exact ⟨by rw [hd.out]; rfl, rfl⟩


theorem str_ne {l l' : ByteArray} (h : l ≠ l') : (l.toList == l'.toList) = false := by
  rw [beq_eq_false_iff_ne]
  intro e
  apply h
  rw [ByteArray.toList_eq, ByteArray.toList_eq] at e
  apply ByteArray.ext
  exact Array.toList_inj.1 e

/-- A slice of strings that reads as a list. -/
def Strs (w : World) (v : Value) (xs : List ByteArray) : Prop :=
  ∃ a cap, v = .slice a xs.length cap ∧ xs.length ≤ cap ∧ cap ≤ 9223372036854775807 ∧ (a = none → cap = 0) ∧ Lies w a (xs.map Value.string)

theorem Strs.below {w w' : World} {v : Value} {xs : List ByteArray} (h : Strs w v xs) (hb : Below w.heap.size w w') : Strs w' v xs := by
  obtain ⟨a, cap, e, h1, h2, h3, h4⟩ := h
  exact ⟨a, cap, e, h1, h2, h3, h4.below hb⟩

theorem Strs.parts {w : World} {v : Value} {xs : List ByteArray} (h : Strs w v xs) :
    ∃ a cap, v = .slice a xs.length cap ∧ xs.length ≤ cap ∧ cap ≤ 9223372036854775807 ∧ (a = none → cap = 0) ∧
      (xs = [] ∨ ∃ b o, a = some ⟨b, o, none⟩ ∧ ∀ i (hi : i < xs.length), w.cell? ⟨b, o + i, none⟩ = some (.string xs[i])) := by
  obtain ⟨a, cap, e, h1, h2, h3, h4⟩ := h
  refine ⟨a, cap, e, h1, h2, h3, ?_⟩
  cases xs with
  | nil => exact .inl rfl
  | cons x r =>
    obtain ⟨b, o, e', _⟩ := h4 0 (by simp)
    refine .inr ⟨b, o, e', fun i hi => ?_⟩
    obtain ⟨b', o', e'', hc⟩ := h4 i (by simpa using hi)
    obtain ⟨rfl, rfl⟩ : b = b' ∧ o = o' := by rw [e'] at e''; simpa using e''
    rw [hc, List.getElem_map]

theorem Strs.of_owns {w : World} {base e : Nat} {v : Value} {xs : List ByteArray} (h : w.ownsRow base e 1 v xs.length (xs.map Value.string)) : Strs w v xs := by
  have h0 := h
  obtain ⟨h1, ⟨rfl, h2⟩ | ⟨g, cap, cur, rfl, h3, h4, h5, h6, h7, h8⟩⟩ := h
  · obtain rfl : xs = [] := List.eq_nil_of_length_eq_zero h2
    exact ⟨none, 0, rfl, Nat.le_refl _, by omega, fun _ => rfl, fun i hi => by simp at hi⟩
  · refine ⟨some ⟨g, 0, none⟩, cap, rfl, h5, by simpa [maxLen] using h6, by simp, fun i hi => ⟨g, 0, rfl, ?_⟩⟩
    have := h0.cells (g := g) rfl i _ (List.getElem?_eq_getElem hi)
    rw [Addr.add_lit] at this
    exact this


end Go.Proofs.YthlingdlehdlhaaDoor
