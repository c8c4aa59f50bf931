/- Letters, digits, what a name holds: of both texts.
   lex.cuts: where a program is cut.
   lex.Split: a program's statements.
   The reference's small readers: begins, blank, Texts. -/
import Derived.Test.YtgjaajgdiggbeaaGreatDoorProg
import Derived.Test.YtgjaajgdiggbeaaGreatDoorBase
import Derived.WalkKit
import Derived.Shelf.Abstract
import Derived.Deep.QuietTactic
import Derived.BigQuiet
import Derived.Test.YtgjaajgdiggbeaaGreatDoorShelf
namespace Go.Proofs.YtgjaajgdiggbeaaGreatDoor
open Go.RowKit Go.Shelf
set_option linter.unusedVariables false

def letB (c : UInt8) : Bool := decide (97 ≤ (c ||| 32).toNat) && decide ((c ||| 32).toNat ≤ 122)
def digB (c : UInt8) : Bool := decide (48 ≤ c.toNat) && decide (c.toNat ≤ 57)
def innB (c : UInt8) : Bool := letB c || digB c || c == 95

theorem ret_bool {a b : Bool} (h : a = b) : Ending.returned (.bool a) = Ending.returned (.bool b) := by rw [h]

theorem or_fin : ∀ n : Fin 256, bits BinOp.or .u8 (n.val : Int) 32 = ((n.val ||| 32 : Nat) : Int) := by decide +kernel
theorem or_byte (c : UInt8) : bits BinOp.or .u8 (c.toNat : Int) 32 = ((c ||| 32).toNat : Int) := by
  have := or_fin ⟨c.toNat, c.toNat_lt⟩
  simpa [UInt8.toNat_or] using this

set_option maxHeartbeats 400000 in
theorem letter_any (c : UInt8) (w : World) : Calls Tryz.prog 81 #[.int .u8 c.toNat] w fun e w' => e = .returned (.bool (letB c)) ∧ w = w' := by
  have ho := or_byte c
  have hl : Hid (letB c = (decide (97 ≤ bits BinOp.or .u8 (c.toNat : Int) 32) && decide (bits BinOp.or .u8 (c.toNat : Int) 32 ≤ 122))) := hid (by
    rw [ho]; unfold letB; congr 1 <;> (rw [decide_eq_decide]; omega))
  clear ho
  go_enter Tryz.func81, Tryz.ntmps81
  go_wp2_with fail
  · have h : 97 ≤ bits BinOp.or .u8 (c.toNat : Int) 32 := by assumption
    go_ret
    exact ⟨ret_bool (by rw [hl.out, decide_eq_true h]; rfl), rfl⟩
  · go_ret
    exact ⟨ret_bool (by rw [hl.out, decide_eq_false (by omega)]; rfl), rfl⟩

set_option maxHeartbeats 400000 in
theorem digit_any (c : UInt8) (w : World) : Calls Tryz.prog 155 #[.int .u8 c.toNat] w fun e w' => e = .returned (.bool (digB c)) ∧ w = w' := by
  have hl : Hid (digB c = (decide (48 ≤ (c.toNat : Int)) && decide ((c.toNat : Int) ≤ 57))) := hid (by
    unfold digB; congr 1 <;> (rw [decide_eq_decide]; omega))
  go_enter Tryz.func155, Tryz.ntmps155
  go_wp2_with fail
  · have h : 48 ≤ (c.toNat : Int) := by assumption
    go_ret
    exact ⟨ret_bool (by rw [hl.out, decide_eq_true h]; rfl), rfl⟩
  · go_ret
    exact ⟨ret_bool (by rw [hl.out, decide_eq_false (by omega)]; rfl), rfl⟩

set_option maxHeartbeats 400000 in
theorem inner_any (c : UInt8) (w : World) : Calls Tryz.prog 83 #[.int .u8 c.toNat] w fun e w' => e = .returned (.bool (innB c)) ∧ w = w' := by
  have hl : Hid (innB c = (letB c || digB c || ((c.toNat : Int) == 95))) := hid (by
    unfold innB; congr 1; rw [Bool.eq_iff_iff, beq_iff_eq, beq_iff_eq, ← UInt8.toNat_inj]; simp; omega)
  go_enter Tryz.func83, Tryz.ntmps83
  go_wp2_with fail
  refine (letter_any c _).mono ?_
  rintro e w' ⟨rfl, rfl⟩
  cases h1 : letB c
  · go_wp2_with fail
    refine (digit_any c _).mono ?_
    rintro e w' ⟨rfl, rfl⟩
    cases h2 : digB c
    · go_wp2_with fail
      go_ret
      exact ⟨ret_bool (by rw [hl.out, h1, h2]; rfl), rfl⟩
    · go_wp2_with fail
      go_ret
      exact ⟨ret_bool (by rw [hl.out, h1, h2]; rfl), rfl⟩
  · go_wp2_with fail
    go_ret
    exact ⟨ret_bool (by rw [hl.out, h1]; rfl), rfl⟩

theorem let_fin : ∀ n : Fin 256, (decide (97 ≤ n.val ||| 32) && decide (n.val ||| 32 ≤ 122)) = (decide (97 ≤ n.val) && decide (n.val ≤ 122) || decide (65 ≤ n.val) && decide (n.val ≤ 90)) := by decide +kernel
theorem letB_eq (c : UInt8) : letB c = (decide (97 ≤ (c.toNat : Int)) && decide ((c.toNat : Int) ≤ 122) || decide (65 ≤ (c.toNat : Int)) && decide ((c.toNat : Int) ≤ 90)) := by
  have := let_fin ⟨c.toNat, c.toNat_lt⟩
  dsimp only at this
  unfold letB
  rw [UInt8.toNat_or]
  refine this.trans ?_
  congr 1 <;> congr 1 <;> (rw [decide_eq_decide]; omega)

set_option maxHeartbeats 400000 in
theorem rletter_any (c : UInt8) (w : World) : Calls Tryz.prog 171 #[.int .u8 c.toNat] w fun e w' => e = .returned (.bool (letB c)) ∧ w = w' := by
  have hl := hid (letB_eq c)
  generalize (c.toNat : Int) = n at *
  by_cases h1 : 97 ≤ n
  · by_cases h2 : n ≤ 122
    · go_enter Tryz.func171, Tryz.ntmps171
      go_wp2_with fail
      go_ret
      exact ⟨ret_bool (by rw [hl.out, decide_eq_true h1, decide_eq_true h2]; rfl), rfl⟩
    · have h2' : decide (n ≤ 122) = false := by simpa using h2
      have h3 : 65 ≤ n := by omega
      have h4 : decide (n ≤ 90) = false := by simp; omega
      go_enter Tryz.func171, Tryz.ntmps171
      go_wp2_with fail
      go_ret
      exact ⟨ret_bool (by rw [hl.out, decide_eq_true h1, h2', h4]; simp), rfl⟩
  · have h1' : decide (97 ≤ n) = false := by simpa using h1
    by_cases h3 : 65 ≤ n
    · go_enter Tryz.func171, Tryz.ntmps171
      go_wp2_with fail
      go_ret
      exact ⟨ret_bool (by rw [hl.out, h1', decide_eq_true h3]; rfl), rfl⟩
    · have h3' : decide (65 ≤ n) = false := by simpa using h3
      go_enter Tryz.func171, Tryz.ntmps171
      go_wp2_with fail
      go_ret
      exact ⟨ret_bool (by rw [hl.out, h1', h3']; rfl), rfl⟩

set_option maxHeartbeats 400000 in
theorem rdigit_any (c : UInt8) (w : World) : Calls Tryz.prog 172 #[.int .u8 c.toNat] w fun e w' => e = .returned (.bool (digB c)) ∧ w = w' := by
  have hl : Hid (digB c = (decide (48 ≤ (c.toNat : Int)) && decide ((c.toNat : Int) ≤ 57))) := hid (by
    unfold digB; congr 1 <;> (rw [decide_eq_decide]; omega))
  go_enter Tryz.func172, Tryz.ntmps172
  go_wp2_with fail
  · have h : 48 ≤ (c.toNat : Int) := by assumption
    go_ret
    exact ⟨ret_bool (by rw [hl.out, decide_eq_true h]; rfl), rfl⟩
  · go_ret
    exact ⟨ret_bool (by rw [hl.out, decide_eq_false (by omega)]; rfl), rfl⟩

/-- How many first bytes are of a kind. -/
def frontOf (p : UInt8 → Bool) (s : ByteArray) : Nat := (s.data.toList.takeWhile p).length

theorem front_step (p : UInt8 → Bool) (s : ByteArray) (k : Nat) (hk : k < s.size) (h : ∀ j, j < k → p (bt s j) = true) (hp : p (bt s k) = false) : frontOf p s = k := by
  have hs : s.data.toList.length = s.size := by rw [Array.length_toList]; rfl
  unfold frontOf
  rw [← List.take_append_drop k s.data.toList, List.takeWhile_append_of_pos, List.drop_eq_getElem_cons (by omega), List.takeWhile_cons_of_neg]
  · simp; omega
  · rw [bt, List.getElem?_eq_getElem (by omega)] at hp; simpa using hp
  · intro x hx
    obtain ⟨j, hj, rfl⟩ := List.getElem_of_mem hx
    have hj' : j < k := by rw [List.length_take] at hj; omega
    have := h j hj'
    rw [bt, List.getElem?_eq_getElem (by omega)] at this
    rw [List.getElem_take]; simpa using this

theorem front_all (p : UInt8 → Bool) (s : ByteArray) (h : ∀ j, j < s.size → p (bt s j) = true) : frontOf p s = s.size := by
  have hs : s.data.toList.length = s.size := by rw [Array.length_toList]; rfl
  unfold frontOf
  rw [← List.append_nil s.data.toList, List.takeWhile_append_of_pos]
  · simp [hs]
  intro x hx
  obtain ⟨j, hj, rfl⟩ := List.getElem_of_mem hx
  have := h j (by omega)
  rw [bt, List.getElem?_eq_getElem (by omega)] at this
  simpa using this

set_option maxHeartbeats 1000000 in
theorem front_any (f : Nat) (p : UInt8 → Bool) (hen : ∀ args w, (callFunc f args).run Tryz.prog w = .ok (.enter f args) w) (hp : ∀ c w, Calls Tryz.prog f #[.int .u8 c.toNat] w fun e w' => e = .returned (.bool (p c)) ∧ w = w')
    (b o : Nat) (s : ByteArray) (w : World) (hs : s.size ≤ 9223372036854775807) (hc : w.cell? ⟨b, o, none⟩ = some (.string s)) :
    Calls Tryz.prog 82 #[.pointer (some ⟨b, o, none⟩), .func (.func f) #[] #[]] w fun e w' => e = .returned (.int .i64 (frontOf p s)) ∧ w = w' := by
  go_enter Tryz.func82, Tryz.ntmps82
  go_wp2_with fail
  go_loop [5] (fun i => ∃ k : Nat, k ≤ s.size ∧ i = .int .i64 k ∧ ∀ j, j < k → p (bt s j) = true) (fun i => s.size - (intOf i).toNat)
  case atStart => exact ⟨0, by omega, rfl, by intro j h; omega⟩
  case round =>
    obtain ⟨k, hk, rfl, hall⟩ := hrel
    have Hall := hid hall
    clear hall
    by_cases hlt : k < s.size
    · have hg := hid (bt_get s k hlt)
      have hd : decide ((k : Int) < (s.size : Int)) = true := by simp; omega
      go_wp2_with fail
      refine (hp s[k] _).mono ?_
      rintro e w' ⟨rfl, rfl⟩
      cases hpk : p s[k]
      · go_wp2_with fail
        go_ret
        exact ⟨by rw [front_step p s k hlt Hall.out (by rw [← hg.out]; exact hpk)]; rfl, rfl⟩
      · go_wp2_with fail
        go_round
        case rel => exact ⟨k + 1, by omega, by go_num, fun j hj => by
          by_cases e : j = k
          · subst e; rw [← hg.out]; exact hpk
          · exact Hall.out j (by omega)⟩
        case measure => simp [intOf]; omega
    · obtain rfl : k = s.size := by omega
      have hd : decide ((s.size : Int) < (s.size : Int)) = false := by simp
      go_wp2_with fail
      go_ret
      exact ⟨by rw [front_all p s Hall.out]; rfl, rfl⟩

/-- Is a text a name? -/
def namB (s : ByteArray) : Bool := decide (0 < s.size) && letB (bt s 0) && decide (frontOf innB s = s.size) && decide (s.size ≤ 12)

theorem empty_of_size (s : ByteArray) (h : s.size = 0) : s = ByteArray.empty := by
  apply ByteArray.ext
  apply Array.eq_empty_of_size_eq_zero
  exact h

theorem toList_ne (s : ByteArray) (h : ¬ s.size = 0) : s.toList.isEmpty = false := by
  rw [List.isEmpty_eq_false_iff]
  intro e
  apply h
  have := congrArg List.length e
  rw [ByteArray.toList_eq] at this
  simpa using this

set_option maxHeartbeats 1000000 in
theorem names_any (s : ByteArray) (w : World) (hs : s.size ≤ 9223372036854775807) :
    Calls Tryz.prog 25 #[.string s] w fun e w' => e = .returned (.bool (namB s)) ∧ Below w.heap.size w w' := by
  by_cases h0 : s.size = 0
  · obtain rfl := empty_of_size s h0
    go_enter Tryz.func25, Tryz.ntmps25
    go_wp2_with fail
    go_ret
    exact ⟨rfl, by repeat (first | exact Below.refl _ _ | refine Below.alloc ?_ (by simp) _ | refine Below.setCell ?_ (by simp) _)⟩
  · have hne : s.toList.isEmpty = false := toList_ne s h0
    have h0' : (0 : Int) < (s.size : Int) := by omega
    have hg := hid (bt_get s 0 (by omega))
    go_enter Tryz.func25, Tryz.ntmps25
    go_wp2_with fail
    refine (letter_any s[0] _).mono ?_
    rintro e w' ⟨rfl, rfl⟩
    cases hl : letB s[0]
    · have H : Hid (namB s = false) := hid (by unfold namB; rw [← hg.out, hl]; simp)
      go_wp2_with fail
      go_ret
      exact ⟨by rw [H.out]; rfl, by repeat (first | exact Below.refl _ _ | refine Below.alloc ?_ (by simp) _ | refine Below.setCell ?_ (by simp) _)⟩
    · have hB : Below w.heap.size w (w.alloc (.cells #[.string s, .bool false, .bool false] 123)) := (Below.refl _ _).alloc (Nat.le_refl _) _
      have hlt := hid hl
      clear hl
      go_wp2_with fail
      refine (front_any 83 innB (enters_of Tryz.func83 (by kernel_rfl) rfl) inner_any w.heap.size 0 s _ hs (by go_simp)).mono ?_
      rintro e w' ⟨rfl, rfl⟩
      have hn := hid (show namB s = (decide (frontOf innB s = s.size) && decide (s.size ≤ 12)) by unfold namB; rw [← hg.out, hlt.out]; simp [show 0 < s.size by omega])
      generalize frontOf innB s = m at *
      by_cases h1 : m = s.size
      · have h1' : ((m : Int) == (s.size : Int)) = true := by rw [beq_iff_eq]; omega
        have H : Hid (namB s = decide ((s.size : Int) ≤ 12)) := hid (by rw [hn.out, h1]; simp; omega)
        clear h1
        go_wp2_with fail
        go_ret
        exact ⟨by rw [H.out]; rfl, hB⟩
      · have h1' : ((m : Int) == (s.size : Int)) = false := by rw [beq_eq_false_iff_ne]; omega
        have H : Hid (namB s = false) := hid (by rw [hn.out]; simp [h1])
        clear h1
        go_wp2_with fail
        go_ret
        exact ⟨by rw [H.out]; rfl, hB⟩

theorem innB_eq (c : UInt8) : innB c = (letB c || digB c || ((c.toNat : Int) == 95)) := by
  unfold innB; congr 1; rw [Bool.eq_iff_iff, beq_iff_eq, beq_iff_eq, ← UInt8.toNat_inj]; simp; omega

set_option maxHeartbeats 1000000 in
theorem rnames_any (s : ByteArray) (w : World) (hs : s.size ≤ 9223372036854775807) :
    Calls Tryz.prog 124 #[.string s] w fun e w' => e = .returned (.bool (namB s)) ∧ w = w' := by
  by_cases h0 : s.size < 1
  · have H : Hid (namB s = false) := hid (by unfold namB; simp [show ¬ 0 < s.size by omega])
    have hd : decide ((s.size : Int) < 1) = true := by simp; omega
    go_enter Tryz.func124, Tryz.ntmps124
    go_wp2_with fail
    go_ret
    exact ⟨by rw [H.out]; rfl, rfl⟩
  have hd : decide ((s.size : Int) < 1) = false := by simp; omega
  by_cases h12 : 12 < s.size
  · have H : Hid (namB s = false) := hid (by unfold namB; simp [show ¬ s.size ≤ 12 by omega])
    have hd2 : decide ((12 : Int) < (s.size : Int)) = true := by simp; omega
    go_enter Tryz.func124, Tryz.ntmps124
    go_wp2_with fail
    go_ret
    exact ⟨by rw [H.out]; rfl, rfl⟩
  have hd2 : decide ((12 : Int) < (s.size : Int)) = false := by simp; omega
  have hz : 0 < s.size := by omega
  have hg := hid (bt_get s 0 hz)
  go_enter Tryz.func124, Tryz.ntmps124
  go_wp2_with fail
  refine (rletter_any s[0] _).mono ?_
  rintro e w' ⟨rfl, rfl⟩
  cases hl : letB s[0]
  · have H : Hid (namB s = false) := hid (by unfold namB; rw [← hg.out, hl]; simp)
    go_wp2_with fail
    go_ret
    exact ⟨by rw [H.out]; rfl, rfl⟩
  · have hn : Hid (namB s = decide (frontOf innB s = s.size)) := hid (by unfold namB; rw [← hg.out, hl]; simp [hz, show s.size ≤ 12 by omega])
    clear hl
    go_wp2_with fail
    go_loop [3] (fun i => ∃ k : Nat, k ≤ s.size ∧ i = .int .i64 k ∧ ∀ j, j < k → innB (bt s j) = true) (fun i => s.size - (intOf i).toNat)
    case atStart => exact ⟨0, by omega, rfl, by intro j h; omega⟩
    case round =>
      obtain ⟨k, hk, rfl, hall⟩ := hrel
      have Hall := hid hall
      clear hall
      by_cases hlt : k < s.size
      · have hgk := hid (bt_get s k hlt)
        have hik := hid (innB_eq s[k])
        have hyes : Hid (innB s[k] = true → ∀ j, j < k + 1 → innB (bt s j) = true) := hid (fun h j hj => by
          by_cases e : j = k
          · subst e; rw [← hgk.out]; exact h
          · exact Hall.out j (by omega))
        have hno : Hid (innB s[k] = false → namB s = false) := hid (fun h => by
          rw [hn.out, front_step innB s k hlt Hall.out (by rw [← hgk.out]; exact h)]; simp; omega)
        have hd3 : decide ((k : Int) < (s.size : Int)) = true := by simp; omega
        go_wp2_with fail
        refine (rletter_any s[k] _).mono ?_
        rintro e w' ⟨rfl, rfl⟩
        cases h1 : letB s[k]
        · go_wp2_with fail
          refine (rdigit_any s[k] _).mono ?_
          rintro e w' ⟨rfl, rfl⟩
          cases h2 : digB s[k]
          · by_cases h3 : (s[k].toNat : Int) = 95
            · have h3' : ((s[k].toNat : Int) != 95) = false := by simp only [bne_eq_false_iff_eq]; exact h3
              have hin : Hid (innB s[k] = true) := hid (by rw [hik.out, h1, h2, beq_iff_eq.2 h3]; rfl)
              clear h1 h2 h3
              go_wp2_with fail
              go_round
              case rel => exact ⟨k + 1, by omega, by go_num, hyes.out hin.out⟩
              case measure => simp [intOf]; omega
            · have h3' : ((s[k].toNat : Int) != 95) = true := by rw [bne_iff_ne]; exact h3
              have hin : Hid (innB s[k] = false) := hid (by rw [hik.out, h1, h2, beq_eq_false_iff_ne.2 h3]; rfl)
              clear h1 h2 h3
              go_wp2_with fail
              go_ret
              exact ⟨by rw [hno.out hin.out]; rfl, rfl⟩
          · have hin : Hid (innB s[k] = true) := hid (by rw [hik.out, h1, h2]; rfl)
            clear h1 h2
            go_wp2_with fail
            go_round
            case rel => exact ⟨k + 1, by omega, by go_num, hyes.out hin.out⟩
            case measure => simp [intOf]; omega
        · have hin : Hid (innB s[k] = true) := hid (by rw [hik.out, h1]; rfl)
          clear h1
          go_wp2_with fail
          go_round
          case rel => exact ⟨k + 1, by omega, by go_num, hyes.out hin.out⟩
          case measure => simp [intOf]; omega
      · obtain rfl : k = s.size := by omega
        have H : Hid (namB s = true) := hid (by rw [hn.out, front_all innB s Hall.out]; simp)
        have hd3 : decide ((s.size : Int) < (s.size : Int)) = false := by simp
        go_wp2_with fail
        go_ret
        exact ⟨by rw [H.out]; rfl, rfl⟩

end Go.Proofs.YtgjaajgdiggbeaaGreatDoor

namespace Go.Proofs.YtgjaajgdiggbeaaGreatDoor
open Go.RowKit Go.Shelf
set_option linter.unusedVariables false
attribute [local go_sem] Oper.semAt_some

theorem deep_le (s : ByteArray) (k : Nat) : (stAt s k).2 ≤ k := by
  induction k with
  | zero => simp [stAt]
  | succ k ih =>
    rw [stAt]
    unfold stepSt
    split
    · simp; omega
    · split
      · simp; omega
      · split
        · simp; omega
        · split <;> simp <;> omega

theorem drop_extract (s : ByteArray) (k : Nat) : (s.extract k s.size).data.toList = s.data.toList.drop k := by
  rw [ByteArray.data_extract, Array.toList_extract]
  have hs : s.data.toList.length = s.size := by rw [Array.length_toList]; rfl
  rw [List.extract_eq_take_drop, ← hs]
  rw [List.take_of_length_le (by simp)]

def cutEnc (s : ByteArray) (k : Nat) : Array Value := #[.int .i64 (((allCuts s)[k]?.getD (0, 0)).1 : Nat), .int .i64 (((allCuts s)[k]?.getD (0, 0)).2 : Nat)]

theorem cutEnc_at (s : ByteArray) (k : Nat) (hk : k < s.size) (h : cutAt s k ≠ 0) : (cutsTo s k).length < (allCuts s).length ∧ cutEnc s (cutsTo s k).length = #[.int .i64 (k : Int), .int .i64 ((k + cutAt s k : Nat) : Int)] := by
  obtain ⟨t, ht⟩ := cutsTo_take s (k + 1) s.size (by omega)
  have ha : allCuts s = cutsTo s k ++ ((k, k + cutAt s k) :: (t ++ [(s.size, s.size)])) := by
    unfold allCuts; rw [ht, cutsTo, if_neg h]; simp
  refine ⟨by rw [ha]; simp, ?_⟩
  unfold cutEnc
  rw [ha, List.getElem?_append_right (Nat.le_refl _), Nat.sub_self]
  simp

theorem cutEnc_end (s : ByteArray) : (cutsTo s s.size).length < (allCuts s).length ∧ (cutsTo s s.size).length + 1 = (allCuts s).length ∧ cutEnc s (cutsTo s s.size).length = #[.int .i64 (s.size : Int), .int .i64 (s.size : Int)] := by
  refine ⟨by simp [allCuts], by simp [allCuts], ?_⟩
  unfold cutEnc allCuts
  rw [List.getElem?_append_right (Nat.le_refl _), Nat.sub_self]
  simp

theorem cuts_stay (s : ByteArray) (k : Nat) (h : cutAt s k = 0) : cutsTo s (k + 1) = cutsTo s k := by rw [cutsTo, if_pos h, List.append_nil]
theorem cuts_more (s : ByteArray) (k : Nat) (h : cutAt s k ≠ 0) : (cutsTo s (k + 1)).length = (cutsTo s k).length + 1 := by rw [cutsTo, if_neg h]; simp

set_option maxHeartbeats 400000 in
theorem cuts_any (s : ByteArray) (w : World) :
    Calls Tryz.prog 76 #[.string s] w fun e w' => e = .returned (.func (.func 146) #[] #[.pointer (some ⟨w.heap.size, 0, none⟩)]) ∧ w.alloc (.cells #[.string s] 9) = w' := by
  go_enter Tryz.func76, Tryz.ntmps76
  go_wp2
  go_ret
  exact ⟨rfl, rfl⟩

set_option maxRecDepth 100000 in
set_option maxHeartbeats 2000000 in
theorem cuts1_seq (Bs : Nat) (S : Nat → Prop) (s : ByteArray) (w : World) (hs : s.size ≤ 1000000000) (hSB : S Bs) (hBs : w.cell? ⟨Bs, 0, none⟩ = some (.string s)) :
    SeqP Tryz.prog 146 #[.pointer (some ⟨Bs, 0, none⟩)] (cutEnc s) (allCuts s).length Eq (KeepsOn S) w := by
  intro l J Jx W hW hJ hJx hY h0
  have hBs' : W.cell? ⟨Bs, 0, none⟩ = some (.string s) := (hW.cell (World.block_lt_of_cell? w _ hBs)).trans hBs
  clear hBs hW hJ hJx
  refine calls_wide (callsIn_of_wp Tryz.func146 rfl trivial ?_ rfl)
  simp only [Tryz.ntmps146, List.size_toArray, List.length_cons, List.length_nil, Nat.reduceAdd, Nat.reduceSub, Array.replicate_succ, Array.replicate_zero, List.push_toArray, List.append_toArray, List.nil_append, List.cons_append]
  gi_wp2
  gi_loopw [3, 4, 5] (fun q d i wr => ∃ k : Nat, k ≤ s.size ∧ q = .bool (stAt s k).1 ∧ d = .int .i64 ((stAt s k).2 : Nat) ∧ i = .int .i64 k ∧ J (cutsTo s k).length wr ∧ KeepsOn S W wr)
    (fun _ _ i _ => s.size - (intOf i).toNat)
  case atStart => exact ⟨0, by omega, rfl, rfl, rfl, h0, KeepsOn.refl _ _⟩
  case round =>
    obtain ⟨k, hk, rfl, rfl, rfl, hj, hkp⟩ := hrel
    have hbox : wr.cell? ⟨Bs, 0, none⟩ = some (.string s) := (hkp.cell (p := ⟨Bs, 0, none⟩) hSB).trans hBs'
    by_cases hlt : k < s.size
    · have hg := bt_get s k hlt
      have hst : stAt s (k + 1) = stepSt s[k] (stAt s k).1 (stAt s k).2 := by rw [hg]; rfl
      have hcut : cutAt s k = if (stAt s k).1 = true ∨ (stAt s k).2 ≠ 0 then 0 else if s[k] = 10 then 1 else if diaAt s k = true then 3 else 0 := by rw [hg]; rfl
      have hdl := deep_le s k
      have hd : decide ((k : Int) < (s.size : Int)) = true := by simp; omega
      have hdp : Hid (Lib.hasPrefix (s.extract k s.size).data.toList [226, 139, 132] = diaAt s k) := hid (by rw [drop_extract]; rfl)
      rcases cut_cases s k with h0 | h1 | h3
      · -- it is not cut here
        have hcl := hid (cuts_stay s k h0)
        have Hst := hid hst
        have Hcut := hid hcut
        have H0 := hid h0
        clear hst hcut hg h0
        generalize (stAt s k).1 = q at *
        generalize (stAt s k).2 = d at *
        have hbyte : ∀ b : UInt8, ((s[k].toNat : Int) == (b.toNat : Int)) = decide (s[k] = b) := fun b => by
          rw [Bool.eq_iff_iff, beq_iff_eq, decide_eq_true_eq, ← UInt8.toNat_inj]; omega
        have Hb := hid hbyte
        clear hbyte
        by_cases h39 : s[k] = 39
        · have t39 : ((s[k].toNat : Int) == (((ByteArray.mk #[39])[0]'(by decide)).toNat : Int)) = true := (Hb.out 39).trans (decide_eq_true h39)
          have Hnew : Hid (stAt s (k + 1) = (!q, d)) := hid (by rw [Hst.out, stepSt, if_pos h39])
          clear h39
          gi_wp2
          refine ⟨fun _ _ => trivial, ?_⟩
          gi_wp2
          go_roundw
          case rel => exact ⟨k + 1, by omega, by rw [Hnew.out], by rw [Hnew.out] <;> rfl, by go_num, by rw [hcl.out]; exact hj, hkp⟩
          case measure => simp [intOf]; omega
        have t39 : ((s[k].toNat : Int) == (((ByteArray.mk #[39])[0]'(by decide)).toNat : Int)) = false := (Hb.out 39).trans (decide_eq_false h39)
        cases q
        case true =>
          have Hnew : Hid (stAt s (k + 1) = (true, d)) := hid (by rw [Hst.out, stepSt, if_neg h39, if_pos rfl])
          clear h39
          gi_wp2
          refine ⟨fun _ _ => trivial, ?_⟩
          gi_wp2
          go_roundw
          case rel => exact ⟨k + 1, by omega, by rw [Hnew.out], by rw [Hnew.out] <;> rfl, by go_num, by rw [hcl.out]; exact hj, hkp⟩
          case measure => simp [intOf]; omega
        by_cases h123 : s[k] = 123
        · have t123 : ((s[k].toNat : Int) == 123) = true := (Hb.out 123).trans (decide_eq_true h123)
          have Hnew : Hid (stAt s (k + 1) = (false, d + 1)) := hid (by rw [Hst.out, stepSt, if_neg h39, if_neg (by simp), if_pos h123])
          clear h39 h123
          gi_wp2
          refine ⟨fun _ _ => trivial, ?_⟩
          gi_wp2
          go_roundw
          case rel => exact ⟨k + 1, by omega, by rw [Hnew.out], by rw [Hnew.out]; go_num, by go_num, by rw [hcl.out]; exact hj, hkp⟩
          case measure => simp [intOf]; omega
        have t123 : ((s[k].toNat : Int) == 123) = false := (Hb.out 123).trans (decide_eq_false h123)
        by_cases h125 : s[k] = 125
        · have t125 : ((s[k].toNat : Int) == 125) = true := (Hb.out 125).trans (decide_eq_true h125)
          have Hnew : Hid (stAt s (k + 1) = (false, d - 1)) := hid (by rw [Hst.out, stepSt, if_neg h39, if_neg (by simp), if_neg h123, if_pos h125])
          clear h39 h123 h125
          gi_wp2
          refine ⟨fun _ _ => trivial, ?_⟩
          gi_wp2
          go_roundw
          case rel => exact ⟨k + 1, by omega, by rw [Hnew.out], by rw [Hnew.out]; first | rfl | (congr 1; omega) | skip, by go_num, by rw [hcl.out]; exact hj, hkp⟩
          case measure => simp [intOf]; omega
        have t125 : ((s[k].toNat : Int) == 125) = false := (Hb.out 125).trans (decide_eq_false h125)
        have Hnew : Hid (stAt s (k + 1) = (false, d)) := hid (by rw [Hst.out, stepSt, if_neg h39, if_neg (by simp), if_neg h123, if_neg h125])
        by_cases hd0 : d = 0
        · subst hd0
          have h10 : s[k] ≠ 10 := by
            intro e
            have h0 := H0.out
            rw [Hcut.out, if_neg (by simp), if_pos e] at h0; omega
          have hdn : diaAt s k = false := by
            cases hdv : diaAt s k
            · rfl
            · have h0 := H0.out
              rw [Hcut.out, if_neg (by simp), if_neg h10, if_pos hdv] at h0; omega
          have t10 : ((s[k].toNat : Int) == (((ByteArray.mk #[10])[0]'(by decide)).toNat : Int)) = false := (Hb.out 10).trans (decide_eq_false h10)
          clear h39 h123 h125 h10
          gi_wp2_with (refine ⟨trivial, rfl, ?_⟩; gi_at_call 89; refine (wide_calls (Tryz.strings_HasPrefix _ _ _)).mono ?_; rintro e w' ⟨rfl, rfl⟩; rw [hdp.out])
          refine ⟨fun _ _ => trivial, ?_⟩
          gi_wp2
          go_roundw
          case rel => exact ⟨k + 1, by omega, by rw [Hnew.out], by rw [Hnew.out] <;> rfl, by go_num, by rw [hcl.out]; exact hj, hkp⟩
          case measure => simp [intOf]; omega
        · have td : ((d : Int) == 0) = false := by rw [beq_eq_false_iff_ne]; omega
          clear h39 h123 h125 hd0
          gi_wp2
          refine ⟨trivial, ?_⟩
          gi_wp2
          refine ⟨fun _ _ => trivial, ?_⟩
          gi_wp2
          go_roundw
          case rel => exact ⟨k + 1, by omega, by rw [Hnew.out], by rw [Hnew.out] <;> rfl, by go_num, by rw [hcl.out]; exact hj, hkp⟩
          case measure => simp [intOf]; omega
      · -- the end of a line
        obtain ⟨he1, he2⟩ := cutEnc_at s k hlt (by omega)
        obtain ⟨fn, tmps, assign, body, hy, hR⟩ := hY _ wr he1 hj
        rw [he2, h1, show ((k + 1 : Nat) : Int) = (k : Int) + 1 from by omega] at hy
        have hcm := hid (cuts_more s k (by omega))
        have hcut' := hcut
        rw [h1] at hcut'
        have hq : (stAt s k).1 = false ∧ (stAt s k).2 = 0 ∧ s[k] = 10 := by
          split at hcut'
          · omega
          · rename_i h; split at hcut'
            · rename_i h'; exact ⟨by simpa using (not_or.1 h).1, by have := (not_or.1 h).2; omega, h'⟩
            · split at hcut' <;> omega
        obtain ⟨hq1, hq2, hq3⟩ := hq
        have Hnew : Hid (stAt s (k + 1) = (false, 0)) := hid (by rw [hst, hq1, hq2, hq3]; rfl)
        have e10 : s[k].toNat = 10 := by rw [hq3]; rfl
        rw [hq1, hq2, show ((0 : Nat) : Int) = 0 from rfl]
        have H1 := hid h1
        have Hq1 := hid hq1
        have Hq2 := hid hq2
        clear hst hcut hcut' hg h1 hq1 hq2 hq3 he1 he2 hdl
        gi_wp2
        refine ⟨rfl, hR.mono ?_⟩
        rintro e W3 (⟨rfl, hJ3, hk3⟩ | ⟨rfl, hJx3⟩)
        · have hkp3 := hkp.trans _ _ _ hk3
          clear hk3
          gi_wp2
          go_roundw
          case rel => exact ⟨k + 1, by omega, by rw [Hnew.out], by rw [Hnew.out]; rfl, by go_num, by rw [hcm.out]; exact hJ3, hkp3⟩
          case measure => simp [intOf]; omega
        · gi_wp2
          refine bodyPost_ret (results_none rfl _ _ _) rfl ?_
          exact ⟨⟨_, rfl⟩, .inr hJx3⟩
      · -- a diamond
        have hdi := cut_three s k h3
        obtain ⟨hsz, hb226, _, _⟩ := dia_bytes s k hdi
        obtain ⟨he1, he2⟩ := cutEnc_at s k hlt (by omega)
        obtain ⟨fn, tmps, assign, body, hy, hR⟩ := hY _ wr he1 hj
        rw [he2, h3, show ((k + 3 : Nat) : Int) = (k : Int) + 3 from by omega] at hy
        have hcm := hid (cuts_more s k (by omega))
        have hcut' := hcut
        rw [h3] at hcut'
        have hq : (stAt s k).1 = false ∧ (stAt s k).2 = 0 := by
          split at hcut'
          · omega
          · rename_i h; exact ⟨by simpa using (not_or.1 h).1, by have := (not_or.1 h).2; omega⟩
        obtain ⟨hq1, hq2⟩ := hq
        rw [← hg] at hb226
        have Hnew : Hid (stAt s (k + 1) = (false, 0)) := hid (by rw [hst, hq1, hq2, hb226]; rfl)
        have e226 : s[k].toNat = 226 := by rw [hb226]; rfl
        rw [hq1, hq2, show ((0 : Nat) : Int) = 0 from rfl]
        have H3 := hid h3
        have Hq1 := hid hq1
        have Hq2 := hid hq2
        clear hst hcut hcut' hg h3 hq1 hq2 hb226 he1 he2 hdl
        gi_wp2_with (refine ⟨trivial, rfl, ?_⟩; gi_at_call 89; refine (wide_calls (Tryz.strings_HasPrefix _ _ _)).mono ?_; rintro e w' ⟨rfl, rfl⟩; rw [hdp.out])
        refine ⟨rfl, hR.mono ?_⟩
        rintro e W3 (⟨rfl, hJ3, hk3⟩ | ⟨rfl, hJx3⟩)
        · have hkp3 := hkp.trans _ _ _ hk3
          clear hk3
          gi_wp2
          go_roundw
          case rel => exact ⟨k + 1, by omega, by rw [Hnew.out], by rw [Hnew.out]; rfl, by go_num, by rw [hcm.out]; exact hJ3, hkp3⟩
          case measure => simp [intOf]; omega
        · gi_wp2
          refine bodyPost_ret (results_none rfl _ _ _) rfl ?_
          exact ⟨⟨_, rfl⟩, .inr hJx3⟩
    · obtain rfl : k = s.size := by omega
      have hd : decide ((s.size : Int) < (s.size : Int)) = false := by simp
      obtain ⟨he1, he2, he3⟩ := cutEnc_end s
      obtain ⟨fn, tmps, assign, body, hy, hR⟩ := hY _ wr he1 hj
      rw [he3] at hy
      gi_wp2
      refine ⟨rfl, hR.mono ?_⟩
      rintro e W3 (⟨rfl, hJ3, hk3⟩ | ⟨rfl, hJx3⟩)
      · rw [he2] at hJ3
        gi_wp2
        go_end0
        exact ⟨⟨_, rfl⟩, .inl hJ3⟩
      · gi_wp2
        go_end0
        exact ⟨⟨_, rfl⟩, .inr hJx3⟩

end Go.Proofs.YtgjaajgdiggbeaaGreatDoor

namespace Go.Proofs.YtgjaajgdiggbeaaGreatDoor
open Go.RowKit Go.Shelf
set_option linter.unusedVariables false
attribute [local go_sem] Oper.semAt_some

theorem Tryz.infoStr : (Tryz.prog.info? 9).map (fun i => (i.zero, i.size, i.bytes)) = some (some (.string ⟨#[]⟩), 1, 16) := by kernel_rfl

theorem trim_any (s : ByteArray) (w : World) (hs : s.size ≤ 9223372036854775807) :
    Calls Tryz.prog 77 #[.string s, .string ⟨#[32]⟩] w fun e w' => e = .returned (.string ⟨(Lib.trimB s.data.toList 32).toArray⟩) ∧ Quiet w w' := by
  refine (Tryz.strings_Trim_one s 32 (by decide) w hs).mono ?_
  rintro e w' ⟨rfl, rfl | rfl⟩
  · exact ⟨rfl, Quiet.refl _⟩
  · exact ⟨rfl, ⟨1, rfl⟩⟩

/-- New strings. -/
def NewStrs (w : World) (xs : List ByteArray) (v : Value) (w' : World) : Prop :=
  w'.ownsRow w.heap.size 9 1 v xs.length (xs.map Value.string) ∧ Below w.heap.size w w'
def RetStrs (w : World) (xs : List ByteArray) (e : Ending) (w' : World) : Prop := ∃ v, e = .returned v ∧ NewStrs w xs v w'

/-- What Split holds when k pieces have gone. -/
def splitI (s : ByteArray) (w : World) (k : Nat) (W : World) : Prop :=
  ((∃ v, Boxed W (w.heap.size + 1) 44 v ∧ W.ownsRow (w.heap.size + 4) 9 1 v (outOf s ((allCuts s).take k) 0).length ((outOf s ((allCuts s).take k) 0).map Value.string)) ∧
    Boxed W (w.heap.size + 1 + 1) 3 (.int .i64 (endOf ((allCuts s).take k))) ∧ Boxed W w.heap.size 9 (.string s) ∧ w.heap.size + 4 ≤ W.heap.size) ∧ Below w.heap.size w W

theorem tw_all {α : Type} (p : α → Bool) (l : List α) (x : α) (h : x ∈ l.takeWhile p) : p x = true := by
  induction l with
  | nil => simp at h
  | cons y r ih =>
    by_cases hy : p y = true
    · rw [List.takeWhile_cons_of_pos hy] at h
      rcases List.mem_cons.1 h with rfl | h
      · exact hy
      · exact ih h
    · rw [List.takeWhile_cons_of_neg hy] at h; simp at h

theorem dw_nil {α : Type} (p : α → Bool) (l : List α) (h : ∀ x ∈ l, p x = true) : l.dropWhile p = [] := by
  induction l with
  | nil => rfl
  | cons y r ih =>
    rw [List.dropWhile_cons_of_pos (h y (by simp))]
    exact ih (fun x hx => h x (by simp [hx]))

theorem trim_blank (pc : ByteArray) : Lib.trimB pc.data.toList 32 = [] ↔ blankB pc = true := by
  unfold Lib.trimB Lib.trimLeftB Lib.trimRightB blankB
  generalize pc.data.toList = l
  rw [List.all_eq_true]
  constructor
  · intro h
    have h1 : ∀ x ∈ (l.reverse.dropWhile (· == 32)).reverse, (x == 32) = true := by
      intro x hx
      have := List.takeWhile_append_dropWhile (p := (· == 32)) (l := (l.reverse.dropWhile (· == 32)).reverse)
      rw [h, List.append_nil] at this
      rw [← this] at hx
      exact (tw_all (· == 32) _ _ hx)
    intro x hx
    have e := List.takeWhile_append_dropWhile (p := (· == 32)) (l := l.reverse)
    have hx' : x ∈ l.reverse := List.mem_reverse.2 hx
    rw [← e] at hx'
    rcases List.mem_append.1 hx' with h2 | h2
    · exact tw_all (· == 32) _ _ h2
    · exact h1 x (List.mem_reverse.2 h2)
  · intro h
    have h1 : l.reverse.dropWhile (· == 32) = [] := dw_nil _ _ (fun x hx => h x (List.mem_reverse.1 hx))
    rw [h1]; rfl

theorem outOf_len (s : ByteArray) (l : List (Nat × Nat)) (f : Nat) : (outOf s l f).length ≤ l.length := by
  induction l generalizing f with
  | nil => simp [outOf]
  | cons c r ih =>
    obtain ⟨p, nx⟩ := c
    have := ih nx
    simp only [outOf, List.length_append, List.length_cons]
    split <;> simp <;> omega

theorem outOf_take_len (s : ByteArray) (k : Nat) : (outOf s ((allCuts s).take k) 0).length ≤ s.size + 1 := by
  have h1 := outOf_len s ((allCuts s).take k) 0
  have h2 : ((allCuts s).take k).length ≤ (allCuts s).length := List.length_take_le' _ _
  have h3 := allCuts_length_le s
  omega

set_option maxRecDepth 100000 in
set_option maxHeartbeats 2000000 in
theorem split_any (s : ByteArray) (w : World) (hs : s.size ≤ 1000000000) : Calls Tryz.prog 20 #[.string s] w (RetStrs w (splitOf s)) := by
  obtain ⟨i0, hi, hz0, hz1, hz2⟩ := info_parts Tryz.infoStr
  refine calls_of_wp_m Tryz.func20 rfl ?_
  simp only [Tryz.ntmps20, List.size_toArray, List.length_cons, List.length_nil, Nat.reduceAdd, Nat.reduceSub, Array.replicate_succ, Array.replicate_zero, List.push_toArray, List.append_toArray, List.nil_append, List.cons_append]
  go_wp2_with fail
  go_step3
  go_wp2_with fail
  go_step3
  go_wp2_with fail
  refine (cuts_any _ _).mono ?_
  rintro e w' ⟨rfl, rfl⟩
  go_wp2_with fail
  go_outline
  refine range_law0 rfl (enters_of Tryz.func146 (by kernel_rfl) rfl) (S := fun b => b = w.heap.size + 3)
    (cuts1_seq (w.heap.size + 3) _ s _ hs rfl (by go_simp))
    (by intro b h; simp; omega) (fun _ => rfl) (splitI s w) (fun _ _ => False)
    (OwnFrom.and (Own.from (fun k A B row hs hg hr => by
      obtain ⟨⟨v, h1, h2⟩, h3, h4, h5⟩ := hs
      exact ⟨⟨v, boxed_turn h1 hg hr, owns_turn h2 hg hr⟩, boxed_turn h3 hg hr, boxed_turn h4 hg hr, Nat.le_trans h5 hg.size⟩) _) (ownFrom_below (Nat.le_refl _) (by simp; omega)))
    (fun _ _ _ _ hs _ _ => hs)
    ⟨⟨⟨.slice none 0 0, (((boxed_at (by simp)).alloc _).alloc _), World.ownsRow_nil _ _ _ _⟩, (show Boxed _ (w.heap.size + 1 + 1) 3 (.int .i64 0) from (boxed_at (by simp)).alloc _), ((((boxed_at rfl).alloc _).alloc _).alloc _), by simp⟩, (((((Below.refl _ w).alloc (Nat.le_refl _) _).alloc (by simp) _).alloc (by simp; omega) _).alloc (by simp; omega) _)⟩
    ?a1 ?assign ?body ?done ?stop
  case assign =>
    intro l k W K hK
    simp only [cutEnc]
    gi_wp2
    exact hK
  case body =>
    rintro l k W hk ⟨⟨⟨v, hv, hrow⟩, hfr, hsb, hsz⟩, hB⟩
    have hc0 := hsb.cell
    have hc2 := hfr.cell
    have hf2 := hfr.frozen
    obtain ⟨p, nx, he, h1, h2, h3, h4⟩ := cut_nth s k hk
    rw [he]
    simp only [Option.getD_some]
    have hps : (s.extract (endOf ((allCuts s).take k)) p).size ≤ 1000000000 := by rw [ByteArray.size_extract]; omega
    have hendk := hid (show endOf ((allCuts s).take (k + 1)) = nx by rw [List.take_add_one, he]; exact endOf_snoc _ _)
    have houtk := hid (show outOf s ((allCuts s).take (k + 1)) 0 = outOf s ((allCuts s).take k) 0 ++ if blankB (s.extract (endOf ((allCuts s).take k)) p) = true then [] else [s.extract (endOf ((allCuts s).take k)) p] by
      rw [List.take_add_one, he]; exact outOf_snoc' s _ (p, nx))
    have hlk := hid (outOf_take_len s k)
    clear he hk
    generalize outOf s ((allCuts s).take k) 0 = L at *
    generalize endOf ((allCuts s).take k) = f at *
    generalize hpc : s.extract f p = pc at *
    have Hpc := hid hpc
    clear hpc
    gi_wp2
    rw [Hpc.out]
    refine ⟨trivial, rfl, ?_⟩
    refine (round_calls l (trim_any pc _ (by omega))).mono ?_
    rintro e W2 ⟨rfl, nq, rfl⟩
    have hv2 : Boxed ((W.setCell ⟨w.heap.size + 1 + 1, 0, none⟩ (.int .i64 (nx : Nat))).drewN nq) (w.heap.size + 1) 44 v := hv.other (by omega) _
    have hn2 : Boxed ((W.setCell ⟨w.heap.size + 1 + 1, 0, none⟩ (.int .i64 (nx : Nat))).drewN nq) (w.heap.size + 1 + 1) 3 (.int .i64 (nx : Nat)) := hfr.set _
    have hs2 : Boxed ((W.setCell ⟨w.heap.size + 1 + 1, 0, none⟩ (.int .i64 (nx : Nat))).drewN nq) w.heap.size 9 (.string s) := hsb.other (by omega) _
    have hr2 : ((W.setCell ⟨w.heap.size + 1 + 1, 0, none⟩ (.int .i64 (nx : Nat))).drewN nq).ownsRow (w.heap.size + 4) 9 1 v L.length (L.map Value.string) :=
      ownsRow_setCell_below hrow (by simp) _
    have hB2 : Below w.heap.size w ((W.setCell ⟨w.heap.size + 1 + 1, 0, none⟩ (.int .i64 (nx : Nat))).drewN nq) := below_drewN (hB.setCell (by simp; omega) _) _
    have hko : KeepsOthers W ((W.setCell ⟨w.heap.size + 1 + 1, 0, none⟩ (.int .i64 (nx : Nat))).drewN nq) := (KeepsOthers.setCell _ _ _).trans (KeepsOthers.drewN' _ _)
    have hkn : KeepsOn (fun b => b = w.heap.size + 3) W ((W.setCell ⟨w.heap.size + 1 + 1, 0, none⟩ (.int .i64 (nx : Nat))).drewN nq) := ((KeepsOn.refl _ _).setCell (by simp) _).drewN _
    have hsz2 : w.heap.size + 4 ≤ ((W.setCell ⟨w.heap.size + 1 + 1, 0, none⟩ (.int .i64 (nx : Nat))).drewN nq).heap.size := by simpa using hsz
    generalize (W.setCell ⟨w.heap.size + 1 + 1, 0, none⟩ (.int .i64 (nx : Nat))).drewN nq = W2 at *
    clear hv hfr hsb hrow hc0 hc2 hf2
    by_cases hbl : blankB pc = true
    · have htr : Lib.trimB pc.data.toList 32 = [] := (trim_blank pc).2 hbl
      rw [htr]
      have hL : Hid (outOf s ((allCuts s).take (k + 1)) 0 = L) := hid (by rw [houtk.out, if_pos hbl, List.append_nil])
      gi_wp2
      refine ⟨hko.from _, hkn, ⟨?_, hB2⟩⟩
      rw [hL.out, hendk.out]
      exact ⟨⟨v, hv2, hr2⟩, hn2, hs2, hsz2⟩
    · have htr : Lib.trimB pc.data.toList 32 ≠ [] := fun e => hbl ((trim_blank pc).1 e)
      have hie : (Lib.trimB pc.data.toList 32).isEmpty = false := by simpa using htr
      generalize Lib.trimB pc.data.toList 32 = tl at *
      have hL : Hid (outOf s ((allCuts s).take (k + 1)) 0 = L ++ [pc]) := hid (by rw [houtk.out, if_neg hbl])
      have hlk' := hlk.out
      have hvc := hv2.cell
      have hone := hid (one_new W2 (.string pc) 9)
      clear hbl htr
      gi_wp2_with (gi_at_builtin; refine wpListIn_append_own _ rfl _ _ 44 rfl (w.heap.size + 4) 9 i0 (.string ⟨#[]⟩) 1 16 Tryz.underlying44 hi hz0 hz1 hz2 rfl (by decide) _ _ _ rfl (hr2.alloc _) ⟨W2.heap.size, 0, none⟩ 1 1 [.string pc] rfl rfl hone.out (by simp [Value.oneCell']) (by simp [maxLen]; omega) (by omega) (by simp; omega) ?_; intro v' w1 hown' hgrow _; obtain ⟨g', cap', rfl⟩ := ownsRow_succ hown'; obtain ⟨hr4, hk4, hb4, hoth, hbx, hkn4⟩ := append_put (B := w.heap.size + 1) (n₀ := w.heap.size) hr2 hown' hgrow (by omega) hsz2 (by omega); have hv3 := (hbx _ hv2).1; have hc3 := hv3.cell; have hf3 := hv3.frozen)
      refine ⟨(hko.trans hk4).from _, hkn.trans _ _ _ (hkn4 _ (by intro b h; omega)), ⟨?_, hB2.trans hb4⟩⟩
      rw [hL.out, hendk.out]
      refine ⟨⟨_, (hbx _ hv2).2, by simpa using hr4⟩, hoth _ _ _ (by omega) (by omega) hn2, hoth _ _ _ (by omega) (by omega) hs2, ?_⟩
      have := hb4.size; omega
  case done =>
    rintro D W hD ⟨⟨⟨v, hv, hrow⟩, hfr, hsb, hsz⟩, hB⟩ hK
    rw [List.take_of_length_le (Nat.le_refl _)] at hrow
    have hvc := hv.cell
    go_wp2
    try rw [Exit.noGoto_ret]
    refine post_mark hK (results_tmp rfl _ _ _) ?_
    refine ⟨_, rfl, ?_, below_putObj hB (by simp at hD; omega) _⟩
    exact owns_mono (owns_turn hrow (grownBy_putObj' W D (.deferred none)) (fun r e => by cases e; exact ⟨_, hK, rfl⟩)) (by omega)
  case stop =>
    rintro D c W _ h _
    exact h.elim

end Go.Proofs.YtgjaajgdiggbeaaGreatDoor

namespace Go.Proofs.YtgjaajgdiggbeaaGreatDoor
open Go.RowKit Go.Shelf
set_option linter.unusedVariables false

theorem dia_slice (s : ByteArray) (i : Nat) (h : i + 3 ≤ s.size) : (s.extract i (i + 3)).data.toList = (s.data.toList.drop i).take 3 := by
  rw [ByteArray.data_extract, Array.toList_extract, List.extract_eq_take_drop]
  congr 1; omega

theorem diaAt_iff (s : ByteArray) (i : Nat) (h : i + 3 ≤ s.size) : diaAt s i = true ↔ (s.extract i (i + 3)).data.toList = [226, 139, 132] := by
  rw [dia_slice s i h]
  unfold diaAt Lib.hasPrefix dia
  rw [List.isPrefixOf_iff_prefix]
  constructor
  · rintro ⟨t, ht⟩; rw [← ht]; rfl
  · intro e; exact ⟨(s.data.toList.drop i).drop 3, by rw [← e, List.take_append_drop]⟩

theorem diaAt_far (s : ByteArray) (i : Nat) (h : ¬ i + 3 ≤ s.size) : diaAt s i = false := by
  cases hd : diaAt s i
  · rfl
  · exact absurd (dia_bytes s i hd).1 h

set_option maxRecDepth 100000 in
set_option maxHeartbeats 400000 in
theorem begins_dia (s : ByteArray) (i : Nat) (w : World) (hs : s.size ≤ 1000000000) (hi : i ≤ s.size) :
    Calls Tryz.prog 262 #[.string s, .int .i64 i, .string ⟨#[226, 139, 132]⟩] w fun e w' => e = .returned (.bool (diaAt s i)) ∧ w = w' := by
  by_cases h : i + 3 ≤ s.size
  · have hd := diaAt_iff s i h
    have hk : decide ((i : Int) + 3 ≤ (s.size : Int)) = true := by simp; omega
    have h2 : (i : Int) + 3 ≤ (s.size : Int) := by omega
    have h3 : (i : Int) ≤ (i : Int) + 3 := by omega
    have H : Hid (((s.extract i (i + 3)).toList == [226, 139, 132]) = diaAt s i) := hid (by
      rw [ByteArray.toList_eq, Bool.eq_iff_iff, beq_iff_eq]; exact hd.symm)
    clear hd
    go_enter Tryz.func262, Tryz.ntmps262
    go_wp2_with fail
    go_ret
    exact ⟨ret_bool H.out, rfl⟩
  · have hd := hid (diaAt_far s i h)
    have hk : decide ((i : Int) + 3 ≤ (s.size : Int)) = false := by simp; omega
    go_enter Tryz.func262, Tryz.ntmps262
    go_wp2_with fail
    go_ret
    exact ⟨by rw [hd.out]; rfl, rfl⟩


theorem str_ne {l l' : ByteArray} (h : l ≠ l') : (l.toList == l'.toList) = false := by
  rw [beq_eq_false_iff_ne]
  intro e
  apply h
  rw [ByteArray.toList_eq, ByteArray.toList_eq] at e
  apply ByteArray.ext
  exact Array.toList_inj.1 e

/-- A slice of strings that reads as a list. -/
def Strs (w : World) (v : Value) (xs : List ByteArray) : Prop :=
  ∃ a cap, v = .slice a xs.length cap ∧ xs.length ≤ cap ∧ cap ≤ 9223372036854775807 ∧ (a = none → cap = 0) ∧ Lies w a (xs.map Value.string)

theorem Strs.below {w w' : World} {v : Value} {xs : List ByteArray} (h : Strs w v xs) (hb : Below w.heap.size w w') : Strs w' v xs := by
  obtain ⟨a, cap, e, h1, h2, h3, h4⟩ := h
  exact ⟨a, cap, e, h1, h2, h3, h4.below hb⟩

theorem Strs.parts {w : World} {v : Value} {xs : List ByteArray} (h : Strs w v xs) :
    ∃ a cap, v = .slice a xs.length cap ∧ xs.length ≤ cap ∧ cap ≤ 9223372036854775807 ∧ (a = none → cap = 0) ∧
      (xs = [] ∨ ∃ b o, a = some ⟨b, o, none⟩ ∧ ∀ i (hi : i < xs.length), w.cell? ⟨b, o + i, none⟩ = some (.string xs[i])) := by
  obtain ⟨a, cap, e, h1, h2, h3, h4⟩ := h
  refine ⟨a, cap, e, h1, h2, h3, ?_⟩
  cases xs with
  | nil => exact .inl rfl
  | cons x r =>
    obtain ⟨b, o, e', _⟩ := h4 0 (by simp)
    refine .inr ⟨b, o, e', fun i hi => ?_⟩
    obtain ⟨b', o', e'', hc⟩ := h4 i (by simpa using hi)
    obtain ⟨rfl, rfl⟩ : b = b' ∧ o = o' := by rw [e'] at e''; simpa using e''
    rw [hc, List.getElem_map]

theorem Strs.of_owns {w : World} {base e : Nat} {v : Value} {xs : List ByteArray} (h : w.ownsRow base e 1 v xs.length (xs.map Value.string)) : Strs w v xs := by
  have h0 := h
  obtain ⟨h1, ⟨rfl, h2⟩ | ⟨g, cap, cur, rfl, h3, h4, h5, h6, h7, h8⟩⟩ := h
  · obtain rfl : xs = [] := List.eq_nil_of_length_eq_zero h2
    exact ⟨none, 0, rfl, Nat.le_refl _, by omega, fun _ => rfl, fun i hi => by simp at hi⟩
  · refine ⟨some ⟨g, 0, none⟩, cap, rfl, h5, by simpa [maxLen] using h6, by simp, fun i hi => ⟨g, 0, rfl, ?_⟩⟩
    have := h0.cells (g := g) rfl i _ (List.getElem?_eq_getElem hi)
    rw [Addr.add_lit] at this
    exact this

set_option maxRecDepth 100000 in
set_option maxHeartbeats 400000 in
theorem rtexts_any (va vb : Value) (xs ys : List ByteArray) (w : World) (hx : Strs w va xs) (hy : Strs w vb ys) :
    Calls Tryz.prog 19 #[va, vb] w fun e w' => e = .returned (.bool (decide (xs = ys))) ∧ Quiet w w' := by
  obtain ⟨a, cap, rfl, h1, h2, h3, hc⟩ := hx.parts
  obtain ⟨a', cap', rfl, h1', h2', h3', hc'⟩ := hy.parts
  clear hx hy
  by_cases hlen : xs.length = ys.length
  · have hb : ((xs.length : Int) != (ys.length : Int)) = false := by simp [hlen]
    have hlen' : ¬ xs.length < ys.length := by omega
    have hlen2 : ¬ ys.length < xs.length := by omega
    clear hlen
    go_enter Tryz.func19, Tryz.ntmps19
    go_wp2
    go_loopw [5] (fun i wr => ∃ k : Nat, k ≤ xs.length ∧ i = .int .i64 k ∧ xs.take k = ys.take k ∧ Quiet w wr) (fun i _ => xs.length - (intOf i).toNat)
    case atStart => exact ⟨0, by omega, rfl, by simp, Quiet.refl _⟩
    case round =>
      obtain ⟨k, hk, rfl, ht, ⟨nq0, rfl⟩⟩ := hrel
      by_cases hlt : k < xs.length
      · rcases hc with rfl | ⟨b, o, rfl, hc⟩
        · simp at hlt
        rcases hc' with rfl | ⟨b', o', rfl, hc'⟩
        · simp only [List.length_nil] at hlen2; omega
        have hlt' : k < ys.length := by omega
        have hcell := hc k hlt
        have hcell' := hc' k hlt'
        have t1 : xs.take (k + 1) = xs.take k ++ [xs[k]] := List.take_succ_eq_append_getElem hlt
        have t2 : ys.take (k + 1) = ys.take k ++ [ys[k]] := List.take_succ_eq_append_getElem hlt'
        generalize xs[k] = l at hcell t1
        generalize ys[k] = l' at hcell' t2
        have hki : (k : Int) < (xs.length : Int) := by omega
        have hki' : (k : Int) < (ys.length : Int) := by omega
        by_cases he : l = l'
        · subst he
          have H : Hid (xs.take (k + 1) = ys.take (k + 1)) := hid (by rw [t1, t2, ht])
          clear t1 t2 ht hc hc'
          go_wp2
          go_quiet (fail)
          go_wp2
          go_roundw
          case rel => exact ⟨k + 1, by omega, by go_num, H.out, ⟨_, rfl⟩⟩
          case measure => simp [intOf]; omega
        · have H : Hid (xs ≠ ys) := hid (by rintro rfl; exact he (by simpa using t1.symm.trans t2))
          have hbe := str_ne he
          clear t1 t2 he ht hc hc'
          go_wp2
          go_quiet (fail)
          go_wp2
          go_ret
          exact ⟨by rw [decide_eq_false H.out]; rfl, (Quiet.mk _ _).trans (Quiet.mk _ _)⟩
      · have H : Hid (xs = ys) := hid (by rw [List.take_of_length_le (by omega), List.take_of_length_le (by omega)] at ht; exact ht)
        clear ht hc hc'
        go_wp2
        go_ret
        exact ⟨by rw [decide_eq_true H.out]; rfl, ⟨_, rfl⟩⟩
  · have hb : ((xs.length : Int) != (ys.length : Int)) = true := by rw [bne_iff_ne]; omega
    have H : Hid (xs ≠ ys) := hid (fun e => hlen (by rw [e]))
    clear hlen hc hc'
    go_enter Tryz.func19, Tryz.ntmps19
    go_wp2
    go_ret
    exact ⟨by rw [decide_eq_false H.out]; rfl, Quiet.refl _⟩

end Go.Proofs.YtgjaajgdiggbeaaGreatDoor
