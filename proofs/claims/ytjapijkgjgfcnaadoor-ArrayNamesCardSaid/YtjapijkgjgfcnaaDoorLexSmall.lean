/- Letters, digits, what a name holds: of both texts. -/
import Derived.Test.YtjapijkgjgfcnaaDoorProg
import Derived.Test.YtjapijkgjgfcnaaDoorSplit
import Derived.WalkKit
import Derived.Shelf.Abstract
import Derived.Deep.QuietTactic
import Derived.BigQuiet
namespace Go.Proofs.YtjapijkgjgfcnaaDoor
open Go.RowKit Go.Shelf
set_option linter.unusedVariables false

def letB (c : UInt8) : Bool := decide (97 ≤ (c ||| 32).toNat) && decide ((c ||| 32).toNat ≤ 122)
def digB (c : UInt8) : Bool := decide (48 ≤ c.toNat) && decide (c.toNat ≤ 57)
def innB (c : UInt8) : Bool := letB c || digB c || c == 95

theorem ret_bool {a b : Bool} (h : a = b) : Ending.returned (.bool a) = Ending.returned (.bool b) := by rw [h]

theorem or_fin : ∀ n : Fin 256, bits BinOp.or .u8 (n.val : Int) 32 = ((n.val ||| 32 : Nat) : Int) := by decide +kernel
theorem or_byte (c : UInt8) : bits BinOp.or .u8 (c.toNat : Int) 32 = ((c ||| 32).toNat : Int) := by
  have := or_fin ⟨c.toNat, c.toNat_lt⟩
  simpa [UInt8.toNat_or] using this

set_option maxHeartbeats 400000 in
theorem letter_any (c : UInt8) (w : World) : Calls Tryd.prog 53 #[.int .u8 c.toNat] w fun e w' => e = .returned (.bool (letB c)) ∧ w = w' := by
  have ho := or_byte c
  have hl : Hid (letB c = (decide (97 ≤ bits BinOp.or .u8 (c.toNat : Int) 32) && decide (bits BinOp.or .u8 (c.toNat : Int) 32 ≤ 122))) := hid (by
    rw [ho]; unfold letB; congr 1 <;> (rw [decide_eq_decide]; omega))
  clear ho
  go_enter Tryd.func53, Tryd.ntmps53
  go_wp2_with fail
  · have h : 97 ≤ bits BinOp.or .u8 (c.toNat : Int) 32 := by assumption
    go_ret
    exact ⟨ret_bool (by rw [hl.out, decide_eq_true h]; rfl), rfl⟩
  · go_ret
    exact ⟨ret_bool (by rw [hl.out, decide_eq_false (by omega)]; rfl), rfl⟩

set_option maxHeartbeats 400000 in
theorem digit_any (c : UInt8) (w : World) : Calls Tryd.prog 85 #[.int .u8 c.toNat] w fun e w' => e = .returned (.bool (digB c)) ∧ w = w' := by
  have hl : Hid (digB c = (decide (48 ≤ (c.toNat : Int)) && decide ((c.toNat : Int) ≤ 57))) := hid (by
    unfold digB; congr 1 <;> (rw [decide_eq_decide]; omega))
  go_enter Tryd.func85, Tryd.ntmps85
  go_wp2_with fail
  · have h : 48 ≤ (c.toNat : Int) := by assumption
    go_ret
    exact ⟨ret_bool (by rw [hl.out, decide_eq_true h]; rfl), rfl⟩
  · go_ret
    exact ⟨ret_bool (by rw [hl.out, decide_eq_false (by omega)]; rfl), rfl⟩

set_option maxHeartbeats 400000 in
theorem inner_any (c : UInt8) (w : World) : Calls Tryd.prog 55 #[.int .u8 c.toNat] w fun e w' => e = .returned (.bool (innB c)) ∧ w = w' := by
  have hl : Hid (innB c = (letB c || digB c || ((c.toNat : Int) == 95))) := hid (by
    unfold innB; congr 1; rw [Bool.eq_iff_iff, beq_iff_eq, beq_iff_eq, ← UInt8.toNat_inj]; simp; omega)
  go_enter Tryd.func55, Tryd.ntmps55
  go_wp2_with fail
  refine (letter_any c _).mono ?_
  rintro e w' ⟨rfl, rfl⟩
  cases h1 : letB c
  · go_wp2_with fail
    refine (digit_any c _).mono ?_
    rintro e w' ⟨rfl, rfl⟩
    cases h2 : digB c
    · go_wp2_with fail
      go_ret
      exact ⟨ret_bool (by rw [hl.out, h1, h2]; rfl), rfl⟩
    · go_wp2_with fail
      go_ret
      exact ⟨ret_bool (by rw [hl.out, h1, h2]; rfl), rfl⟩
  · go_wp2_with fail
    go_ret
    exact ⟨ret_bool (by rw [hl.out, h1]; rfl), rfl⟩

theorem let_fin : ∀ n : Fin 256, (decide (97 ≤ n.val ||| 32) && decide (n.val ||| 32 ≤ 122)) = (decide (97 ≤ n.val) && decide (n.val ≤ 122) || decide (65 ≤ n.val) && decide (n.val ≤ 90)) := by decide +kernel
theorem letB_eq (c : UInt8) : letB c = (decide (97 ≤ (c.toNat : Int)) && decide ((c.toNat : Int) ≤ 122) || decide (65 ≤ (c.toNat : Int)) && decide ((c.toNat : Int) ≤ 90)) := by
  have := let_fin ⟨c.toNat, c.toNat_lt⟩
  dsimp only at this
  unfold letB
  rw [UInt8.toNat_or]
  refine this.trans ?_
  congr 1 <;> congr 1 <;> (rw [decide_eq_decide]; omega)

set_option maxHeartbeats 400000 in
theorem rletter_any (c : UInt8) (w : World) : Calls Tryd.prog 56 #[.int .u8 c.toNat] w fun e w' => e = .returned (.bool (letB c)) ∧ w = w' := by
  have hl := hid (letB_eq c)
  generalize (c.toNat : Int) = n at *
  by_cases h1 : 97 ≤ n
  · by_cases h2 : n ≤ 122
    · go_enter Tryd.func56, Tryd.ntmps56
      go_wp2_with fail
      go_ret
      exact ⟨ret_bool (by rw [hl.out, decide_eq_true h1, decide_eq_true h2]; rfl), rfl⟩
    · have h2' : decide (n ≤ 122) = false := by simpa using h2
      have h3 : 65 ≤ n := by omega
      have h4 : decide (n ≤ 90) = false := by simp; omega
      go_enter Tryd.func56, Tryd.ntmps56
      go_wp2_with fail
      go_ret
      exact ⟨ret_bool (by rw [hl.out, decide_eq_true h1, h2', h4]; simp), rfl⟩
  · have h1' : decide (97 ≤ n) = false := by simpa using h1
    by_cases h3 : 65 ≤ n
    · go_enter Tryd.func56, Tryd.ntmps56
      go_wp2_with fail
      go_ret
      exact ⟨ret_bool (by rw [hl.out, h1', decide_eq_true h3]; rfl), rfl⟩
    · have h3' : decide (65 ≤ n) = false := by simpa using h3
      go_enter Tryd.func56, Tryd.ntmps56
      go_wp2_with fail
      go_ret
      exact ⟨ret_bool (by rw [hl.out, h1', h3']; rfl), rfl⟩

set_option maxHeartbeats 400000 in
theorem rdigit_any (c : UInt8) (w : World) : Calls Tryd.prog 57 #[.int .u8 c.toNat] w fun e w' => e = .returned (.bool (digB c)) ∧ w = w' := by
  have hl : Hid (digB c = (decide (48 ≤ (c.toNat : Int)) && decide ((c.toNat : Int) ≤ 57))) := hid (by
    unfold digB; congr 1 <;> (rw [decide_eq_decide]; omega))
  go_enter Tryd.func57, Tryd.ntmps57
  go_wp2_with fail
  · have h : 48 ≤ (c.toNat : Int) := by assumption
    go_ret
    exact ⟨ret_bool (by rw [hl.out, decide_eq_true h]; rfl), rfl⟩
  · go_ret
    exact ⟨ret_bool (by rw [hl.out, decide_eq_false (by omega)]; rfl), rfl⟩

/-- How many first bytes are of a kind. -/
def frontOf (p : UInt8 → Bool) (s : ByteArray) : Nat := (s.data.toList.takeWhile p).length

theorem front_step (p : UInt8 → Bool) (s : ByteArray) (k : Nat) (hk : k < s.size) (h : ∀ j, j < k → p (bt s j) = true) (hp : p (bt s k) = false) : frontOf p s = k := by
  have hs : s.data.toList.length = s.size := by rw [Array.length_toList]; rfl
  unfold frontOf
  rw [← List.take_append_drop k s.data.toList, List.takeWhile_append_of_pos, List.drop_eq_getElem_cons (by omega), List.takeWhile_cons_of_neg]
  · simp; omega
  · rw [bt, List.getElem?_eq_getElem (by omega)] at hp; simpa using hp
  · intro x hx
    obtain ⟨j, hj, rfl⟩ := List.getElem_of_mem hx
    have hj' : j < k := by rw [List.length_take] at hj; omega
    have := h j hj'
    rw [bt, List.getElem?_eq_getElem (by omega)] at this
    rw [List.getElem_take]; simpa using this

theorem front_all (p : UInt8 → Bool) (s : ByteArray) (h : ∀ j, j < s.size → p (bt s j) = true) : frontOf p s = s.size := by
  have hs : s.data.toList.length = s.size := by rw [Array.length_toList]; rfl
  unfold frontOf
  rw [← List.append_nil s.data.toList, List.takeWhile_append_of_pos]
  · simp [hs]
  intro x hx
  obtain ⟨j, hj, rfl⟩ := List.getElem_of_mem hx
  have := h j (by omega)
  rw [bt, List.getElem?_eq_getElem (by omega)] at this
  simpa using this

set_option maxHeartbeats 1000000 in
theorem front_any (f : Nat) (p : UInt8 → Bool) (hen : ∀ args w, (callFunc f args).run Tryd.prog w = .ok (.enter f args) w) (hp : ∀ c w, Calls Tryd.prog f #[.int .u8 c.toNat] w fun e w' => e = .returned (.bool (p c)) ∧ w = w')
    (b o : Nat) (s : ByteArray) (w : World) (hs : s.size ≤ 9223372036854775807) (hc : w.cell? ⟨b, o, none⟩ = some (.string s)) :
    Calls Tryd.prog 54 #[.pointer (some ⟨b, o, none⟩), .func (.func f) #[] #[]] w fun e w' => e = .returned (.int .i64 (frontOf p s)) ∧ w = w' := by
  go_enter Tryd.func54, Tryd.ntmps54
  go_wp2_with fail
  go_loop [5] (fun i => ∃ k : Nat, k ≤ s.size ∧ i = .int .i64 k ∧ ∀ j, j < k → p (bt s j) = true) (fun i => s.size - (intOf i).toNat)
  case atStart => exact ⟨0, by omega, rfl, by intro j h; omega⟩
  case round =>
    obtain ⟨k, hk, rfl, hall⟩ := hrel
    have Hall := hid hall
    clear hall
    by_cases hlt : k < s.size
    · have hg := hid (bt_get s k hlt)
      have hd : decide ((k : Int) < (s.size : Int)) = true := by simp; omega
      go_wp2_with fail
      refine (hp s[k] _).mono ?_
      rintro e w' ⟨rfl, rfl⟩
      cases hpk : p s[k]
      · go_wp2_with fail
        go_ret
        exact ⟨by rw [front_step p s k hlt Hall.out (by rw [← hg.out]; exact hpk)]; rfl, rfl⟩
      · go_wp2_with fail
        go_round
        case rel => exact ⟨k + 1, by omega, by go_num, fun j hj => by
          by_cases e : j = k
          · subst e; rw [← hg.out]; exact hpk
          · exact Hall.out j (by omega)⟩
        case measure => simp [intOf]; omega
    · obtain rfl : k = s.size := by omega
      have hd : decide ((s.size : Int) < (s.size : Int)) = false := by simp
      go_wp2_with fail
      go_ret
      exact ⟨by rw [front_all p s Hall.out]; rfl, rfl⟩

/-- Is a text a name? -/
def namB (s : ByteArray) : Bool := decide (0 < s.size) && letB (bt s 0) && decide (frontOf innB s = s.size) && decide (s.size ≤ 12)

theorem empty_of_size (s : ByteArray) (h : s.size = 0) : s = ByteArray.empty := by
  apply ByteArray.ext
  apply Array.eq_empty_of_size_eq_zero
  exact h

theorem toList_ne (s : ByteArray) (h : ¬ s.size = 0) : s.toList.isEmpty = false := by
  rw [List.isEmpty_eq_false_iff]
  intro e
  apply h
  have := congrArg List.length e
  rw [ByteArray.toList_eq] at this
  simpa using this

set_option maxHeartbeats 1000000 in
theorem names_any (s : ByteArray) (w : World) (hs : s.size ≤ 9223372036854775807) :
    Calls Tryd.prog 32 #[.string s] w fun e w' => e = .returned (.bool (namB s)) ∧ Below w.heap.size w w' := by
  by_cases h0 : s.size = 0
  · obtain rfl := empty_of_size s h0
    go_enter Tryd.func32, Tryd.ntmps32
    go_wp2_with fail
    go_ret
    exact ⟨rfl, by repeat (first | exact Below.refl _ _ | refine Below.alloc ?_ (by simp) _ | refine Below.setCell ?_ (by simp) _)⟩
  · have hne : s.toList.isEmpty = false := toList_ne s h0
    have h0' : (0 : Int) < (s.size : Int) := by omega
    have hg := hid (bt_get s 0 (by omega))
    go_enter Tryd.func32, Tryd.ntmps32
    go_wp2_with fail
    refine (letter_any s[0] _).mono ?_
    rintro e w' ⟨rfl, rfl⟩
    cases hl : letB s[0]
    · have H : Hid (namB s = false) := hid (by unfold namB; rw [← hg.out, hl]; simp)
      go_wp2_with fail
      go_ret
      exact ⟨by rw [H.out]; rfl, by repeat (first | exact Below.refl _ _ | refine Below.alloc ?_ (by simp) _ | refine Below.setCell ?_ (by simp) _)⟩
    · have hB : Below w.heap.size w (w.alloc (.cells #[.string s, .bool false, .bool false] 76)) := (Below.refl _ _).alloc (Nat.le_refl _) _
      have hlt := hid hl
      clear hl
      go_wp2_with fail
      refine (front_any 55 innB (enters_of Tryd.func55 (by kernel_rfl) rfl) inner_any w.heap.size 0 s _ hs (by go_simp)).mono ?_
      rintro e w' ⟨rfl, rfl⟩
      have hn := hid (show namB s = (decide (frontOf innB s = s.size) && decide (s.size ≤ 12)) by unfold namB; rw [← hg.out, hlt.out]; simp [show 0 < s.size by omega])
      generalize frontOf innB s = m at *
      by_cases h1 : m = s.size
      · have h1' : ((m : Int) == (s.size : Int)) = true := by rw [beq_iff_eq]; omega
        have H : Hid (namB s = decide ((s.size : Int) ≤ 12)) := hid (by rw [hn.out, h1]; simp; omega)
        clear h1
        go_wp2_with fail
        go_ret
        exact ⟨by rw [H.out]; rfl, hB⟩
      · have h1' : ((m : Int) == (s.size : Int)) = false := by rw [beq_eq_false_iff_ne]; omega
        have H : Hid (namB s = false) := hid (by rw [hn.out]; simp [h1])
        clear h1
        go_wp2_with fail
        go_ret
        exact ⟨by rw [H.out]; rfl, hB⟩

theorem innB_eq (c : UInt8) : innB c = (letB c || digB c || ((c.toNat : Int) == 95)) := by
  unfold innB; congr 1; rw [Bool.eq_iff_iff, beq_iff_eq, beq_iff_eq, ← UInt8.toNat_inj]; simp; omega

set_option maxHeartbeats 1000000 in
theorem rnames_any (s : ByteArray) (w : World) (hs : s.size ≤ 9223372036854775807) :
    Calls Tryd.prog 33 #[.string s] w fun e w' => e = .returned (.bool (namB s)) ∧ w = w' := by
  by_cases h0 : s.size < 1
  · have H : Hid (namB s = false) := hid (by unfold namB; simp [show ¬ 0 < s.size by omega])
    have hd : decide ((s.size : Int) < 1) = true := by simp; omega
    go_enter Tryd.func33, Tryd.ntmps33
    go_wp2_with fail
    go_ret
    exact ⟨by rw [H.out]; rfl, rfl⟩
  have hd : decide ((s.size : Int) < 1) = false := by simp; omega
  by_cases h12 : 12 < s.size
  · have H : Hid (namB s = false) := hid (by unfold namB; simp [show ¬ s.size ≤ 12 by omega])
    have hd2 : decide ((12 : Int) < (s.size : Int)) = true := by simp; omega
    go_enter Tryd.func33, Tryd.ntmps33
    go_wp2_with fail
    go_ret
    exact ⟨by rw [H.out]; rfl, rfl⟩
  have hd2 : decide ((12 : Int) < (s.size : Int)) = false := by simp; omega
  have hz : 0 < s.size := by omega
  have hg := hid (bt_get s 0 hz)
  go_enter Tryd.func33, Tryd.ntmps33
  go_wp2_with fail
  refine (rletter_any s[0] _).mono ?_
  rintro e w' ⟨rfl, rfl⟩
  cases hl : letB s[0]
  · have H : Hid (namB s = false) := hid (by unfold namB; rw [← hg.out, hl]; simp)
    go_wp2_with fail
    go_ret
    exact ⟨by rw [H.out]; rfl, rfl⟩
  · have hn : Hid (namB s = decide (frontOf innB s = s.size)) := hid (by unfold namB; rw [← hg.out, hl]; simp [hz, show s.size ≤ 12 by omega])
    clear hl
    go_wp2_with fail
    go_loop [3] (fun i => ∃ k : Nat, k ≤ s.size ∧ i = .int .i64 k ∧ ∀ j, j < k → innB (bt s j) = true) (fun i => s.size - (intOf i).toNat)
    case atStart => exact ⟨0, by omega, rfl, by intro j h; omega⟩
    case round =>
      obtain ⟨k, hk, rfl, hall⟩ := hrel
      have Hall := hid hall
      clear hall
      by_cases hlt : k < s.size
      · have hgk := hid (bt_get s k hlt)
        have hik := hid (innB_eq s[k])
        have hyes : Hid (innB s[k] = true → ∀ j, j < k + 1 → innB (bt s j) = true) := hid (fun h j hj => by
          by_cases e : j = k
          · subst e; rw [← hgk.out]; exact h
          · exact Hall.out j (by omega))
        have hno : Hid (innB s[k] = false → namB s = false) := hid (fun h => by
          rw [hn.out, front_step innB s k hlt Hall.out (by rw [← hgk.out]; exact h)]; simp; omega)
        have hd3 : decide ((k : Int) < (s.size : Int)) = true := by simp; omega
        go_wp2_with fail
        refine (rletter_any s[k] _).mono ?_
        rintro e w' ⟨rfl, rfl⟩
        cases h1 : letB s[k]
        · go_wp2_with fail
          refine (rdigit_any s[k] _).mono ?_
          rintro e w' ⟨rfl, rfl⟩
          cases h2 : digB s[k]
          · by_cases h3 : (s[k].toNat : Int) = 95
            · have h3' : ((s[k].toNat : Int) != 95) = false := by simp only [bne_eq_false_iff_eq]; exact h3
              have hin : Hid (innB s[k] = true) := hid (by rw [hik.out, h1, h2, beq_iff_eq.2 h3]; rfl)
              clear h1 h2 h3
              go_wp2_with fail
              go_round
              case rel => exact ⟨k + 1, by omega, by go_num, hyes.out hin.out⟩
              case measure => simp [intOf]; omega
            · have h3' : ((s[k].toNat : Int) != 95) = true := by rw [bne_iff_ne]; exact h3
              have hin : Hid (innB s[k] = false) := hid (by rw [hik.out, h1, h2, beq_eq_false_iff_ne.2 h3]; rfl)
              clear h1 h2 h3
              go_wp2_with fail
              go_ret
              exact ⟨by rw [hno.out hin.out]; rfl, rfl⟩
          · have hin : Hid (innB s[k] = true) := hid (by rw [hik.out, h1, h2]; rfl)
            clear h1 h2
            go_wp2_with fail
            go_round
            case rel => exact ⟨k + 1, by omega, by go_num, hyes.out hin.out⟩
            case measure => simp [intOf]; omega
        · have hin : Hid (innB s[k] = true) := hid (by rw [hik.out, h1]; rfl)
          clear h1
          go_wp2_with fail
          go_round
          case rel => exact ⟨k + 1, by omega, by go_num, hyes.out hin.out⟩
          case measure => simp [intOf]; omega
      · obtain rfl : k = s.size := by omega
        have H : Hid (namB s = true) := hid (by rw [hn.out, front_all innB s Hall.out]; simp)
        have hd3 : decide ((s.size : Int) < (s.size : Int)) = false := by simp
        go_wp2_with fail
        go_ret
        exact ⟨by rw [H.out]; rfl, rfl⟩

end Go.Proofs.YtjapijkgjgfcnaaDoor
