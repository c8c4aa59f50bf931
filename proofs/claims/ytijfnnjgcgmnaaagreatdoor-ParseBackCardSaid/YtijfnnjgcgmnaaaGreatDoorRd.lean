/- The reference's Encode, Check, Digits.
   lex's reader: what it holds; take, blanks, numeric.
   lex's reader: number.
   lex's reader: glyph.
   lex's reader: which reading comes next. -/
import Derived.Test.YtijfnnjgcgmnaaaGreatDoorTextA
import Derived.Laws.BytesArg
import Derived.Test.YtijfnnjgcgmnaaaGreatDoorLx
import Derived.Test.YtijfnnjgcgmnaaaGreatDoorShelf
import Derived.Lib.SmallJoins
import Derived.Deep.AppendLies
import Derived.BigQuiet
namespace Go.Proofs.YtijfnnjgcgmnaaaGreatDoor
open Go.RowKit Go.Shelf
set_option linter.unusedVariables false

theorem bs_append (a b : List UInt8) : bs a ++ bs b = bs (a ++ b) := by
  apply ByteArray.ext; simp [bs]

end Go.Proofs.YtijfnnjgcgmnaaaGreatDoor

namespace Go.Proofs.YtijfnnjgcgmnaaaGreatDoor
open Go.RowKit Go.Shelf
set_option linter.unusedVariables false

/-- A reader lies in block b: what is left, whether something is none, whether there is too much. -/
def IsRd (w : World) (b : Nat) (l : List UInt8) (bad much : Bool) : Prop := w.heap[b]? = some (.cells #[.string (bs l), .bool bad, .bool much] 104)

theorem IsRd.cells {w : World} {b : Nat} {l : List UInt8} {bad much : Bool} (h : IsRd w b l bad much) :
    w.cell? ⟨b, 0, none⟩ = some (.string (bs l)) ∧ w.cell? ⟨b, 1, none⟩ = some (.bool bad) ∧ w.cell? ⟨b, 2, none⟩ = some (.bool much) ∧ w.frozen? ⟨b, 0, none⟩ = false ∧ w.frozen? ⟨b, 1, none⟩ = false ∧ w.frozen? ⟨b, 2, none⟩ = false :=
  ⟨by rw [Lib.cell_of_heap h]; rfl, by rw [Lib.cell_of_heap h]; rfl, by rw [Lib.cell_of_heap h]; rfl, Lib.frozen_of_heap h 0, Lib.frozen_of_heap h 1, Lib.frozen_of_heap h 2⟩

theorem IsRd.set0 {w : World} {b : Nat} {l : List UInt8} {bad much : Bool} (h : IsRd w b l bad much) (l' : List UInt8) : IsRd (w.setCell ⟨b, 0, none⟩ (.string (bs l'))) b l' bad much := by
  unfold IsRd at *
  simp [World.setCell, Array.getElem?_modify, h]

theorem grown_set0 (w : World) (b i : Nat) (v : Value) : w.grownBy (w.setCell ⟨b, i, none⟩ v) (some b) :=
  ⟨rfl, rfl, rfl, by simp [World.setCell], fun j _ hne => Below.heap_setCell w ⟨b, i, none⟩ v j (fun e => hne (by rw [e]))⟩

set_option maxRecDepth 100000 in
theorem take_any (b n : Nat) (l : List UInt8) (bad much : Bool) (w : World) (hr : IsRd w b l bad much) (hn : n ≤ l.length) (hl : l.length ≤ 9223372036854775807) :
    Calls Tryz.prog 163 #[.pointer (some ⟨b, 0, none⟩), .int .i64 n] w fun e w' => e = .returned (.string (bs (l.take n))) ∧ IsRd w' b (l.drop n) bad much ∧ w.grownBy w' (some b) := by
  obtain ⟨c0, c1, c2, f0, f1, f2⟩ := hr.cells
  have hs : (bs l).size = l.length := bs_size l
  have h0 : (n : Int) ≤ ((bs l).size : Int) := by rw [hs]; omega
  have h1 : ((bs l).size : Int) ≤ 9223372036854775807 := by rw [hs]; omega
  have h2 : n ≤ (bs l).size := by omega
  go_enter Tryz.func163, Tryz.ntmps163
  have e1 : (bs l).extract 0 n = bs (l.take n) := by
    apply ByteArray.ext; simp [bs, List.extract_eq_take_drop]
  have e2 : (bs l).extract n l.length = bs (l.drop n) := by
    apply ByteArray.ext; simp [bs, List.take_of_length_le]
  have H1 := hid e1
  have H2 := hid e2
  clear e1 e2
  go_wp2_with fail
  go_ret
  refine ⟨by rw [← H1.out]; rfl, ?_, grown_set0 _ _ _ _⟩
  rw [H2.out]
  exact hr.set0 _

set_option maxRecDepth 100000 in
theorem blanks_any (b : Nat) (l : List UInt8) (bad much : Bool) (w : World) (hr : IsRd w b l bad much) :
    Calls Tryz.prog 88 #[.pointer (some ⟨b, 0, none⟩)] w fun e w' => e = .returned (.tuple #[]) ∧ IsRd w' b (Lib.trimLeftB l 32) bad much ∧ w.grownBy w' (some b) := by
  obtain ⟨c0, c1, c2, f0, f1, f2⟩ := hr.cells
  go_enter Tryz.func88, Tryz.ntmps88
  go_wp2_with fail
  refine (Tryz.strings_TrimLeft_one (bs l) 32 (by decide) _).mono ?_
  rintro e w' ⟨rfl, rfl⟩
  rw [bs_list]
  go_wp2_with fail
  refine bodyPost_end (results_none rfl _ _ _) rfl ?_
  exact ⟨rfl, hr.set0 _, grown_set0 _ _ _ _⟩

/-- A number stands here. -/
def numB (l : List UInt8) : Bool := match Lib.trimPrefix l [194, 175] with | [] => false | c :: _ => digB c

set_option maxRecDepth 100000 in
theorem numeric_any (b : Nat) (l : List UInt8) (bad much : Bool) (w : World) (hr : IsRd w b l bad much) (hl : l.length ≤ 1000000000) :
    Calls Tryz.prog 121 #[.pointer (some ⟨b, 0, none⟩)] w fun e w' => e = .returned (.bool (numB l)) ∧ w' = w := by
  obtain ⟨c0, c1, c2, f0, f1, f2⟩ := hr.cells
  go_enter Tryz.func121, Tryz.ntmps121
  go_wp2_with fail
  refine (Tryz.strings_TrimPrefix (bs l) ⟨#[194, 175]⟩ _).mono ?_
  rintro e w' ⟨rfl, rfl⟩
  rw [bs_list, show (ByteArray.mk #[194, 175]).data.toList = [194, 175] from rfl]
  cases ht : Lib.trimPrefix l [194, 175] with
  | nil =>
    have H : Hid (numB l = false) := hid (by unfold numB; rw [ht])
    clear ht
    go_wp2_with fail
    go_ret
    exact ⟨by rw [H.out]; rfl, rfl⟩
  | cons c r =>
    have H : Hid (numB l = digB c) := hid (by unfold numB; rw [ht])
    clear ht
    go_wp2_with fail
    refine (digit_any c _).mono ?_
    rintro e w' ⟨rfl, rfl⟩
    go_wp2_with fail
    go_ret
    exact ⟨by rw [H.out]; rfl, rfl⟩

theorem five_facts {w' : World} {R : Nat} {u0 u1 u2 u3 u4 : Value} {T : TypeId} (z : w'.heap[R]? = some (.cells #[u0, u1, u2, u3, u4] T)) :
    w'.cell? ⟨R, 0, none⟩ = some u0 ∧ w'.cell? ⟨R, 1, none⟩ = some u1 ∧ w'.cell? ⟨R, 2, none⟩ = some u2 ∧ w'.cell? ⟨R, 3, none⟩ = some u3 ∧ w'.cell? ⟨R, 4, none⟩ = some u4 ∧
      w'.frozen? ⟨R, 0, none⟩ = false ∧ w'.frozen? ⟨R, 1, none⟩ = false ∧ w'.frozen? ⟨R, 2, none⟩ = false ∧ w'.frozen? ⟨R, 3, none⟩ = false ∧ w'.frozen? ⟨R, 4, none⟩ = false :=
  ⟨by rw [Lib.cell_of_heap z]; rfl, by rw [Lib.cell_of_heap z]; rfl, by rw [Lib.cell_of_heap z]; rfl, by rw [Lib.cell_of_heap z]; rfl, by rw [Lib.cell_of_heap z]; rfl,
   Lib.frozen_of_heap z 0, Lib.frozen_of_heap z 1, Lib.frozen_of_heap z 2, Lib.frozen_of_heap z 3, Lib.frozen_of_heap z 4⟩
theorem set_one {w : World} {b i : Nat} {cs : Array Value} {T : TypeId} {fr : Nat × Nat} (hb : w.heap[b]? = some (.cells cs T fr)) (v : Value) :
    (w.setCell ⟨b, i, none⟩ v).heap[b]? = some (.cells (cs.setIfInBounds i v) T fr) := by
  simp [World.setCell, Array.getElem?_modify, hb]
theorem set5 {w : World} {b : Nat} {t : TypeId} {u0 u1 u2 u3 u4 : Value} (h : w.heap[b]? = some (.cells #[u0, u1, u2, u3, u4] t)) (a0 a1 a2 a3 a4 : Value) :
    (((((w.setCell ⟨b, 0, none⟩ a0).setCell ⟨b, 1, none⟩ a1).setCell ⟨b, 2, none⟩ a2).setCell ⟨b, 3, none⟩ a3).setCell ⟨b, 4, none⟩ a4).heap[b]? = some (.cells #[a0, a1, a2, a3, a4] t) :=
  set_one (i := 4) (set_one (i := 3) (set_one (i := 2) (set_one (i := 1) (set_one (i := 0) h a0) a1) a2) a3) a4
theorem grown_put {w w2 : World} {b : Nat} {p : Addr} {v : Value} (hg : w.grownBy w2 (some b)) (h : p.block = b ∨ w.heap.size ≤ p.block) : w.grownBy (w2.setCell p v) (some b) :=
  ⟨hg.os, hg.tape, hg.output, by have := hg.size; simp [World.setCell]; exact this, fun j hj hne => (Below.heap_setCell w2 p v j (fun e => by rcases h with h | h <;> first | exact hne (by rw [e, h]) | omega)).trans (hg.block j hj hne)⟩
theorem IsRd.set1 {w : World} {b : Nat} {l : List UInt8} {bad much : Bool} (h : IsRd w b l bad much) (bad' : Bool) : IsRd (w.setCell ⟨b, 1, none⟩ (.bool bad')) b l bad' much := by
  unfold IsRd at *
  simp [World.setCell, Array.getElem?_modify, h]

/-- A name, read: what is left; whether it is too long. -/
def nameLen (l : List UInt8) : Nat := (l.takeWhile innB).length

set_option maxRecDepth 100000 in
set_option maxHeartbeats 2000000 in
theorem rdname_any (b : Nat) (l : List UInt8) (bad much : Bool) (w : World) (hr : IsRd w b l bad much) (hl : l.length ≤ 1000000000) :
    Calls Tryz.prog 124 #[.pointer (some ⟨b, 0, none⟩)] w fun e w' => e = .returned (.agg #[.int .i64 2, .string (bs (l.take (nameLen l))), .int .i64 0, .slice none 0 0, .slice none 0 0]) ∧
      IsRd w' b (l.drop (nameLen l)) (bad || decide (12 < nameLen l)) much ∧ w.grownBy w' (some b) := by
  have hlt : b < w.heap.size := (Array.getElem?_eq_some_iff.1 hr).1
  have hle : nameLen l ≤ l.length := by unfold nameLen; exact (List.takeWhile_sublist _).length_le
  go_enter Tryz.func124, Tryz.ntmps124
  have Ha : ∀ o, IsRd (w.alloc o) b l bad much := fun o => (heap_alloc_old w o hlt).trans hr
  have Hf : Hid (frontOf innB (bs l) = nameLen l) := hid (by unfold frontOf nameLen; rw [bs_list])
  go_wp2_with fail
  refine (front_any 84 innB (enters_of Tryz.func84 (by kernel_rfl) rfl) inner_any b 0 (bs l) _ (by rw [bs_size]; omega) (Ha _).cells.1).mono ?_
  rintro e w1 ⟨rfl, rfl⟩
  rw [Hf.out]
  go_wp2_with fail
  refine (take_any b (nameLen l) l bad much _ (Ha _) hle (by omega)).mono ?_
  rintro e w2 ⟨rfl, hr2, hg2⟩
  have hR := (hg2.block w.heap.size (by simp) (by simp; omega)).trans (heap_alloc_new _ _)
  have hg : w.grownBy w2 (some b) := ⟨hg2.os, hg2.tape, hg2.output, by have := hg2.size; simp at this; omega, fun j hj hne => (hg2.block j (by simp; omega) hne).trans (heap_alloc_old _ _ hj)⟩
  have hsz : (bs (l.take (nameLen l))).size = nameLen l := by rw [bs_size, List.length_take]; omega
  obtain ⟨c0, c1, c2, f0, f1, f2⟩ := hr2.cells
  clear Ha hg2 hr
  generalize hT : bs (l.take (nameLen l)) = T at *
  have HT := hid hT
  clear hT
  have hR1 : ∀ v, (w2.setCell ⟨b, 1, none⟩ v).heap[w.heap.size]? = some (.cells #[.int .i64 0, .string ⟨#[]⟩, .int .i64 0, .slice none 0 0, .slice none 0 0] 88) := fun v => (Below.heap_setCell w2 ⟨b, 1, none⟩ v w.heap.size (by simp; omega)).trans hR
  have hbR : b ≠ w.heap.size := by omega
  have q0 := fun v => (five_facts (hR1 v)).1
  have q1 := fun v => (five_facts (hR1 v)).2.1
  have q2 := fun v => (five_facts (hR1 v)).2.2.1
  have q3 := fun v => (five_facts (hR1 v)).2.2.2.1
  have q4 := fun v => (five_facts (hR1 v)).2.2.2.2.1
  have g0 := fun v => (five_facts (hR1 v)).2.2.2.2.2.1
  have g1 := fun v => (five_facts (hR1 v)).2.2.2.2.2.2.1
  have g2 := fun v => (five_facts (hR1 v)).2.2.2.2.2.2.2.1
  have g3 := fun v => (five_facts (hR1 v)).2.2.2.2.2.2.2.2.1
  have g4 := fun v => (five_facts (hR1 v)).2.2.2.2.2.2.2.2.2
  by_cases hn : 12 < nameLen l <;> cases bad
  · have HB : Hid ((false || decide (12 < nameLen l)) = true) := hid (by simp [hn])
    have t : decide ((12 : Int) < (nameLen l : Int)) = true := by simp; omega
    go_wp2_with fail
    have hW := set5 (hR1 (.bool true)) (.int .i64 2) (.string T) (.int .i64 0) (.slice none 0 0) (.slice none 0 0)
    refine bodyPost_ret (results_cell_row rfl _ _ w.heap.size _ _ _ _ rfl hW Tryz.underlying88 rfl (by kernel_rfl)) rfl ?_
    refine ⟨by rw [HT.out], ?_, ?_⟩
    · rw [HB.out]
      have h0 := hr2.set1 true
      unfold IsRd at h0 ⊢
      rw [Below.heap_setCell _ _ _ _ hbR, Below.heap_setCell _ _ _ _ hbR, Below.heap_setCell _ _ _ _ hbR, Below.heap_setCell _ _ _ _ hbR, Below.heap_setCell _ _ _ _ hbR]
      exact h0
    · exact grown_put (grown_put (grown_put (grown_put (grown_put (grown_put hg (.inl rfl)) (.inr (Nat.le_refl _))) (.inr (Nat.le_refl _))) (.inr (Nat.le_refl _))) (.inr (Nat.le_refl _))) (.inr (Nat.le_refl _))
  · have HB : Hid ((true || decide (12 < nameLen l)) = true) := hid (by simp)
    go_wp2_with fail
    have hW := set5 (hR1 (.bool true)) (.int .i64 2) (.string T) (.int .i64 0) (.slice none 0 0) (.slice none 0 0)
    refine bodyPost_ret (results_cell_row rfl _ _ w.heap.size _ _ _ _ rfl hW Tryz.underlying88 rfl (by kernel_rfl)) rfl ?_
    refine ⟨by rw [HT.out], ?_, ?_⟩
    · rw [HB.out]
      have h0 := hr2.set1 true
      unfold IsRd at h0 ⊢
      rw [Below.heap_setCell _ _ _ _ hbR, Below.heap_setCell _ _ _ _ hbR, Below.heap_setCell _ _ _ _ hbR, Below.heap_setCell _ _ _ _ hbR, Below.heap_setCell _ _ _ _ hbR]
      exact h0
    · exact grown_put (grown_put (grown_put (grown_put (grown_put (grown_put hg (.inl rfl)) (.inr (Nat.le_refl _))) (.inr (Nat.le_refl _))) (.inr (Nat.le_refl _))) (.inr (Nat.le_refl _))) (.inr (Nat.le_refl _))
  · have HB : Hid ((false || decide (12 < nameLen l)) = false) := hid (by simp [hn])
    have t : decide ((12 : Int) < (nameLen l : Int)) = false := by simp; omega
    go_wp2_with fail
    have hW := set5 (hR1 (.bool false)) (.int .i64 2) (.string T) (.int .i64 0) (.slice none 0 0) (.slice none 0 0)
    refine bodyPost_ret (results_cell_row rfl _ _ w.heap.size _ _ _ _ rfl hW Tryz.underlying88 rfl (by kernel_rfl)) rfl ?_
    refine ⟨by rw [HT.out], ?_, ?_⟩
    · rw [HB.out]
      have h0 := hr2.set1 false
      unfold IsRd at h0 ⊢
      rw [Below.heap_setCell _ _ _ _ hbR, Below.heap_setCell _ _ _ _ hbR, Below.heap_setCell _ _ _ _ hbR, Below.heap_setCell _ _ _ _ hbR, Below.heap_setCell _ _ _ _ hbR]
      exact h0
    · exact grown_put (grown_put (grown_put (grown_put (grown_put (grown_put hg (.inl rfl)) (.inr (Nat.le_refl _))) (.inr (Nat.le_refl _))) (.inr (Nat.le_refl _))) (.inr (Nat.le_refl _))) (.inr (Nat.le_refl _))
  · have HB : Hid ((true || decide (12 < nameLen l)) = true) := hid (by simp)
    go_wp2_with fail
    have hW := set5 (hR1 (.bool true)) (.int .i64 2) (.string T) (.int .i64 0) (.slice none 0 0) (.slice none 0 0)
    refine bodyPost_ret (results_cell_row rfl _ _ w.heap.size _ _ _ _ rfl hW Tryz.underlying88 rfl (by kernel_rfl)) rfl ?_
    refine ⟨by rw [HT.out], ?_, ?_⟩
    · rw [HB.out]
      have h0 := hr2.set1 true
      unfold IsRd at h0 ⊢
      rw [Below.heap_setCell _ _ _ _ hbR, Below.heap_setCell _ _ _ _ hbR, Below.heap_setCell _ _ _ _ hbR, Below.heap_setCell _ _ _ _ hbR, Below.heap_setCell _ _ _ _ hbR]
      exact h0
    · exact grown_put (grown_put (grown_put (grown_put (grown_put (grown_put hg (.inl rfl)) (.inr (Nat.le_refl _))) (.inr (Nat.le_refl _))) (.inr (Nat.le_refl _))) (.inr (Nat.le_refl _))) (.inr (Nat.le_refl _))
end Go.Proofs.YtijfnnjgcgmnaaaGreatDoor

namespace Go.Proofs.YtijfnnjgcgmnaaaGreatDoor
open Go.RowKit Go.Shelf
set_option linter.unusedVariables false
set_option linter.unusedSimpArgs false

theorem grown_trans {w w1 w2 : World} {b : Nat} (h : w.grownBy w1 (some b)) (h' : w1.grownBy w2 (some b)) : w.grownBy w2 (some b) :=
  ⟨h'.os.trans h.os, h'.tape.trans h.tape, h'.output.trans h.output, Nat.le_trans h.size h'.size, fun j hj hne => (h'.block j (Nat.lt_of_lt_of_le hj h.size) hne).trans (h.block j hj hne)⟩
theorem grown_below {w w1 w2 : World} {b : Nat} (h : w.grownBy w1 (some b)) (h' : Below w1.heap.size w1 w2) : w.grownBy w2 (some b) :=
  ⟨h'.os.trans h.os, h'.tape.trans h.tape, h'.output.trans h.output, Nat.le_trans h.size h'.size, fun j hj hne => (h'.block j (Nat.lt_of_lt_of_le hj h.size)).trans (h.block j hj hne)⟩
theorem IsRd.below {w w' : World} {b : Nat} {l : List UInt8} {bad much : Bool} (h : IsRd w b l bad much) (hb : Below w.heap.size w w') : IsRd w' b l bad much :=
  (hb.block b (Array.getElem?_eq_some_iff.1 h).1).trans h

def minusB (l : List UInt8) : Bool := Lib.hasPrefix l [194, 175]
def numBody (l : List UInt8) : List UInt8 := if minusB l = true then l.drop 2 else l
def digLen (l : List UInt8) : Nat := (l.takeWhile digB).length
def numTxt (l : List UInt8) : List UInt8 := (if minusB l = true then [45] else []) ++ (numBody l).take (digLen (numBody l))
def numLeft (l : List UInt8) : List UInt8 := (numBody l).drop (digLen (numBody l))
def numVal (l : List UInt8) : Int := match Lib.parseIntB 64 (numTxt l) with | .ok v => v | .range => Lib.intSat 64 (numTxt l) | .«syntax» => 0
def numBad (l : List UInt8) : Bool := match Lib.parseIntB 64 (numTxt l) with | .ok _ => false | _ => true

theorem numTxt_len (l : List UInt8) : (numTxt l).length ≤ 1 + l.length := by
  have h4 : (numBody l).length ≤ l.length := by unfold numBody; split <;> simp
  unfold numTxt
  rw [List.length_append, List.length_take]
  split <;> simp only [List.length_cons, List.length_nil] <;> omega

/-- The library's two errors are some errors. -/
def ErrVars (w : World) : Prop := (∃ tp p, w.var? Tryz.prog "strconv.ErrSyntax" = some #[.iface tp p]) ∧ (∃ tp p, w.var? Tryz.prog "strconv.ErrRange" = some #[.iface tp p])

theorem parse_any (t : List UInt8) (w : World) (ht : t.length ≤ 1000000000) (hE : ErrVars w) :
    Calls Tryz.prog 179 #[.string (bs t), .int .i64 10, .int .i64 64] w fun e w' =>
      (∃ v, Lib.parseIntB 64 t = .ok v ∧ e = .returned (.tuple #[.int .i64 v, .nilIface]) ∧ Below w.heap.size w w') ∨
      (∃ N, (match Lib.parseIntB 64 t with | .ok _ => false | _ => true) = true ∧ e = .returned (.tuple #[.int .i64 (match Lib.parseIntB 64 t with | .ok v => v | .range => Lib.intSat 64 t | .«syntax» => 0), .iface 230 (.pointer (some ⟨N, 0, none⟩))]) ∧ Below w.heap.size w w') := by
  obtain ⟨⟨tp, p, h1⟩, ⟨tp', p', h2⟩⟩ := hE
  have hl : (bs t).data.toList = t := bs_list t
  have hs : (bs t).size ≤ 1000000000 := by rw [bs_size]; exact ht
  cases hp : Lib.parseIntB 64 t with
  | ok v =>
    refine (Tryz.strconv_ParseInt_10_at64_ok (bs t) (by omega) v (by rw [hl]; exact hp) w).mono ?_
    rintro e w' ⟨rfl, hw⟩
    refine .inl ⟨v, rfl, rfl, ?_⟩
    rcases hw with rfl | ⟨t', rfl⟩
    · exact Below.refl _ _
    · exact Joins.below_bytesWorld _ _ _ _ (Nat.le_refl _)
  | «syntax» =>
    refine (Tryz.strconv_ParseInt_10_at64_syntax_var (bs t) (by omega) (by rw [hl]; exact hp) tp p w h1).mono ?_
    rintro e w' ⟨N, rfl, -, -, hb⟩
    exact .inr ⟨N, rfl, rfl, hb⟩
  | range =>
    refine (Tryz.strconv_ParseInt_10_at64_range_var (bs t) (by omega) (by rw [hl]; exact hp) tp' p' w h2).mono ?_
    rintro e w' ⟨N, rfl, -, -, hb⟩
    refine .inr ⟨N, rfl, ?_, hb⟩
    rw [hl]

theorem errVars_grown {w w' : World} {b : Nat} (hE : ErrVars w) (hg : w.grownBy w' (some b)) (h1 : b ≠ 6) (h2 : b ≠ 7) : ErrVars w' := by
  have key : ∀ (n : String) (g : Nat) cs, Tryz.prog.globalNamed n = some g → b ≠ g → w.var? Tryz.prog n = some cs → w'.var? Tryz.prog n = some cs := by
    intro n g cs hn hne hv
    unfold World.var? at hv ⊢
    rw [hn] at hv ⊢
    simp only [Option.bind_some] at hv ⊢
    have hlt : g < w.heap.size := by
      rcases Nat.lt_or_ge g w.heap.size with h' | h'
      · exact h'
      · rw [Array.getElem?_eq_none h'] at hv; cases hv
    rw [hg.block g hlt (fun e => hne (Option.some.inj e).symm)]
    exact hv
  obtain ⟨⟨tp, p, e1⟩, ⟨tp', p', e2⟩⟩ := hE
  exact ⟨⟨tp, p, key _ 6 _ (by kernel_rfl) h1 e1⟩, ⟨tp', p', key _ 7 _ (by kernel_rfl) h2 e2⟩⟩

set_option maxRecDepth 100000 in
set_option maxHeartbeats 2000000 in
theorem number_any (b : Nat) (l : List UInt8) (bad much : Bool) (w : World) (hr : IsRd w b l bad much) (hl : l.length ≤ 100000000) (hE : ErrVars w) (hb1 : b ≠ 6) (hb2 : b ≠ 7) :
    Calls Tryz.prog 161 #[.pointer (some ⟨b, 0, none⟩)] w fun e w' => e = .returned (.int .i64 (numVal l)) ∧ IsRd w' b (numLeft l) (bad || numBad l) much ∧ w.grownBy w' (some b) := by
  obtain ⟨c0, c1, c2, f0, f1, f2⟩ := hr.cells
  go_enter Tryz.func161, Tryz.ntmps161
  go_wp2_with fail
  refine (Tryz.strings_HasPrefix (bs l) ⟨#[194, 175]⟩ _).mono ?_
  rintro e w' ⟨rfl, rfl⟩
  rw [bs_list, show (ByteArray.mk #[194, 175]).data.toList = [194, 175] from rfl]
  cases hm : Lib.hasPrefix l [194, 175] with
  | true =>
    have hmb : minusB l = true := hm
    have h2 : 2 ≤ l.length := by
      unfold Lib.hasPrefix at hm
      have := (List.isPrefixOf_iff_prefix.1 hm).length_le
      simpa using this
    clear hm
    go_wp2_with fail
    refine (take_any b 2 l bad much _ hr h2 (by omega)).mono ?_
    rintro e w1 ⟨rfl, hr1, hg1⟩
    have E1 := errVars_grown hE hg1 hb1 hb2
    have hdl : (l.drop 2).length ≤ 100000000 := by rw [List.length_drop]; omega
    clear c0 c1 c2 f0 f1 f2 hr hE
    go_wp2_with fail
    have hle : digLen (l.drop 2) ≤ (l.drop 2).length := by unfold digLen; exact (List.takeWhile_sublist _).length_le
    have Hf : Hid (frontOf digB (bs (l.drop 2)) = digLen (l.drop 2)) := hid (by unfold frontOf digLen; rw [bs_list])
    refine (front_any 119 digB (enters_of Tryz.func119 (by kernel_rfl) rfl) digit_any b 0 (bs (l.drop 2)) _ (by rw [bs_size]; omega) (hr1).cells.1).mono ?_
    rintro e w2 ⟨rfl, rfl⟩
    rw [Hf.out]
    go_wp2_with fail
    refine (take_any b (digLen (l.drop 2)) (l.drop 2) bad much _ hr1 hle (by omega)).mono ?_
    rintro e w3 ⟨rfl, hr3, hg3⟩
    have E3 := errVars_grown E1 hg3 hb1 hb2
    have hG := grown_trans hg1 hg3
    have HT : Hid (ByteArray.mk #[45] ++ bs ((l.drop 2).take (digLen (l.drop 2))) = bs (numTxt l)) := hid (by unfold numTxt numBody; rw [hmb]; simp [bs_append, show ByteArray.mk #[45] = bs [45] from rfl])
    have hts : (bs ((l.drop 2).take (digLen (l.drop 2)))).size ≤ 100000000 := by rw [bs_size, List.length_take]; omega
    have hnl := numTxt_len l
    have HL : Hid ((l.drop 2).drop (digLen (l.drop 2)) = numLeft l) := hid (by unfold numLeft numBody; rw [hmb]; rfl)
    generalize bs ((l.drop 2).take (digLen (l.drop 2))) = T at *
    go_wp2_with fail
    rw [HT.out]
    refine (parse_any (numTxt l) _ (by omega) E3).mono ?_
    rintro e w4 (⟨v, hp, rfl, hb⟩ | ⟨N, hp, rfl, hb⟩)
    · have hr4 := hr3.below hb
      obtain ⟨k0, k1, k2, q0, q1, q2⟩ := hr4.cells
      have HV : Hid (numVal l = v) := hid (by unfold numVal; rw [hp])
      have HB : Hid (numBad l = false) := hid (by unfold numBad; rw [hp])
      clear hp
      cases bad
      all_goals
        go_wp2_with fail
        go_ret
        refine ⟨by rw [HV.out]; rfl, ?_, grown_put (grown_below hG hb) (.inl rfl)⟩
        rw [HB.out, ← HL.out]
        exact hr4.set1 _
    · have hr4 := hr3.below hb
      obtain ⟨k0, k1, k2, q0, q1, q2⟩ := hr4.cells
      have HB : Hid (numBad l = true) := hid hp
      have HV : Hid (numVal l = match Lib.parseIntB 64 (numTxt l) with | .ok v => v | .range => Lib.intSat 64 (numTxt l) | .«syntax» => 0) := hid rfl
      clear hp
      generalize (match Lib.parseIntB 64 (numTxt l) with | .ok v => v | .range => Lib.intSat 64 (numTxt l) | .«syntax» => 0) = V at *
      cases bad
      all_goals
        go_wp2_with fail
        go_ret
        refine ⟨by rw [HV.out]; rfl, ?_, grown_put (grown_below hG hb) (.inl rfl)⟩
        rw [HB.out, ← HL.out]
        exact hr4.set1 _
  | false =>
    have hmb : minusB l = false := hm
    clear hm
    go_wp2_with fail
    have hle : digLen (l) ≤ (l).length := by unfold digLen; exact (List.takeWhile_sublist _).length_le
    have Hf : Hid (frontOf digB (bs (l)) = digLen (l)) := hid (by unfold frontOf digLen; rw [bs_list])
    refine (front_any 119 digB (enters_of Tryz.func119 (by kernel_rfl) rfl) digit_any b 0 (bs (l)) _ (by rw [bs_size]; omega) (hr).cells.1).mono ?_
    rintro e w2 ⟨rfl, rfl⟩
    rw [Hf.out]
    go_wp2_with fail
    refine (take_any b (digLen (l)) (l) bad much _ hr hle (by omega)).mono ?_
    rintro e w3 ⟨rfl, hr3, hg3⟩
    have E3 := errVars_grown hE hg3 hb1 hb2
    have hG := hg3
    have HT : Hid (bs ((l).take (digLen (l))) = bs (numTxt l)) := hid (by unfold numTxt numBody; rw [hmb]; simp [bs_append, show ByteArray.mk #[45] = bs [45] from rfl])
    have hts : (bs ((l).take (digLen (l)))).size ≤ 100000000 := by rw [bs_size, List.length_take]; omega
    have hnl := numTxt_len l
    have HL : Hid ((l).drop (digLen (l)) = numLeft l) := hid (by unfold numLeft numBody; rw [hmb]; rfl)
    generalize bs ((l).take (digLen (l))) = T at *
    go_wp2_with fail
    rw [HT.out]
    refine (parse_any (numTxt l) _ (by omega) E3).mono ?_
    rintro e w4 (⟨v, hp, rfl, hb⟩ | ⟨N, hp, rfl, hb⟩)
    · have hr4 := hr3.below hb
      obtain ⟨k0, k1, k2, q0, q1, q2⟩ := hr4.cells
      have HV : Hid (numVal l = v) := hid (by unfold numVal; rw [hp])
      have HB : Hid (numBad l = false) := hid (by unfold numBad; rw [hp])
      clear hp
      cases bad
      all_goals
        go_wp2_with fail
        go_ret
        refine ⟨by rw [HV.out]; rfl, ?_, grown_put (grown_below hG hb) (.inl rfl)⟩
        rw [HB.out, ← HL.out]
        exact hr4.set1 _
    · have hr4 := hr3.below hb
      obtain ⟨k0, k1, k2, q0, q1, q2⟩ := hr4.cells
      have HB : Hid (numBad l = true) := hid hp
      have HV : Hid (numVal l = match Lib.parseIntB 64 (numTxt l) with | .ok v => v | .range => Lib.intSat 64 (numTxt l) | .«syntax» => 0) := hid rfl
      clear hp
      generalize (match Lib.parseIntB 64 (numTxt l) with | .ok v => v | .range => Lib.intSat 64 (numTxt l) | .«syntax» => 0) = V at *
      cases bad
      all_goals
        go_wp2_with fail
        go_ret
        refine ⟨by rw [HV.out]; rfl, ?_, grown_put (grown_below hG hb) (.inl rfl)⟩
        rw [HB.out, ← HL.out]
        exact hr4.set1 _
end Go.Proofs.YtijfnnjgcgmnaaaGreatDoor

namespace Go.Proofs.YtijfnnjgcgmnaaaGreatDoor
open Go.RowKit Go.Shelf
set_option linter.unusedVariables false

def glyphsL : List UInt8 := [43, 45, 195, 151, 195, 183, 124, 226, 140, 138, 226, 140, 136, 42, 61, 226, 137, 160, 60, 226, 137, 164, 226, 137, 165, 62, 226, 136, 167, 226, 136, 168, 126, 226, 141, 180, 44, 226, 140, 189, 226, 141, 137, 226, 141, 179, 226, 137, 162, 226, 141, 139, 226, 141, 146, 226, 134, 145, 226, 134, 147, 226, 136, 138, 47, 92, 226, 136, 152, 46, 226, 134, 144, 40, 41, 91, 93, 123, 125, 59, 58, 226, 141, 186, 226, 141, 181, 226, 136, 135, 226, 139, 132]
/-- How many bytes the first character has. -/
def chLen (l : List UInt8) : Nat := (Lib.decodeGo (bs l)).2
def glyTxt (l : List UInt8) : List UInt8 := if l.take (chLen l) = [10] then [226, 139, 132] else l.take (chLen l)

set_option maxRecDepth 100000 in
set_option maxHeartbeats 2000000 in
theorem rdglyph_any (b : Nat) (l : List UInt8) (bad much : Bool) (w : World) (m : Int) (hr : IsRd w b l bad much) (hl : l.length ≤ 100000000) (hle : chLen l ≤ l.length)
    (hT : Lib.Utf8Tabs 2 3 w) (hm : w.cell? ⟨4, 0, none⟩ = some (.int .i64 m)) (hbm : b ≠ 4)
    (hTb : ∀ w', Below w.heap.size w w' → Lib.Utf8Tabs 2 3 w') :
    Calls Tryz.prog 125 #[.pointer (some ⟨b, 0, none⟩)] w fun e w' => e = .returned (.agg #[.int .i64 3, .string (bs (glyTxt l)), .int .i64 0, .slice none 0 0, .slice none 0 0]) ∧
      IsRd w' b (l.drop (chLen l)) (bad || !Lib.contains glyphsL (glyTxt l)) much ∧ w.grownBy w' (some b) := by
  have hlt : b < w.heap.size := (Array.getElem?_eq_some_iff.1 hr).1
  have hB1 := fun o => (Below.refl w.heap.size w).alloc (Nat.le_refl _) o
  have Ha : ∀ o, IsRd (w.alloc o) b l bad much := fun o => (heap_alloc_old w o hlt).trans hr
  have ca := fun o => (Ha o).cells.1
  have hTa := fun o => hTb _ (hB1 o)
  go_enter Tryz.func125, Tryz.ntmps125
  go_wp2_with fail
  refine (Tryz.utf8_DecodeRuneInString (bs l) _ (hTa _)).mono ?_
  rintro e w1 ⟨rfl, hb1⟩
  have hr1 : IsRd w1 b l bad much := (Ha _).below hb1
  have hR0 := (hb1.block w.heap.size (by simp)).trans (heap_alloc_new _ _)
  have hB := (hB1 _).trans (hb1.mono (hB1 _).size)
  have hm1 := (hB.cell (World.block_lt_of_cell? w _ hm)).trans hm
  have hz1 : w.heap.size < w1.heap.size := by have := hb1.size; simp at this; omega
  have Hn : Hid ((Lib.decodeGo (bs l)).2 = chLen l) := hid rfl
  rw [Hn.out]
  clear Ha ca hTa hB1 hb1 hr hm hT
  go_wp2_with fail
  refine (take_any b (chLen l) l bad much _ hr1 hle (by omega)).mono ?_
  rintro e w2 ⟨rfl, hr2, hg2⟩
  have hR := (hg2.block w.heap.size hz1 (by simp; omega)).trans hR0
  have hm2 := (hg2.cell_far ⟨4, 0, none⟩ (World.block_lt_of_cell? w1 _ hm1) (by simpa using Ne.symm hbm)).trans hm1
  have hg : w.grownBy w2 (some b) := ⟨hg2.os.trans hB.os, hg2.tape.trans hB.tape, hg2.output.trans hB.output, Nat.le_trans hB.size hg2.size, fun j hj hne => (hg2.block j (Nat.lt_of_lt_of_le hj hB.size) hne).trans (hB.block j hj)⟩
  obtain ⟨c0, c1, c2, f0, f1, f2⟩ := hr2.cells
  have hsz : (bs (l.take (chLen l))).size ≤ 100000000 := by rw [bs_size, List.length_take]; omega
  clear hg2 hr1 hm1 hR0 hB
  have hR1 : ∀ v, (w2.setCell ⟨b, 1, none⟩ v).heap[w.heap.size]? = some (.cells #[.int .i64 0, .string ⟨#[]⟩, .int .i64 0, .slice none 0 0, .slice none 0 0] 88) := fun v => (Below.heap_setCell w2 ⟨b, 1, none⟩ v w.heap.size (by simp; omega)).trans hR
  have hbR : b ≠ w.heap.size := by omega
  have q0 := fun v => (five_facts (hR1 v)).1
  have q1 := fun v => (five_facts (hR1 v)).2.1
  have q2 := fun v => (five_facts (hR1 v)).2.2.1
  have q3 := fun v => (five_facts (hR1 v)).2.2.2.1
  have q4 := fun v => (five_facts (hR1 v)).2.2.2.2.1
  have g0 := fun v => (five_facts (hR1 v)).2.2.2.2.2.1
  have g1 := fun v => (five_facts (hR1 v)).2.2.2.2.2.2.1
  have g2 := fun v => (five_facts (hR1 v)).2.2.2.2.2.2.2.1
  have g3 := fun v => (five_facts (hR1 v)).2.2.2.2.2.2.2.2.1
  have g4 := fun v => (five_facts (hR1 v)).2.2.2.2.2.2.2.2.2
  have htl : (bs (l.take (chLen l))).toList = l.take (chLen l) := by rw [ByteArray.toList_eq]; exact bs_list _
  by_cases h : l.take (chLen l) = [10]
  · have t : ((bs (l.take (chLen l))).toList == [10]) = true := by rw [htl, h]; rfl
    have HS : Hid (ByteArray.mk #[226, 139, 132] = bs (glyTxt l)) := hid (by unfold glyTxt; rw [if_pos h]; rfl)
    clear h htl
    generalize bs (l.take (chLen l)) = S0 at *
    cases bad
    · have HC : Hid (Lib.contains glyphsL (ByteArray.mk #[226, 139, 132]).data.toList = Lib.contains glyphsL (glyTxt l)) := hid (by rw [HS.out, bs_list])
      go_wp2_with fail
      refine (Tryz.strings_Contains ⟨glyphsL.toArray⟩ ⟨#[226, 139, 132]⟩ m _ (by decide) hm2).mono ?_
      rintro e w5 ⟨rfl, rfl⟩
      rw [show (ByteArray.mk glyphsL.toArray).data.toList = glyphsL from rfl, HC.out]
      cases hc : Lib.contains glyphsL (glyTxt l)
      · have HB : Hid ((false || !Lib.contains glyphsL (glyTxt l)) = true) := hid (by rw [hc]; rfl)
        go_wp2_with fail
        have hW := set5 (hR1 (.bool true)) (.int .i64 3) (.string ⟨#[226, 139, 132]⟩) (.int .i64 0) (.slice none 0 0) (.slice none 0 0)
        refine bodyPost_ret (results_cell_row rfl _ _ w.heap.size _ _ _ _ rfl hW Tryz.underlying88 rfl (by kernel_rfl)) rfl ?_
        refine ⟨by rw [HS.out], ?_, ?_⟩
        · rw [HB.out]
          have h0 := hr2.set1 true
          unfold IsRd at h0 ⊢
          rw [Below.heap_setCell _ _ _ _ hbR, Below.heap_setCell _ _ _ _ hbR, Below.heap_setCell _ _ _ _ hbR, Below.heap_setCell _ _ _ _ hbR, Below.heap_setCell _ _ _ _ hbR]
          exact h0
        · exact grown_put (grown_put (grown_put (grown_put (grown_put (grown_put hg (.inl rfl)) (.inr (Nat.le_refl _))) (.inr (Nat.le_refl _))) (.inr (Nat.le_refl _))) (.inr (Nat.le_refl _))) (.inr (Nat.le_refl _))
      · have HB : Hid ((false || !Lib.contains glyphsL (glyTxt l)) = false) := hid (by rw [hc]; rfl)
        go_wp2_with fail
        have hW := set5 (hR1 (.bool false)) (.int .i64 3) (.string ⟨#[226, 139, 132]⟩) (.int .i64 0) (.slice none 0 0) (.slice none 0 0)
        refine bodyPost_ret (results_cell_row rfl _ _ w.heap.size _ _ _ _ rfl hW Tryz.underlying88 rfl (by kernel_rfl)) rfl ?_
        refine ⟨by rw [HS.out], ?_, ?_⟩
        · rw [HB.out]
          have h0 := hr2.set1 false
          unfold IsRd at h0 ⊢
          rw [Below.heap_setCell _ _ _ _ hbR, Below.heap_setCell _ _ _ _ hbR, Below.heap_setCell _ _ _ _ hbR, Below.heap_setCell _ _ _ _ hbR, Below.heap_setCell _ _ _ _ hbR]
          exact h0
        · exact grown_put (grown_put (grown_put (grown_put (grown_put (grown_put hg (.inl rfl)) (.inr (Nat.le_refl _))) (.inr (Nat.le_refl _))) (.inr (Nat.le_refl _))) (.inr (Nat.le_refl _))) (.inr (Nat.le_refl _))
    · have HB : Hid ((true || !Lib.contains glyphsL (glyTxt l)) = true) := hid (by rfl)
      go_wp2_with fail
      have hW := set5 (hR1 (.bool true)) (.int .i64 3) (.string ⟨#[226, 139, 132]⟩) (.int .i64 0) (.slice none 0 0) (.slice none 0 0)
      refine bodyPost_ret (results_cell_row rfl _ _ w.heap.size _ _ _ _ rfl hW Tryz.underlying88 rfl (by kernel_rfl)) rfl ?_
      refine ⟨by rw [HS.out], ?_, ?_⟩
      · rw [HB.out]
        have h0 := hr2.set1 true
        unfold IsRd at h0 ⊢
        rw [Below.heap_setCell _ _ _ _ hbR, Below.heap_setCell _ _ _ _ hbR, Below.heap_setCell _ _ _ _ hbR, Below.heap_setCell _ _ _ _ hbR, Below.heap_setCell _ _ _ _ hbR]
        exact h0
      · exact grown_put (grown_put (grown_put (grown_put (grown_put (grown_put hg (.inl rfl)) (.inr (Nat.le_refl _))) (.inr (Nat.le_refl _))) (.inr (Nat.le_refl _))) (.inr (Nat.le_refl _))) (.inr (Nat.le_refl _))
  · have t : ((bs (l.take (chLen l))).toList == [10]) = false := by rw [htl]; simpa using h
    have HS : Hid (bs (l.take (chLen l)) = bs (glyTxt l)) := hid (by unfold glyTxt; rw [if_neg h])
    clear h htl
    generalize bs (l.take (chLen l)) = S at *
    cases bad
    · have HC : Hid (Lib.contains glyphsL S.data.toList = Lib.contains glyphsL (glyTxt l)) := hid (by rw [HS.out, bs_list])
      go_wp2_with fail
      refine (Tryz.strings_Contains ⟨glyphsL.toArray⟩ S m _ (by decide) hm2).mono ?_
      rintro e w5 ⟨rfl, rfl⟩
      rw [show (ByteArray.mk glyphsL.toArray).data.toList = glyphsL from rfl, HC.out]
      cases hc : Lib.contains glyphsL (glyTxt l)
      · have HB : Hid ((false || !Lib.contains glyphsL (glyTxt l)) = true) := hid (by rw [hc]; rfl)
        go_wp2_with fail
        have hW := set5 (hR1 (.bool true)) (.int .i64 3) (.string S) (.int .i64 0) (.slice none 0 0) (.slice none 0 0)
        refine bodyPost_ret (results_cell_row rfl _ _ w.heap.size _ _ _ _ rfl hW Tryz.underlying88 rfl (by kernel_rfl)) rfl ?_
        refine ⟨by rw [HS.out], ?_, ?_⟩
        · rw [HB.out]
          have h0 := hr2.set1 true
          unfold IsRd at h0 ⊢
          rw [Below.heap_setCell _ _ _ _ hbR, Below.heap_setCell _ _ _ _ hbR, Below.heap_setCell _ _ _ _ hbR, Below.heap_setCell _ _ _ _ hbR, Below.heap_setCell _ _ _ _ hbR]
          exact h0
        · exact grown_put (grown_put (grown_put (grown_put (grown_put (grown_put hg (.inl rfl)) (.inr (Nat.le_refl _))) (.inr (Nat.le_refl _))) (.inr (Nat.le_refl _))) (.inr (Nat.le_refl _))) (.inr (Nat.le_refl _))
      · have HB : Hid ((false || !Lib.contains glyphsL (glyTxt l)) = false) := hid (by rw [hc]; rfl)
        go_wp2_with fail
        have hW := set5 (hR1 (.bool false)) (.int .i64 3) (.string S) (.int .i64 0) (.slice none 0 0) (.slice none 0 0)
        refine bodyPost_ret (results_cell_row rfl _ _ w.heap.size _ _ _ _ rfl hW Tryz.underlying88 rfl (by kernel_rfl)) rfl ?_
        refine ⟨by rw [HS.out], ?_, ?_⟩
        · rw [HB.out]
          have h0 := hr2.set1 false
          unfold IsRd at h0 ⊢
          rw [Below.heap_setCell _ _ _ _ hbR, Below.heap_setCell _ _ _ _ hbR, Below.heap_setCell _ _ _ _ hbR, Below.heap_setCell _ _ _ _ hbR, Below.heap_setCell _ _ _ _ hbR]
          exact h0
        · exact grown_put (grown_put (grown_put (grown_put (grown_put (grown_put hg (.inl rfl)) (.inr (Nat.le_refl _))) (.inr (Nat.le_refl _))) (.inr (Nat.le_refl _))) (.inr (Nat.le_refl _))) (.inr (Nat.le_refl _))
    · have HB : Hid ((true || !Lib.contains glyphsL (glyTxt l)) = true) := hid (by rfl)
      go_wp2_with fail
      have hW := set5 (hR1 (.bool true)) (.int .i64 3) (.string S) (.int .i64 0) (.slice none 0 0) (.slice none 0 0)
      refine bodyPost_ret (results_cell_row rfl _ _ w.heap.size _ _ _ _ rfl hW Tryz.underlying88 rfl (by kernel_rfl)) rfl ?_
      refine ⟨by rw [HS.out], ?_, ?_⟩
      · rw [HB.out]
        have h0 := hr2.set1 true
        unfold IsRd at h0 ⊢
        rw [Below.heap_setCell _ _ _ _ hbR, Below.heap_setCell _ _ _ _ hbR, Below.heap_setCell _ _ _ _ hbR, Below.heap_setCell _ _ _ _ hbR, Below.heap_setCell _ _ _ _ hbR]
        exact h0
      · exact grown_put (grown_put (grown_put (grown_put (grown_put (grown_put hg (.inl rfl)) (.inr (Nat.le_refl _))) (.inr (Nat.le_refl _))) (.inr (Nat.le_refl _))) (.inr (Nat.le_refl _))) (.inr (Nat.le_refl _))
end Go.Proofs.YtijfnnjgcgmnaaaGreatDoor

namespace Go.Proofs.YtijfnnjgcgmnaaaGreatDoor
open Go.RowKit Go.Shelf
set_option linter.unusedVariables false

/-- The method that reads the next token. -/
def nextF (c : UInt8) (r : List UInt8) : Nat := if numB (c :: r) = true then 122 else if c = 39 then 123 else if letB c = true then 124 else 125

set_option maxRecDepth 100000 in
theorem rdnext_any (b : Nat) (c : UInt8) (r : List UInt8) (bad much : Bool) (w : World) (hr : IsRd w b (c :: r) bad much) (hl : (c :: r).length ≤ 100000000) :
    Calls Tryz.prog 89 #[.pointer (some ⟨b, 0, none⟩)] w fun e w' => e = .returned (.func (.func (nextF c r)) #[.pointer (some ⟨b, 0, none⟩)] #[]) ∧ Quiet w w' := by
  obtain ⟨c0, c1, c2, f0, f1, f2⟩ := hr.cells
  have hi0 : (bs (c :: r)).size = r.length + 1 := by rw [bs_size]; rfl
  have hget : (bs (c :: r))[0]'(by rw [hi0]; omega) = c := rfl
  go_enter Tryz.func89, Tryz.ntmps89
  go_wp2_with fail
  refine (numeric_any b (c :: r) bad much _ hr (by omega)).mono ?_
  rintro e w' ⟨rfl, rfl⟩
  cases hn : numB (c :: r) with
  | true =>
    have H : Hid (nextF c r = 122) := hid (by unfold nextF; rw [if_pos hn])
    clear hn
    go_wp2_with fail
    go_ret
    exact ⟨by rw [H.out]; rfl, Quiet.refl _⟩
  | false =>
    have hpos : 0 < (bs (c :: r)).size := by omega
    have hpos' : (0 : Int) < ((bs (c :: r)).size : Int) := by omega
    have HN := hid hn
    have h39 : ((c.toNat : Int) == 39) = decide (c = 39) := by
      rw [Bool.eq_iff_iff, beq_iff_eq, decide_eq_true_eq, ← UInt8.toNat_inj]
      have : (39 : UInt8).toNat = 39 := rfl
      omega
    have Hc := hid (show (bs (c :: r))[0]'hpos = c from hget)
    clear hn hget hi0
    generalize bs (c :: r) = S at *
    by_cases hc : c = 39
    · have t : ((S[0].toNat : Int) == ((ByteArray.mk #[39])[0].toNat : Int)) = true := by show ((S[0].toNat : Int) == 39) = true; rw [Hc.out, h39]; simp [hc]
      have H : Hid (nextF c r = 123) := hid (by unfold nextF; rw [if_neg (by rw [HN.out]; simp), if_pos hc])
      clear hc h39
      go_wp2_with fail
      go_quiet (fail)
      go_wp2_with fail
      go_ret
      exact ⟨by rw [H.out]; rfl, Quiet.mk _ _⟩
    · have t : ((S[0].toNat : Int) == ((ByteArray.mk #[39])[0].toNat : Int)) = false := by show ((S[0].toNat : Int) == 39) = false; rw [Hc.out, h39]; simp [hc]
      have HF : Hid (nextF c r = if letB c = true then 124 else 125) := hid (by unfold nextF; rw [if_neg (by rw [HN.out]; simp), if_neg hc])
      clear hc h39
      go_wp2_with fail
      go_quiet (fail)
      go_wp2_with fail
      refine (letter_any S[0] _).mono ?_
      rintro e w2 ⟨rfl, rfl⟩
      cases hl2 : letB S[0] with
      | true =>
        have H : Hid (nextF c r = 124) := hid (by rw [HF.out, if_pos (by rw [← Hc.out]; exact hl2)])
        clear hl2
        go_wp2_with fail
        go_ret
        exact ⟨by rw [H.out]; rfl, Quiet.mk _ _⟩
      | false =>
        have H : Hid (nextF c r = 125) := hid (by rw [HF.out, if_neg (by rw [← Hc.out, hl2]; simp)])
        clear hl2
        go_wp2_with fail
        go_ret
        exact ⟨by rw [H.out]; rfl, Quiet.mk _ _⟩
end Go.Proofs.YtijfnnjgcgmnaaaGreatDoor
