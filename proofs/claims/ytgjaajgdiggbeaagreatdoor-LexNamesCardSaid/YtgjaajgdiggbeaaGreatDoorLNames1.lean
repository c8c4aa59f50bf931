/- LexNames: the contracts, as its walk takes them. -/
import Derived.Test.YtgjaajgdiggbeaaGreatDoorLNames0
import Derived.Test.YtgjaajgdiggbeaaGreatDoorShow
namespace Go.Proofs.YtgjaajgdiggbeaaGreatDoor
open Go.RowKit Go.Shelf
set_option linter.unusedVariables false
set_option linter.unusedSimpArgs false

theorem lreads_b (l : List UInt8) (s : ByteArray) (v : Value) (X : List Tok) (w : World) (hG : Glob w) (hs : s = bs l) (hl : l.length ≤ 300000) (hx : IsToks w v X) (h : tokensOf l = (X, 0)) :
    Calls Tryz.prog 16 #[.string s, v] w fun e w' => e = .returned (.bool true) ∧ Below w.heap.size w w' := by
  subst hs
  have := lreads_any l v X w hG hl hx
  rw [h, decide_eq_true rfl] at this
  exact this
set_option maxRecDepth 100000 in
theorem lwrong_b (l : List UInt8) (s : ByteArray) (w : World) (hG : Glob w) (hs : s = bs l) (hl : l.length ≤ 300000) (h : tokensOf l = ([], 170)) :
    Calls Tryz.prog 29 #[.string s] w fun e w' => e = .returned (.bool true) ∧ Below w.heap.size w w' := by
  subst hs
  have ht := tokens_any l w hG hl
  rw [h] at ht
  go_enter Tryz.func29, Tryz.ntmps29
  go_wp2_with fail
  refine ht.mono ?_
  rintro e w1 ⟨⟨v1, us, rfl, hrow, -⟩, b1⟩
  obtain ⟨a1, c1, rfl⟩ := own_slice hrow
  clear ht hrow h
  simp only [List.length_nil]
  go_wp2_with fail
  go_ret
  exact ⟨rfl, b1⟩
theorem tokens_b (l : List UInt8) (s : ByteArray) (T : List Tok) (m : Nat) (er : Int) (w : World) (hG : Glob w) (hs : s = bs l) (hl : l.length ≤ 300000) (h : tokensOf l = (T, er)) (hm : T.length = m) :
    Calls Tryz.prog 30 #[.string s] w fun e w' => (∃ a c, e = .returned (.tuple #[.slice a m c, .int .i64 er])) ∧ Below w.heap.size w w' := by
  subst hs
  have ht := tokens_any l w hG hl
  rw [h] at ht
  refine ht.mono ?_
  rintro e w1 ⟨⟨v1, us, rfl, hrow, -⟩, b1⟩
  obtain ⟨a1, c1, rfl⟩ := own_slice hrow
  simp only [hm]
  exact ⟨⟨_, _, rfl⟩, b1⟩
theorem repeatL_len (c : List UInt8) (n : Nat) : (Lib.repeatL c n).length = n * c.length := by
  induction n with
  | zero => simp [Lib.repeatL]
  | succ n ih => rw [Lib.repeatL, List.length_append, ih, Nat.succ_mul]; omega
theorem repeat_b (c : List UInt8) (s : ByteArray) (n : Nat) (i : Int) (w : World) (hs : s = bs c) (hi : i = n) (hn : n ≤ 5000) (hc : c.length ≤ 4) :
    Calls Tryz.prog 31 #[.string s, .int .i64 i] w fun e w' => (∃ S, e = .returned (.string S) ∧ Hid (S = bs (Lib.repeatL c n)) ∧ S.size ≤ 20000) ∧ Below w.heap.size w w' := by
  subst hs hi
  have hb : n * c.length ≤ 20000 := Nat.le_trans (Nat.mul_le_mul hn hc) (by decide)
  have h := Tryz.strings_Repeat (bs c) n w (by omega) (by rw [bs_size]; have := Nat.mul_comm n c.length; omega)
  rw [bs_list] at h
  refine h.mono ?_
  rintro e w' ⟨rfl, b⟩
  exact ⟨⟨bs (Lib.repeatL c n), rfl, hid rfl, by rw [bs_size, repeatL_len]; exact hb⟩, b⟩
theorem names_b (s : ByteArray) (b : Bool) (w : World) (hs : s.size ≤ 100) (h : namB s = b) :
    Calls Tryz.prog 25 #[.string s] w fun e w' => e = .returned (.bool b) ∧ Below w.heap.size w w' := by
  subst h; exact names_any s w (by omega)
theorem show_b (v : Value) (T : List Tok) (out : ByteArray) (w : World) (hG : Glob w) (hT : Tabs w) (hx : IsToks w v T) (hl : T.length ≤ 100) (ht : ∀ t ∈ T, t.txt.length ≤ 100) (h : bs (Lib.join (T.map shwOf) [32]) = out) :
    Calls Tryz.prog 24 #[v] w fun e w' => e = .returned (.string out) ∧ Below w.heap.size w w' := by
  subst h; exact show_any v T w hG hT hx (by omega) (fun t h => Nat.le_trans (ht t h) (by decide))
theorem split_b (l : List UInt8) (s : ByteArray) (P : List (List UInt8)) (m : Nat) (w : World) (hs : s = bs l) (hl : l.length ≤ 1000) (h : piecesOf l = P) (hm : P.length = m) :
    Calls Tryz.prog 20 #[.string s] w fun e w' => (∃ a c, e = .returned (.slice a m c) ∧ Strs w' (.slice a m c) (P.map bs)) ∧ Below w.heap.size w w' := by
  subst hs
  have hsp := split_any (bs l) w (by rw [bs_size]; omega)
  rw [split_pieces, h] at hsp
  refine hsp.mono ?_
  rintro e w1 ⟨v1, rfl, hv1, b1⟩
  have hs1 := Strs.of_owns hv1
  obtain ⟨a1, c1, rfl⟩ := own_slice hv1
  rw [List.length_map, hm] at *
  exact ⟨⟨a1, c1, rfl, hs1⟩, b1⟩
theorem arr_lit {w : World} {b m : Nat} {k : Int} (xs : List Int) (h : w.heap[b]? = some (.cells (xs.map (Value.int .i64)).toArray 2)) (hm : m = xs.length) (hr : Rng xs) (hl : xs.length ≤ 1000) :
    ArrOwn w 0 (.agg #[.int .i64 k, .slice none 0 0, .slice (some ⟨b, 0, none⟩) m m]) ⟨k, [], xs⟩ := by
  subst hm
  refine ⟨_, _, rfl, World.ownsRow_nil _ _ _ _, ?_, hr⟩
  have := owns_lit (base := 0) (e := 2) (cs := xs.map (Value.int .i64)) h (Nat.zero_le _) (by rw [List.length_map]; unfold maxLen; omega)
  rw [List.length_map] at this
  exact this
end Go.Proofs.YtgjaajgdiggbeaaGreatDoor
