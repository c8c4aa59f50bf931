/- array.Chars; the reference's Same.
   Arrays that a call made: in memory of its own. -/
import Derived.Test.YtijfnnjgcgmnaaaGreatDoorArrs
import Derived.WalkSmall
import Derived.BigCall
namespace Go.Proofs.YtijfnnjgcgmnaaaGreatDoor
open Go.RowKit Go.Shelf
set_option linter.unusedVariables false

/-- A text's characters, from a place on. -/
def runesFrom (s : ByteArray) : Nat → Nat → List Int
  | 0, _ => []
  | fuel + 1, pos => if pos < s.size then ((Utf8.decode s pos).1 : Int) :: runesFrom s fuel (pos + (Utf8.decode s pos).2) else []
def runesOf (s : ByteArray) : List Int := runesFrom s s.size 0

theorem width_pos (s : ByteArray) (pos : Nat) (h : pos < s.size) : 1 ≤ (Utf8.decode s pos).2 := by
  by_cases ha : (s[pos]'h).toNat < 128
  · rw [decode_ascii s pos h ha]
    exact Nat.le_refl _
  · exact (decode_high s pos h (by omega)).2

theorem runesFrom_end (s : ByteArray) (fuel pos : Nat) (h : ¬ pos < s.size) : runesFrom s fuel pos = [] := by
  cases fuel with
  | zero => rfl
  | succ f => simp [runesFrom, h]

end Go.Proofs.YtijfnnjgcgmnaaaGreatDoor

namespace Go.Proofs.YtijfnnjgcgmnaaaGreatDoor
open Go.RowKit Go.Shelf
set_option linter.unusedVariables false

/-- An array in memory of its own, from a block on. -/
def ArrOwn (w : World) (base : Nat) (v : Value) (x : Arr) : Prop := ∃ vs ve, v = .agg #[.int .i64 x.kind, vs, ve] ∧ w.ownsRow base 3 1 vs x.shape.length (x.shape.map (.int .i64)) ∧ w.ownsRow base 2 1 ve x.elems.length (x.elems.map (.int .i64)) ∧ Rng x.elems
theorem ArrOwn.isArr {w : World} {base : Nat} {v : Value} {x : Arr} (h : ArrOwn w base v x) : IsArr w v x :=
  let ⟨vs, ve, e, h1, h2, h3⟩ := h
  ⟨vs, ve, e, Ints.of_owns h1, Ints.of_owns h2, h3⟩
theorem owns_lit {w : World} {base e b : Nat} {cs : List Value} (h : w.heap[b]? = some (.cells cs.toArray e)) (hb : base ≤ b) (hl : cs.length ≤ maxLen) : w.ownsRow base e 1 (.slice (some ⟨b, 0, none⟩) cs.length cs.length) cs.length cs :=
  ⟨by simp, .inr ⟨b, cs.length, cs.toArray, rfl, hb, h, Nat.le_refl _, hl, by simp, by simp⟩⟩

set_option maxRecDepth 100000 in
theorem scalar_own (n : Int) (w : World) (h0 : -9223372036854775808 ≤ n) (h1 : n ≤ 9223372036854775807) :
    Calls Tryz.prog 29 #[.int .i64 n] w fun e w' => (∃ v, e = .returned v ∧ ArrOwn w' w.heap.size v ⟨1, [], [n]⟩) ∧ Below w.heap.size w w' := by
  go_enter Tryz.func29, Tryz.ntmps29
  go_wp2
  refine bodyPost_ret (results_cell_row rfl _ _ w.heap.size _ _ _ _ rfl ((heap_alloc_old _ _ (by simp)).trans (heap_alloc_new _ _)) Tryz.underlying28 rfl (by kernel_rfl)) rfl ?_
  refine ⟨⟨_, rfl, _, _, rfl, World.ownsRow_nil _ _ _ _, owns_lit (cs := [.int .i64 n]) (heap_alloc2_new _ _ _) (by omega) (by simp [maxLen]), ?_⟩, ((Below.refl _ w).alloc (Nat.le_refl _) _).alloc (by simp) _⟩
  intro i hi
  obtain rfl : i = 0 := by simpa using hi
  exact ⟨h0, h1⟩

set_option maxRecDepth 100000 in
theorem vector_own (v : Value) (xs : List Int) (w : World) (hx : Ints w v xs) (hr : Rng xs) (hl : xs.length ≤ 1000000) :
    Calls Tryz.prog 162 #[v] w fun e w' => (∃ v, e = .returned v ∧ ArrOwn w' w.heap.size v ⟨1, [(xs.length : Int)], xs⟩) ∧ Below w.heap.size w w' := by
  obtain ⟨a, cap, rfl, h1, h2, h3, -⟩ := hx.parts
  have hB1 : ∀ o, Below w.heap.size w (w.alloc o) := fun o => (Below.refl _ w).alloc (Nat.le_refl _) o
  have hB2 : ∀ o o', Below w.heap.size w ((w.alloc o).alloc o') := fun o o' => (hB1 o).alloc (by simp) o'
  have hx2 := fun o o' => hx.below (hB2 o o')
  go_enter Tryz.func162, Tryz.ntmps162
  go_wp2_with fail
  refine (clone64_any _ xs _ (hx2 _ _) hl).mono ?_
  rintro e w1 ⟨v', rfl, hown, hb⟩
  have hio := Ints.of_owns hown
  have hBw := (hB2 _ _).trans (hb.mono (hB2 _ _).size)
  have hcell : w1.heap[w.heap.size + 1]? = some (.cells #[.int .i64 xs.length] 3) := (hb.block _ (by simp)).trans (heap_alloc2_new _ _ _)
  have hold : w1.heap[w.heap.size]? = _ := (hb.block _ (by simp; omega)).trans ((heap_alloc_old _ _ (by simp)).trans (heap_alloc_new _ _))
  obtain ⟨ao, co, rfl⟩ : ∃ ao co, v' = .slice ao xs.length co := by
    rcases hown.2 with ⟨hv, h0⟩ | ⟨g, cap, cur, hv, _⟩
    · exact ⟨none, 0, by rw [hv, h0]⟩
    · exact ⟨_, _, hv⟩
  have f0 : ∀ i, w1.frozen? ⟨w.heap.size, i, none⟩ = false := Lib.frozen_of_heap hold
  have d0 := f0 0
  have d1 := f0 1
  have d2 := f0 2
  have c0 : w1.cell? ⟨w.heap.size, 0, none⟩ = some (.int .i64 0) := by rw [Lib.cell_of_heap hold]; rfl
  have c1 : w1.cell? ⟨w.heap.size, 1, none⟩ = some (.slice none 0 0) := by rw [Lib.cell_of_heap hold]; rfl
  have c2 : w1.cell? ⟨w.heap.size, 2, none⟩ = some (.slice none 0 0) := by rw [Lib.cell_of_heap hold]; rfl
  go_wp2_with fail
  have hW := heap_set3 hold (.int .i64 1) (.slice (some ⟨w.heap.size + 1, 0, none⟩) 1 1) (.slice ao xs.length co)
  have hbase : w.heap.size < ((w.alloc (.cells #[.int .i64 0, .slice none 0 0, .slice none 0 0] 28)).alloc (.cells #[.int .i64 xs.length] 3)).heap.size := by simp; omega
  have hown2 := ownsRow_setCell_below (ownsRow_setCell_below (ownsRow_setCell_below hown (a := ⟨w.heap.size, 0, none⟩) hbase (.int .i64 1)) (a := ⟨w.heap.size, 1, none⟩) hbase (.slice (some ⟨w.heap.size + 1, 0, none⟩) 1 1)) (a := ⟨w.heap.size, 2, none⟩) hbase (.slice ao xs.length co)
  have hBW := ((hBw.setCell (p := ⟨w.heap.size, 0, none⟩) (Nat.le_refl _) (.int .i64 1)).setCell (p := ⟨w.heap.size, 1, none⟩) (Nat.le_refl _) (.slice (some ⟨w.heap.size + 1, 0, none⟩) 1 1)).setCell (p := ⟨w.heap.size, 2, none⟩) (Nat.le_refl _) (.slice ao xs.length co)
  have hcW : (((w1.setCell ⟨w.heap.size, 0, none⟩ (.int .i64 1)).setCell ⟨w.heap.size, 1, none⟩ (.slice (some ⟨w.heap.size + 1, 0, none⟩) 1 1)).setCell ⟨w.heap.size, 2, none⟩ (.slice ao xs.length co)).heap[w.heap.size + 1]? = some (.cells #[.int .i64 xs.length] 3) := by
    rw [Below.heap_setCell _ _ _ _ (by simp), Below.heap_setCell _ _ _ _ (by simp), Below.heap_setCell _ _ _ _ (by simp)]; exact hcell
  clear hown hold hcell hio hb hBw
  generalize ((w1.setCell ⟨w.heap.size, 0, none⟩ (.int .i64 1)).setCell ⟨w.heap.size, 1, none⟩ (.slice (some ⟨w.heap.size + 1, 0, none⟩) 1 1)).setCell ⟨w.heap.size, 2, none⟩ (.slice ao xs.length co) = W at *
  refine bodyPost_ret (results_cell_row rfl _ _ w.heap.size _ _ _ _ rfl hW Tryz.underlying28 rfl (by kernel_rfl)) rfl ?_
  exact ⟨⟨_, rfl, _, _, rfl, owns_lit (cs := [.int .i64 xs.length]) hcW (by omega) (by simp [maxLen]), owns_mono hown2 (by simp; omega), hr⟩, hBW⟩

set_option maxRecDepth 100000 in
set_option maxHeartbeats 2000000 in
theorem chars_own (s : ByteArray) (w : World) (hs : s.size ≤ 1000000) :
    Calls Tryz.prog 165 #[.string s] w fun e w' => (∃ v, e = .returned v ∧ ArrOwn w' w.heap.size v ⟨2, [((runesOf s).length : Int)], runesOf s⟩) ∧ Below w.heap.size w w' := by
  obtain ⟨i0, hi, hz0, hz1, hz2⟩ := info_parts (show (Tryz.prog.info? 2).map (fun i => (i.zero, i.size, i.bytes)) = some (some (.int .i64 0), 1, 8) by kernel_rfl)
  go_enter Tryz.func165, Tryz.ntmps165
  go_wp2
  go_loopw [] (fun wr => ∃ (pos fuel : Nat) (acc : List Int) (vel : Value), wr.heap[w.heap.size]? = some (.cells #[.int .i64 0, .slice none 0 0, .slice none 0 0] 28) ∧ wr.heap[w.heap.size + 1]? = some (.cells #[.int .i64 2, .slice none 0 0, vel] 28) ∧
      wr.heap[w.heap.size + 1 + 1]? = some (.stringIter s pos) ∧ wr.ownsRow (w.heap.size + 1 + 1 + 1) 2 1 vel acc.length (acc.map (.int .i64)) ∧ Below w.heap.size w wr ∧ acc ++ runesFrom s fuel pos = runesOf s ∧ s.size ≤ pos + fuel ∧ acc.length ≤ pos ∧ w.heap.size + 3 ≤ wr.heap.size ∧ (∀ x ∈ acc, 0 ≤ x ∧ x ≤ 2147483647))
    (fun wr => s.size - wr.iterPos (w.heap.size + 1 + 1))
  case atStart =>
    have hA0 := fun o => heap_alloc_old ((w.alloc (.cells #[.int .i64 0, .slice none 0 0, .slice none 0 0] 28)).alloc (.cells #[.int .i64 2, .slice none 0 0, .slice none 0 0] 28)) o (r := w.heap.size + 1) (by simp)
    have hR0 := fun o => heap_alloc_old ((w.alloc (.cells #[.int .i64 0, .slice none 0 0, .slice none 0 0] 28)).alloc (.cells #[.int .i64 2, .slice none 0 0, .slice none 0 0] 28)) o (r := w.heap.size) (by simp; omega)
    refine ⟨0, s.size, [], .slice none 0 0, (hR0 _).trans ((heap_alloc_old _ _ (by simp)).trans (heap_alloc_new _ _)), (hA0 _).trans (heap_alloc2_new _ _ _), ?_, World.ownsRow_nil _ _ _ _, (((Below.refl _ w).alloc (Nat.le_refl _) _).alloc (by simp) _).alloc (by simp; omega) _, rfl, by omega, by simp, ?_, by simp⟩
    · have := World.iter_heap ((w.alloc (.cells #[.int .i64 0, .slice none 0 0, .slice none 0 0] 28)).alloc (.cells #[.int .i64 2, .slice none 0 0, .slice none 0 0] 28)) s 0
      simpa using this
    · have : ∀ W : World, (W.iter s 0).heap.size = W.heap.size + 1 := fun W => by simp [World.iter]
      rw [this]; simp
  case round =>
    obtain ⟨pos, fuel, acc, vel, hR, hA, hit, hrow, hB, hacc, hfu, hal, hsz, hbd⟩ := hrel
    by_cases hp : pos < s.size
    · have hnx : ∀ ty, (Instr.next (.pointer (some ⟨w.heap.size + 1 + 1, 0, none⟩)) true ty).run Tryz.prog wr = _ := fun ty => Lib.run_next_any_at wr (w.heap.size + 1 + 1) s pos ty hit hp
      have hwd := width_pos s pos hp
      have hd1 := decode_le s pos
      obtain ⟨f, rfl⟩ : ∃ f, fuel = f + 1 := ⟨fuel - 1, by omega⟩
      have hst : Hid (runesFrom s (f + 1) pos = ((Utf8.decode s pos).1 : Int) :: runesFrom s f (pos + (Utf8.decode s pos).2)) := hid (by rw [runesFrom, if_pos hp])
      generalize (Utf8.decode s pos).2 = d at *
      have hr0 : (0 : Int) ≤ ((Utf8.decode s pos).1 : Int) := by omega
      have hr1 : ((Utf8.decode s pos).1 : Int) ≤ 2147483647 := by omega
      generalize ((Utf8.decode s pos).1 : Int) = r at *
      have hit2 := Lib.iterAt_heap wr (w.heap.size + 1 + 1) s pos (pos + d) hit
      have hB2 := Lib.below_iterAt hB (k := w.heap.size + 1 + 1) (by omega) s (pos + d)
      have hA2 := (Lib.iterAt_other wr (w.heap.size + 1 + 1) (w.heap.size + 1) s (pos + d) (by omega)).trans hA
      have hR2 := (Lib.iterAt_other wr (w.heap.size + 1 + 1) w.heap.size s (pos + d) (by omega)).trans hR
      have hrow2 := ownsRow_iterAt hrow (k := w.heap.size + 1 + 1) (by omega) s (pos + d)
      have hsz2 : w.heap.size + 3 ≤ (wr.iterAt (w.heap.size + 1 + 1) s (pos + d)).heap.size := by rw [Lib.iterAt_size]; exact hsz
      have hmu : wr.iterPos (w.heap.size + 1 + 1) = pos := by simp [World.iterPos, hit]
      generalize wr.iterAt (w.heap.size + 1 + 1) s (pos + d) = wd at *
      obtain ⟨av, cv, rfl⟩ := own_slice hrow2
      have hw64 : wrap64 r = r := by unfold wrap64; omega
      have hne : (Value.slice av acc.length cv).ownBlock ≠ some (w.heap.size + 1) := fun e => by have := (hrow2.lt _ e).1; omega
      have hneR : (Value.slice av acc.length cv).ownBlock ≠ some w.heap.size := fun e => by have := (hrow2.lt _ e).1; omega
      have hneI : (Value.slice av acc.length cv).ownBlock ≠ some (w.heap.size + 1 + 1) := fun e => by have := (hrow2.lt _ e).1; omega
      obtain ⟨k0, k1, k2, f0, f1, f2⟩ := zero_facts hA2
      clear hrow hA hR hit hB hsz
      go_wp2_with (at_builtin; go_must (refine wpList_append_own _ rfl _ _ 26 rfl (w.heap.size + 1 + 1 + 1) 2 i0 (.int .i64 0) 1 8 Tryz.underlying26 hi hz0 hz1 hz2 rfl (by decide) _ _ _ rfl (hrow2.alloc _) ⟨wd.heap.size, 0, none⟩ 1 1 [.int .i64 r] rfl rfl (one_new wd (.int .i64 r) 2) (by simp [Value.oneCell']) (by simp [maxLen]; omega) (by omega) (by simp; omega) ?_); intro v' w2 hown' hgrow _; obtain ⟨g', cap', rfl⟩ := ownsRow_succ hown'; have hA3 := (hgrow.block (w.heap.size + 1) (by simp; omega) (Ne.symm hne)).trans ((heap_alloc_old _ _ (by omega)).trans hA2); obtain ⟨c0, c1, c2, e0, e1, e2⟩ := zero_facts hA3)
      have hI3 := (hgrow.block (w.heap.size + 1 + 1) (by simp; omega) (Ne.symm hneI)).trans ((heap_alloc_old _ _ (by omega)).trans hit2)
      have hR3 := (hgrow.block w.heap.size (by simp; omega) (Ne.symm hneR)).trans ((heap_alloc_old _ _ (by omega)).trans hR2)
      have hsz3 : w.heap.size + 3 ≤ w2.heap.size := by have := hgrow.size; simp at this; omega
      have hB3 := (hB2.alloc hB2.size (.cells #[.int .i64 r] 2)).grown hgrow (by simp; omega) (fun k e => by have := (hrow2.lt k e).1; omega)
      have keepH : ∀ (j : Nat) v, j ≠ w.heap.size + 1 → (w2.setCell ⟨w.heap.size + 1, 2, none⟩ v).heap[j]? = w2.heap[j]? := fun j v hj => Below.heap_setCell w2 ⟨w.heap.size + 1, 2, none⟩ v j hj
      refine ⟨⟨pos + d, f, acc ++ [r], _, (keepH _ _ (by omega)).trans hR3, heap_set1 (i := 2) hA3 _, (keepH _ _ (by omega)).trans hI3, ?_, hB3.setCell (by simp) _, ?_, by omega, by simp; omega, by simp; omega, ?_⟩, ?_⟩
      · have := ownsRow_setCell_below (a := ⟨w.heap.size + 1, 2, none⟩) hown' (by simp) (.slice (some ⟨g', 0, none⟩) (acc.length + 1) cap')
        simpa using this
      · rw [← hacc, hst.out, List.append_assoc]; rfl
      · intro x hx
        rcases List.mem_append.1 hx with h | h
        · exact hbd x h
        · obtain rfl : x = r := by simpa using h
          exact ⟨hr0, hr1⟩
      · have h1 : (w2.setCell ⟨w.heap.size + 1, 2, none⟩ (.slice (some ⟨g', 0, none⟩) (acc.length + 1) cap')).iterPos (w.heap.size + 1 + 1) = pos + d := iterPos_of ((keepH _ _ (by omega)).trans hI3)
        rw [h1, hmu]; omega
    · have hnx : ∀ ty, (Instr.next (.pointer (some ⟨w.heap.size + 1 + 1, 0, none⟩)) true ty).run Tryz.prog wr = _ := fun ty => Lib.run_next_end_at wr (w.heap.size + 1 + 1) s pos ty hit hp
      obtain ⟨av, cv, rfl⟩ := own_slice hrow
      have hA1 := fun o => (heap_alloc_old wr o (r := w.heap.size + 1) (by omega)).trans hA
      have hR1 := fun o => (heap_alloc_old wr o (r := w.heap.size) (by omega)).trans hR
      have k0 := fun o => (zero_facts (hA1 o)).1
      have k1 := fun o => (zero_facts (hA1 o)).2.1
      have k2 := fun o => (zero_facts (hA1 o)).2.2.1
      have f1 := fun o => (zero_facts (hA1 o)).2.2.2.2.1
      have q0 := fun o => (zero_facts (hR1 o)).1
      have q1 := fun o => (zero_facts (hR1 o)).2.1
      have q2 := fun o => (zero_facts (hR1 o)).2.2.1
      have g0 := fun o => (zero_facts (hR1 o)).2.2.2.1
      have g1 := fun o => (zero_facts (hR1 o)).2.2.2.2.1
      have g2 := fun o => (zero_facts (hR1 o)).2.2.2.2.2
      have n2 := (zero_facts hA).2.2.1
      have hacc2 : Hid (acc = runesOf s) := hid (by rw [← hacc, runesFrom_end s fuel pos hp, List.append_nil])
      clear hacc
      go_wp2
      have hR2 := (Below.heap_setCell (wr.alloc (.cells #[.int .i64 acc.length] 3)) ⟨w.heap.size + 1, 1, none⟩ (.slice (some ⟨wr.heap.size, 0, none⟩) 1 1) w.heap.size (by simp)).trans (hR1 _)
      have hW := heap_set3 hR2 (.int .i64 2) (.slice (some ⟨wr.heap.size, 0, none⟩) 1 1) (.slice av acc.length cv)
      have hrw := ownsRow_setCell_below (ownsRow_setCell_below (ownsRow_setCell_below (ownsRow_setCell_below (hrow.alloc (.cells #[.int .i64 acc.length] 3)) (a := ⟨w.heap.size + 1, 1, none⟩) (by simp <;> omega) (.slice (some ⟨wr.heap.size, 0, none⟩) 1 1)) (a := ⟨w.heap.size, 0, none⟩) (by simp <;> omega) (.int .i64 2)) (a := ⟨w.heap.size, 1, none⟩) (by simp <;> omega) (.slice (some ⟨wr.heap.size, 0, none⟩) 1 1)) (a := ⟨w.heap.size, 2, none⟩) (by simp <;> omega) (.slice av acc.length cv)
      have hbw := ((((hB.alloc hB.size (.cells #[.int .i64 acc.length] 3)).setCell (p := ⟨w.heap.size + 1, 1, none⟩) (by simp <;> omega) (.slice (some ⟨wr.heap.size, 0, none⟩) 1 1)).setCell (p := ⟨w.heap.size, 0, none⟩) (by simp <;> omega) (.int .i64 2)).setCell (p := ⟨w.heap.size, 1, none⟩) (by simp <;> omega) (.slice (some ⟨wr.heap.size, 0, none⟩) 1 1)).setCell (p := ⟨w.heap.size, 2, none⟩) (by simp <;> omega) (.slice av acc.length cv)
      have hlc : (((((wr.alloc (.cells #[.int .i64 acc.length] 3)).setCell ⟨w.heap.size + 1, 1, none⟩ (.slice (some ⟨wr.heap.size, 0, none⟩) 1 1)).setCell ⟨w.heap.size, 0, none⟩ (.int .i64 2)).setCell ⟨w.heap.size, 1, none⟩ (.slice (some ⟨wr.heap.size, 0, none⟩) 1 1)).setCell ⟨w.heap.size, 2, none⟩ (.slice av acc.length cv)).heap[wr.heap.size]? = some (.cells #[.int .i64 acc.length] 3) := by
        rw [Below.heap_setCell _ _ _ _ (by simp <;> omega), Below.heap_setCell _ _ _ _ (by simp <;> omega), Below.heap_setCell _ _ _ _ (by simp <;> omega), Below.heap_setCell _ _ _ _ (by simp <;> omega)]; exact heap_alloc_new _ _
      refine bodyPost_ret (results_cell_row rfl _ _ w.heap.size _ _ _ _ rfl hW Tryz.underlying28 rfl (by kernel_rfl)) rfl ?_
      rw [← hacc2.out]
      refine ⟨⟨_, rfl, _, _, rfl, owns_lit (cs := [.int .i64 acc.length]) hlc (by omega) (by simp [maxLen]), owns_mono hrw (by omega), fun i hi => ?_⟩, hbw⟩
      have := hbd (acc[i]?.getD 0) (by rw [List.getElem?_eq_getElem hi, Option.getD_some]; exact List.getElem_mem hi)
      show -9223372036854775808 ≤ acc[i]?.getD 0 ∧ acc[i]?.getD 0 ≤ 9223372036854775807
      omega
end Go.Proofs.YtijfnnjgcgmnaaaGreatDoor
