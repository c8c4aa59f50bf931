/- array.Make, at each function that the laws hand to it. -/
import Derived.Test.YtjapijkgjgfcnaaDoorCopy
import Derived.Deep.RegionLaw
namespace Go.Proofs.YtjapijkgjgfcnaaDoor
open Go.RowKit Go.Shelf
set_option linter.unusedVariables false

theorem results_row_tmp {P : Program} {fn : Func} {p u : Tmp} {ty : TypeId} (h : fn.results = #[.cell p ty, .tmp u]) (tmps : Array Value) (w : World) (g : Nat) (t : TypeId) (cs : Array Value) (fr : Nat × Nat) (d : TypeDesc)
    (hp : tmps.getD p undef = .pointer (some ⟨g, 0, none⟩)) (hg : w.heap[g]? = some (.cells cs t fr))
    (hu : P.underlying ty = some d) (hd : (match d with | .struct _ | .array _ _ => true | _ => false) = true) (hi : (P.info? ty).map (·.size) = some cs.size) :
    (results fn tmps).run P w = .ok (.tuple #[.agg cs, tmps.getD u undef]) w := by
  rw [results_cell_tmp h, hp]
  simp [asAddr, Result.andThen, run_loadVar_row w g t ty cs fr d hg hu hd hi]

def els (el : Nat → Int) (k : Nat) : List Int := (List.range k).map el
theorem els_succ (el : Nat → Int) (k : Nat) : (els el (k + 1)).map (Value.int .i64) = (els el k).map (Value.int .i64) ++ [.int .i64 (el k)] := by simp [els, List.range_succ]
theorem els_length (el : Nat → Int) (k : Nat) : (els el k).length = k := by simp [els]
theorem els_get (el : Nat → Int) (k i : Nat) (h : i < k) : (els el k)[i]?.getD 0 = el i := by simp [els, h]

theorem countFold_ge {xs : List Int} {m n : Int} (hm : 0 ≤ m) (h : countFold xs m = some n) : 0 ≤ n := by
  induction xs generalizing m with
  | nil => unfold countFold at h; split at h <;> simp at h; omega
  | cons l r ih =>
    unfold countFold at h
    split at h
    · simp at h
    · rename_i hl
      exact ih (Int.mul_nonneg hm (by omega)) h
theorem count_ge {xs : List Int} {n : Int} (h : count xs = some n) : 0 ≤ n := by
  unfold count at h
  split at h
  · simp at h
  · exact countFold_ge (by decide) h

theorem chk_or (x : Arr) : chk x = 110 ∨ chk x = 0 := by unfold chk; split <;> simp

/-- What Make answers. -/
def Made (w w' : World) (kind : Int) (xs : List Int) (el : Nat → Int) (e : Ending) : Prop :=
  (count xs = none ∧ e = .returned (.tuple #[.agg #[.int .i64 0, .slice none 0 0, .slice none 0 0], .int .i64 110])) ∨
  ∃ n : Nat, count xs = some (n : Int) ∧ ((chk ⟨kind, xs, els el n⟩ = 110 ∧ e = .returned (.tuple #[.agg #[.int .i64 0, .slice none 0 0, .slice none 0 0], .int .i64 110])) ∨
    (chk ⟨kind, xs, els el n⟩ = 0 ∧ ∃ v, e = .returned (.tuple #[v, .int .i64 0]) ∧ IsArr w' v ⟨kind, xs, els el n⟩))

set_option maxRecDepth 100000 in
theorem made1_el (k : Int) (seed : Int) (b : Nat) (w : World) (hb : w.cell? ⟨b, 0, none⟩ = some (.int .i64 seed)) : Calls Tryd.prog 27 #[.int .i64 k, .pointer (some ⟨b, 0, none⟩)] w fun e w' => e = .returned (.int .i64 (wrap64 (seed + k))) ∧ w' = w := by
  go_enter Tryd.func27, Tryd.ntmps27
  go_wp2
  go_ret
  exact ⟨rfl, rfl⟩

set_option maxRecDepth 100000 in
set_option maxHeartbeats 2000000 in
theorem made1_make (kind : Int) (v : Value) (xs : List Int) (seed : Int) (b : Nat) (w : World) (hx : Ints w v xs) (hb : w.cell? ⟨b, 0, none⟩ = some (.int .i64 seed)) (hxl : xs.length ≤ 1000000) :
    Calls Tryd.prog 18 #[.int .i64 kind, v, .func (.func 27) #[] #[.pointer (some ⟨b, 0, none⟩)]] w fun e w' => Made w w' kind xs (fun k => wrap64 (seed + (k : Int))) e ∧ Below w.heap.size w w' := by
  have hr : ∀ k : Nat, k ≤ 4096 → -9223372036854775808 ≤ (fun k => wrap64 (seed + (k : Int))) k ∧ (fun k => wrap64 (seed + (k : Int))) k ≤ 9223372036854775807 := fun k hk => by show -9223372036854775808 ≤ wrap64 _ ∧ wrap64 _ ≤ 9223372036854775807; unfold wrap64; omega
  obtain ⟨i0, hi, hz0, hz1, hz2⟩ := info_parts (show (Tryd.prog.info? 2).map (fun i => (i.zero, i.size, i.bytes)) = some (some (.int .i64 0), 1, 8) by kernel_rfl)
  have hB1 : ∀ o, Below w.heap.size w (w.alloc o) := fun o => (Below.refl _ w).alloc (Nat.le_refl _) o
  have gx := fun o => hx.below (hB1 o)
  obtain ⟨as_, cs, rfl, s1, s2, s3, -⟩ := hx.parts
  clear hx
  go_enter Tryd.func18, Tryd.ntmps18
  go_wp2_with fail
  refine (count_any _ xs _ (gx _)).mono ?_
  rintro e w0 ⟨rfl, rfl⟩
  cases hc : count xs with
  | none =>
    simp only [cRes]
    go_wp2_with fail
    have hW := heap_alloc_new w (.cells #[.int .i64 0, .slice none 0 0, .slice none 0 0] 35)
    refine bodyPost_ret (results_row_tmp rfl _ _ w.heap.size _ _ _ _ rfl hW Tryd.underlying35 rfl (by kernel_rfl)) rfl ?_
    exact ⟨.inl ⟨hc, rfl⟩, hB1 _⟩
  | some c =>
    have hc4 := count_le _ _ hc
    have hc0 := count_ge hc
    obtain ⟨n, rfl⟩ : ∃ n : Nat, c = n := ⟨c.toNat, by omega⟩
    have Hc := hid hc
    simp only [cRes]
    clear hc
    go_wp2_with fail
    refine (clone_ints _ xs _ (gx _) hxl).mono ?_
    rintro e w1 ⟨vs, rfl, o1, b1⟩
    obtain ⟨a1, d1, rfl⟩ := own_slice o1
    have R1 := (b1.block w.heap.size (by simp)).trans (heap_alloc_new _ _)
    have B1 := (hB1 _).trans (b1.mono (hB1 _).size)
    have z1 := b1.size
    simp at z1
    clear b1 gx
    go_wp2_with fail
    have hA := heap_alloc_new w1 (.cells #[.int .i64 kind, .slice a1 xs.length d1, .slice none 0 0] 35)
    have hBA := (Below.refl _ w1).alloc (Nat.le_refl _) (.cells #[.int .i64 kind, .slice a1 xs.length d1, .slice none 0 0] 35)
    have hzA : (w1.alloc (.cells #[.int .i64 kind, .slice a1 xs.length d1, .slice none 0 0] 35)).heap.size = w1.heap.size + 1 := by simp
    generalize w1.alloc (.cells #[.int .i64 kind, .slice a1 xs.length d1, .slice none 0 0] 35) = W at *
    go_loopw [27] (fun i wr => ∃ (k : Nat) (vel : Value), k ≤ n ∧ i = .int .i64 k ∧ wr.heap[w1.heap.size]? = some (.cells #[.int .i64 kind, .slice a1 xs.length d1, vel] 35) ∧
        wr.ownsRow (w1.heap.size + 1) 2 1 vel k ((els (fun k => wrap64 (seed + (k : Int))) k).map (.int .i64)) ∧ Below w1.heap.size w1 wr ∧ w1.heap.size + 1 ≤ wr.heap.size) (fun i _ => n - (intOf i).toNat)
    case atStart => exact ⟨0, _, by omega, rfl, hA, World.ownsRow_nil _ _ _ _, hBA, by omega⟩
    case round =>
      obtain ⟨k, vel, hk, rfl, hA, hrow, hB, hsz⟩ := hrel
      by_cases hlt : k < n
      · obtain ⟨av, cv, rfl⟩ := own_slice hrow
        have hki : (k : Int) < (n : Int) := by omega
        have Hs := hid (els_succ (fun k => wrap64 (seed + (k : Int))) k)
        have hBw := B1.trans (hB.mono B1.size)
        have hbw : wr.drew.cell? ⟨b, 0, none⟩ = some (.int .i64 seed) := (hBw.cell (World.block_lt_of_cell? w _ hb)).trans hb
        have hne : (Value.slice av k cv).ownBlock ≠ some w1.heap.size := fun e => by have := (hrow.lt _ e).1; omega
        have c2 : wr.cell? ⟨w1.heap.size, 2, none⟩ = some (.slice av k cv) := by rw [Lib.cell_of_heap hA]; rfl
        have cn : ∀ o, (wr.alloc o).cell? ⟨w1.heap.size, 2, none⟩ = some (.slice av k cv) := fun o => (((Below.refl _ wr).alloc (Nat.le_refl _) o).cell (p := ⟨w1.heap.size, 2, none⟩) (World.block_lt_of_cell? wr _ c2)).trans c2
        have cm : ∀ o, (wr.alloc o).drew.cell? ⟨w1.heap.size, 2, none⟩ = some (.slice av k cv) := cn
        clear hBw hB1
        go_wp2_with fail
        go_region_law (first
          | (go_simp; go_at_call 27; refine (made1_el _ seed b _ hbw).mono ?_; rintro e w' ⟨rfl, rfl⟩)
          | (refine step_append_lies _ (by rfl) _ _ _ (by rfl) (w1.heap.size + 1) 2 i0 (.int .i64 0) 1 8 Tryd.underlying33 hi hz0 hz1 hz2 rfl (by decide) (.slice av k cv) k ((els (fun k => wrap64 (seed + (k : Int))) k).map (.int .i64)) (by rfl) (hrow.drew.alloc _)
              ⟨wr.heap.size, 0, none⟩ 1 1 [.int .i64 (wrap64 (seed + k))] (by rfl) (by rfl) (one_new wr.drew (.int .i64 (wrap64 (seed + k))) 2) (by simp [Value.oneCell']) (by omega) (by simp [maxLen]; omega) (by omega) (by simp; omega) _ rfl ?_
             intro g' cap' w2 hown' hgrow hat hlt2
             have hA2 := (hgrow.block w1.heap.size (by simp; omega) (Ne.symm hne)).trans ((heap_alloc_old _ _ (show w1.heap.size < wr.drew.heap.size by show w1.heap.size < wr.heap.size; omega)).trans hA)
             have c2 : w2.cell? ⟨w1.heap.size, 2, none⟩ = some (.slice av k cv) := (by rw [Lib.cell_of_heap hA2]; rfl)
             have f2 := Lib.frozen_of_heap hA2 2))
        all_goals go_wp2
        all_goals
          refine ⟨⟨k + 1, _, by omega, by go_num, heap_set1 (i := 2) hA2 _, by rw [Hs.out]; exact ownsRow_setCell_below hown' (by simp) _, ((hB.drew.alloc hB.size _).grown hgrow (by have := hB.size; simp; omega) (fun k e => by have := (hrow.lt k e).1; omega)).setCell (Nat.le_refl _) _, by have := hgrow.size; simp at this ⊢; omega⟩, by simp [intOf]; omega⟩
      · obtain rfl : k = n := by omega
        have hel : ((els (fun k => wrap64 (seed + (k : Int))) k).map (Value.int .i64)).length = k := by simp [els_length]
        have hx5 : IsArr wr (.agg #[.int .i64 kind, .slice a1 xs.length d1, vel]) ⟨kind, xs, els (fun k => wrap64 (seed + (k : Int))) k⟩ :=
          ⟨_, _, rfl, Ints.of_owns (own_below o1 hB), Ints.of_owns (by rw [els_length]; exact hrow), fun i hi => by rw [els_length] at hi; rw [els_get _ _ _ hi]; exact hr i (by omega)⟩
        have c0 : wr.cell? ⟨w1.heap.size, 0, none⟩ = some (.int .i64 kind) := by rw [Lib.cell_of_heap hA]; rfl
        have c1 : wr.cell? ⟨w1.heap.size, 1, none⟩ = some (.slice a1 xs.length d1) := by rw [Lib.cell_of_heap hA]; rfl
        have c2 : wr.cell? ⟨w1.heap.size, 2, none⟩ = some vel := by rw [Lib.cell_of_heap hA]; rfl
        clear hB1
        obtain ⟨av, cv, rfl⟩ := own_slice hrow
        go_wp2_with fail
        refine (check_any _ ⟨kind, xs, els (fun k => wrap64 (seed + (k : Int))) k⟩ _ hx5).mono ?_
        rintro e w5 ⟨rfl, hb5⟩
        have hA5 := (hb5.block w1.heap.size (by omega)).trans hA
        have R5 := (hb5.block w.heap.size (by omega)).trans ((hB.block w.heap.size (by omega)).trans R1)
        have B5 := B1.trans ((hB.trans (hb5.mono hB.size)).mono B1.size)
        have o5 := own_below (own_below o1 hB) hb5
        have r5 := own_below hrow hb5
        obtain ⟨p0, p1, p2, -⟩ := zero_facts hA5
        obtain ⟨q0, q1, q2, q3, q4, q5⟩ := zero_facts R5
        clear hx5 c0 c1 c2 hA hrow hB hb5 hsz
        rcases chk_or ⟨kind, xs, els (fun k => wrap64 (seed + (k : Int))) k⟩ with hch | hch
        · rw [hch]
          go_wp2_with fail
          have hW := heap_set3 R5 (.int .i64 0) (.slice none 0 0) (.slice none 0 0)
          refine bodyPost_ret (results_row_tmp rfl _ _ w.heap.size _ _ _ _ rfl hW Tryd.underlying35 rfl (by kernel_rfl)) rfl ?_
          exact ⟨.inr ⟨k, Hc.out, .inl ⟨hch, rfl⟩⟩, ((B5.setCell (p := ⟨w.heap.size, 0, none⟩) (Nat.le_refl _) _).setCell (p := ⟨w.heap.size, 1, none⟩) (Nat.le_refl _) _).setCell (p := ⟨w.heap.size, 2, none⟩) (Nat.le_refl _) _⟩
        · rw [hch]
          go_wp2_with fail
          have hW := heap_set3 R5 (.int .i64 kind) (.slice a1 xs.length d1) (.slice av k cv)
          refine bodyPost_ret (results_row_tmp rfl _ _ w.heap.size _ _ _ _ rfl hW Tryd.underlying35 rfl (by kernel_rfl)) rfl ?_
          have q1 := ownsRow_setCell_below (ownsRow_setCell_below (ownsRow_setCell_below o5 (a := ⟨w.heap.size, 0, none⟩) (by simp) (.int .i64 kind)) (a := ⟨w.heap.size, 1, none⟩) (by simp) (.slice a1 xs.length d1)) (a := ⟨w.heap.size, 2, none⟩) (by simp) (.slice av k cv)
          have q2 := ownsRow_setCell_below (ownsRow_setCell_below (ownsRow_setCell_below r5 (a := ⟨w.heap.size, 0, none⟩) (by simp; omega) (.int .i64 kind)) (a := ⟨w.heap.size, 1, none⟩) (by simp; omega) (.slice a1 xs.length d1)) (a := ⟨w.heap.size, 2, none⟩) (by simp; omega) (.slice av k cv)
          exact ⟨.inr ⟨k, Hc.out, .inr ⟨hch, _, rfl, _, _, rfl, Ints.of_owns q1, Ints.of_owns (by rw [els_length]; exact q2), fun i hi => by rw [els_length] at hi; rw [els_get _ _ _ hi]; exact hr i (by omega)⟩⟩, ((B5.setCell (p := ⟨w.heap.size, 0, none⟩) (Nat.le_refl _) _).setCell (p := ⟨w.heap.size, 1, none⟩) (Nat.le_refl _) _).setCell (p := ⟨w.heap.size, 2, none⟩) (Nat.le_refl _) _⟩

set_option maxRecDepth 100000 in
theorem nameA_el (k : Int)  (w : World)  : Calls Tryd.prog 19 #[.int .i64 k] w fun e w' => e = .returned (.int .i64 (wrap64 (k + 1))) ∧ w' = w := by
  go_enter Tryd.func19, Tryd.ntmps19
  go_wp2
  go_ret
  exact ⟨rfl, rfl⟩

set_option maxRecDepth 100000 in
set_option maxHeartbeats 2000000 in
theorem nameA_make (kind : Int) (v : Value) (xs : List Int)  (w : World) (hx : Ints w v xs)  (hxl : xs.length ≤ 1000000) :
    Calls Tryd.prog 18 #[.int .i64 kind, v, .func (.func 19) #[] #[]] w fun e w' => Made w w' kind xs (fun k => wrap64 ((k : Int) + 1)) e ∧ Below w.heap.size w w' := by
  have hr : ∀ k : Nat, k ≤ 4096 → -9223372036854775808 ≤ (fun k => wrap64 ((k : Int) + 1)) k ∧ (fun k => wrap64 ((k : Int) + 1)) k ≤ 9223372036854775807 := fun k hk => by show -9223372036854775808 ≤ wrap64 _ ∧ wrap64 _ ≤ 9223372036854775807; unfold wrap64; omega
  obtain ⟨i0, hi, hz0, hz1, hz2⟩ := info_parts (show (Tryd.prog.info? 2).map (fun i => (i.zero, i.size, i.bytes)) = some (some (.int .i64 0), 1, 8) by kernel_rfl)
  have hB1 : ∀ o, Below w.heap.size w (w.alloc o) := fun o => (Below.refl _ w).alloc (Nat.le_refl _) o
  have gx := fun o => hx.below (hB1 o)
  obtain ⟨as_, cs, rfl, s1, s2, s3, -⟩ := hx.parts
  clear hx
  go_enter Tryd.func18, Tryd.ntmps18
  go_wp2_with fail
  refine (count_any _ xs _ (gx _)).mono ?_
  rintro e w0 ⟨rfl, rfl⟩
  cases hc : count xs with
  | none =>
    simp only [cRes]
    go_wp2_with fail
    have hW := heap_alloc_new w (.cells #[.int .i64 0, .slice none 0 0, .slice none 0 0] 35)
    refine bodyPost_ret (results_row_tmp rfl _ _ w.heap.size _ _ _ _ rfl hW Tryd.underlying35 rfl (by kernel_rfl)) rfl ?_
    exact ⟨.inl ⟨hc, rfl⟩, hB1 _⟩
  | some c =>
    have hc4 := count_le _ _ hc
    have hc0 := count_ge hc
    obtain ⟨n, rfl⟩ : ∃ n : Nat, c = n := ⟨c.toNat, by omega⟩
    have Hc := hid hc
    simp only [cRes]
    clear hc
    go_wp2_with fail
    refine (clone_ints _ xs _ (gx _) hxl).mono ?_
    rintro e w1 ⟨vs, rfl, o1, b1⟩
    obtain ⟨a1, d1, rfl⟩ := own_slice o1
    have R1 := (b1.block w.heap.size (by simp)).trans (heap_alloc_new _ _)
    have B1 := (hB1 _).trans (b1.mono (hB1 _).size)
    have z1 := b1.size
    simp at z1
    clear b1 gx
    go_wp2_with fail
    have hA := heap_alloc_new w1 (.cells #[.int .i64 kind, .slice a1 xs.length d1, .slice none 0 0] 35)
    have hBA := (Below.refl _ w1).alloc (Nat.le_refl _) (.cells #[.int .i64 kind, .slice a1 xs.length d1, .slice none 0 0] 35)
    have hzA : (w1.alloc (.cells #[.int .i64 kind, .slice a1 xs.length d1, .slice none 0 0] 35)).heap.size = w1.heap.size + 1 := by simp
    generalize w1.alloc (.cells #[.int .i64 kind, .slice a1 xs.length d1, .slice none 0 0] 35) = W at *
    go_loopw [27] (fun i wr => ∃ (k : Nat) (vel : Value), k ≤ n ∧ i = .int .i64 k ∧ wr.heap[w1.heap.size]? = some (.cells #[.int .i64 kind, .slice a1 xs.length d1, vel] 35) ∧
        wr.ownsRow (w1.heap.size + 1) 2 1 vel k ((els (fun k => wrap64 ((k : Int) + 1)) k).map (.int .i64)) ∧ Below w1.heap.size w1 wr ∧ w1.heap.size + 1 ≤ wr.heap.size) (fun i _ => n - (intOf i).toNat)
    case atStart => exact ⟨0, _, by omega, rfl, hA, World.ownsRow_nil _ _ _ _, hBA, by omega⟩
    case round =>
      obtain ⟨k, vel, hk, rfl, hA, hrow, hB, hsz⟩ := hrel
      by_cases hlt : k < n
      · obtain ⟨av, cv, rfl⟩ := own_slice hrow
        have hki : (k : Int) < (n : Int) := by omega
        have Hs := hid (els_succ (fun k => wrap64 ((k : Int) + 1)) k)
        have hBw := B1.trans (hB.mono B1.size)

        have hne : (Value.slice av k cv).ownBlock ≠ some w1.heap.size := fun e => by have := (hrow.lt _ e).1; omega
        have c2 : wr.cell? ⟨w1.heap.size, 2, none⟩ = some (.slice av k cv) := by rw [Lib.cell_of_heap hA]; rfl
        have cn : ∀ o, (wr.alloc o).cell? ⟨w1.heap.size, 2, none⟩ = some (.slice av k cv) := fun o => (((Below.refl _ wr).alloc (Nat.le_refl _) o).cell (p := ⟨w1.heap.size, 2, none⟩) (World.block_lt_of_cell? wr _ c2)).trans c2
        have cm : ∀ o, (wr.alloc o).drew.cell? ⟨w1.heap.size, 2, none⟩ = some (.slice av k cv) := cn
        clear hBw hB1
        go_wp2_with fail
        go_region_law (first
          | (go_simp; go_at_call 19; refine (nameA_el _  _ ).mono ?_; rintro e w' ⟨rfl, rfl⟩)
          | (refine step_append_lies _ (by rfl) _ _ _ (by rfl) (w1.heap.size + 1) 2 i0 (.int .i64 0) 1 8 Tryd.underlying33 hi hz0 hz1 hz2 rfl (by decide) (.slice av k cv) k ((els (fun k => wrap64 ((k : Int) + 1)) k).map (.int .i64)) (by rfl) (hrow.drew.alloc _)
              ⟨wr.heap.size, 0, none⟩ 1 1 [.int .i64 (wrap64 (k + 1))] (by rfl) (by rfl) (one_new wr.drew (.int .i64 (wrap64 (k + 1))) 2) (by simp [Value.oneCell']) (by omega) (by simp [maxLen]; omega) (by omega) (by simp; omega) _ rfl ?_
             intro g' cap' w2 hown' hgrow hat hlt2
             have hA2 := (hgrow.block w1.heap.size (by simp; omega) (Ne.symm hne)).trans ((heap_alloc_old _ _ (show w1.heap.size < wr.drew.heap.size by show w1.heap.size < wr.heap.size; omega)).trans hA)
             have c2 : w2.cell? ⟨w1.heap.size, 2, none⟩ = some (.slice av k cv) := (by rw [Lib.cell_of_heap hA2]; rfl)
             have f2 := Lib.frozen_of_heap hA2 2))
        all_goals go_wp2
        all_goals
          refine ⟨⟨k + 1, _, by omega, by go_num, heap_set1 (i := 2) hA2 _, by rw [Hs.out]; exact ownsRow_setCell_below hown' (by simp) _, ((hB.drew.alloc hB.size _).grown hgrow (by have := hB.size; simp; omega) (fun k e => by have := (hrow.lt k e).1; omega)).setCell (Nat.le_refl _) _, by have := hgrow.size; simp at this ⊢; omega⟩, by simp [intOf]; omega⟩
      · obtain rfl : k = n := by omega
        have hel : ((els (fun k => wrap64 ((k : Int) + 1)) k).map (Value.int .i64)).length = k := by simp [els_length]
        have hx5 : IsArr wr (.agg #[.int .i64 kind, .slice a1 xs.length d1, vel]) ⟨kind, xs, els (fun k => wrap64 ((k : Int) + 1)) k⟩ :=
          ⟨_, _, rfl, Ints.of_owns (own_below o1 hB), Ints.of_owns (by rw [els_length]; exact hrow), fun i hi => by rw [els_length] at hi; rw [els_get _ _ _ hi]; exact hr i (by omega)⟩
        have c0 : wr.cell? ⟨w1.heap.size, 0, none⟩ = some (.int .i64 kind) := by rw [Lib.cell_of_heap hA]; rfl
        have c1 : wr.cell? ⟨w1.heap.size, 1, none⟩ = some (.slice a1 xs.length d1) := by rw [Lib.cell_of_heap hA]; rfl
        have c2 : wr.cell? ⟨w1.heap.size, 2, none⟩ = some vel := by rw [Lib.cell_of_heap hA]; rfl
        clear hB1
        obtain ⟨av, cv, rfl⟩ := own_slice hrow
        go_wp2_with fail
        refine (check_any _ ⟨kind, xs, els (fun k => wrap64 ((k : Int) + 1)) k⟩ _ hx5).mono ?_
        rintro e w5 ⟨rfl, hb5⟩
        have hA5 := (hb5.block w1.heap.size (by omega)).trans hA
        have R5 := (hb5.block w.heap.size (by omega)).trans ((hB.block w.heap.size (by omega)).trans R1)
        have B5 := B1.trans ((hB.trans (hb5.mono hB.size)).mono B1.size)
        have o5 := own_below (own_below o1 hB) hb5
        have r5 := own_below hrow hb5
        obtain ⟨p0, p1, p2, -⟩ := zero_facts hA5
        obtain ⟨q0, q1, q2, q3, q4, q5⟩ := zero_facts R5
        clear hx5 c0 c1 c2 hA hrow hB hb5 hsz
        rcases chk_or ⟨kind, xs, els (fun k => wrap64 ((k : Int) + 1)) k⟩ with hch | hch
        · rw [hch]
          go_wp2_with fail
          have hW := heap_set3 R5 (.int .i64 0) (.slice none 0 0) (.slice none 0 0)
          refine bodyPost_ret (results_row_tmp rfl _ _ w.heap.size _ _ _ _ rfl hW Tryd.underlying35 rfl (by kernel_rfl)) rfl ?_
          exact ⟨.inr ⟨k, Hc.out, .inl ⟨hch, rfl⟩⟩, ((B5.setCell (p := ⟨w.heap.size, 0, none⟩) (Nat.le_refl _) _).setCell (p := ⟨w.heap.size, 1, none⟩) (Nat.le_refl _) _).setCell (p := ⟨w.heap.size, 2, none⟩) (Nat.le_refl _) _⟩
        · rw [hch]
          go_wp2_with fail
          have hW := heap_set3 R5 (.int .i64 kind) (.slice a1 xs.length d1) (.slice av k cv)
          refine bodyPost_ret (results_row_tmp rfl _ _ w.heap.size _ _ _ _ rfl hW Tryd.underlying35 rfl (by kernel_rfl)) rfl ?_
          have q1 := ownsRow_setCell_below (ownsRow_setCell_below (ownsRow_setCell_below o5 (a := ⟨w.heap.size, 0, none⟩) (by simp) (.int .i64 kind)) (a := ⟨w.heap.size, 1, none⟩) (by simp) (.slice a1 xs.length d1)) (a := ⟨w.heap.size, 2, none⟩) (by simp) (.slice av k cv)
          have q2 := ownsRow_setCell_below (ownsRow_setCell_below (ownsRow_setCell_below r5 (a := ⟨w.heap.size, 0, none⟩) (by simp; omega) (.int .i64 kind)) (a := ⟨w.heap.size, 1, none⟩) (by simp; omega) (.slice a1 xs.length d1)) (a := ⟨w.heap.size, 2, none⟩) (by simp; omega) (.slice av k cv)
          exact ⟨.inr ⟨k, Hc.out, .inr ⟨hch, _, rfl, _, _, rfl, Ints.of_owns q1, Ints.of_owns (by rw [els_length]; exact q2), fun i hi => by rw [els_length] at hi; rw [els_get _ _ _ hi]; exact hr i (by omega)⟩⟩, ((B5.setCell (p := ⟨w.heap.size, 0, none⟩) (Nat.le_refl _) _).setCell (p := ⟨w.heap.size, 1, none⟩) (Nat.le_refl _) _).setCell (p := ⟨w.heap.size, 2, none⟩) (Nat.le_refl _) _⟩

set_option maxRecDepth 100000 in
theorem nameB_el (k : Int)  (w : World)  : Calls Tryd.prog 20 #[.int .i64 k] w fun e w' => e = .returned (.int .i64 55296) ∧ w' = w := by
  go_enter Tryd.func20, Tryd.ntmps20
  go_wp2
  go_ret
  exact ⟨rfl, rfl⟩

set_option maxRecDepth 100000 in
set_option maxHeartbeats 2000000 in
theorem nameB_make (kind : Int) (v : Value) (xs : List Int)  (w : World) (hx : Ints w v xs)  (hxl : xs.length ≤ 1000000) :
    Calls Tryd.prog 18 #[.int .i64 kind, v, .func (.func 20) #[] #[]] w fun e w' => Made w w' kind xs (fun k => (55296 : Int)) e ∧ Below w.heap.size w w' := by
  have hr : ∀ k : Nat, k ≤ 4096 → -9223372036854775808 ≤ (fun k => (55296 : Int)) k ∧ (fun k => (55296 : Int)) k ≤ 9223372036854775807 := fun k hk => by show (-9223372036854775808 : Int) ≤ 55296 ∧ (55296 : Int) ≤ 9223372036854775807; omega
  obtain ⟨i0, hi, hz0, hz1, hz2⟩ := info_parts (show (Tryd.prog.info? 2).map (fun i => (i.zero, i.size, i.bytes)) = some (some (.int .i64 0), 1, 8) by kernel_rfl)
  have hB1 : ∀ o, Below w.heap.size w (w.alloc o) := fun o => (Below.refl _ w).alloc (Nat.le_refl _) o
  have gx := fun o => hx.below (hB1 o)
  obtain ⟨as_, cs, rfl, s1, s2, s3, -⟩ := hx.parts
  clear hx
  go_enter Tryd.func18, Tryd.ntmps18
  go_wp2_with fail
  refine (count_any _ xs _ (gx _)).mono ?_
  rintro e w0 ⟨rfl, rfl⟩
  cases hc : count xs with
  | none =>
    simp only [cRes]
    go_wp2_with fail
    have hW := heap_alloc_new w (.cells #[.int .i64 0, .slice none 0 0, .slice none 0 0] 35)
    refine bodyPost_ret (results_row_tmp rfl _ _ w.heap.size _ _ _ _ rfl hW Tryd.underlying35 rfl (by kernel_rfl)) rfl ?_
    exact ⟨.inl ⟨hc, rfl⟩, hB1 _⟩
  | some c =>
    have hc4 := count_le _ _ hc
    have hc0 := count_ge hc
    obtain ⟨n, rfl⟩ : ∃ n : Nat, c = n := ⟨c.toNat, by omega⟩
    have Hc := hid hc
    simp only [cRes]
    clear hc
    go_wp2_with fail
    refine (clone_ints _ xs _ (gx _) hxl).mono ?_
    rintro e w1 ⟨vs, rfl, o1, b1⟩
    obtain ⟨a1, d1, rfl⟩ := own_slice o1
    have R1 := (b1.block w.heap.size (by simp)).trans (heap_alloc_new _ _)
    have B1 := (hB1 _).trans (b1.mono (hB1 _).size)
    have z1 := b1.size
    simp at z1
    clear b1 gx
    go_wp2_with fail
    have hA := heap_alloc_new w1 (.cells #[.int .i64 kind, .slice a1 xs.length d1, .slice none 0 0] 35)
    have hBA := (Below.refl _ w1).alloc (Nat.le_refl _) (.cells #[.int .i64 kind, .slice a1 xs.length d1, .slice none 0 0] 35)
    have hzA : (w1.alloc (.cells #[.int .i64 kind, .slice a1 xs.length d1, .slice none 0 0] 35)).heap.size = w1.heap.size + 1 := by simp
    generalize w1.alloc (.cells #[.int .i64 kind, .slice a1 xs.length d1, .slice none 0 0] 35) = W at *
    go_loopw [27] (fun i wr => ∃ (k : Nat) (vel : Value), k ≤ n ∧ i = .int .i64 k ∧ wr.heap[w1.heap.size]? = some (.cells #[.int .i64 kind, .slice a1 xs.length d1, vel] 35) ∧
        wr.ownsRow (w1.heap.size + 1) 2 1 vel k ((els (fun k => (55296 : Int)) k).map (.int .i64)) ∧ Below w1.heap.size w1 wr ∧ w1.heap.size + 1 ≤ wr.heap.size) (fun i _ => n - (intOf i).toNat)
    case atStart => exact ⟨0, _, by omega, rfl, hA, World.ownsRow_nil _ _ _ _, hBA, by omega⟩
    case round =>
      obtain ⟨k, vel, hk, rfl, hA, hrow, hB, hsz⟩ := hrel
      by_cases hlt : k < n
      · obtain ⟨av, cv, rfl⟩ := own_slice hrow
        have hki : (k : Int) < (n : Int) := by omega
        have Hs := hid (els_succ (fun k => (55296 : Int)) k)
        have hBw := B1.trans (hB.mono B1.size)

        have hne : (Value.slice av k cv).ownBlock ≠ some w1.heap.size := fun e => by have := (hrow.lt _ e).1; omega
        have c2 : wr.cell? ⟨w1.heap.size, 2, none⟩ = some (.slice av k cv) := by rw [Lib.cell_of_heap hA]; rfl
        have cn : ∀ o, (wr.alloc o).cell? ⟨w1.heap.size, 2, none⟩ = some (.slice av k cv) := fun o => (((Below.refl _ wr).alloc (Nat.le_refl _) o).cell (p := ⟨w1.heap.size, 2, none⟩) (World.block_lt_of_cell? wr _ c2)).trans c2
        have cm : ∀ o, (wr.alloc o).drew.cell? ⟨w1.heap.size, 2, none⟩ = some (.slice av k cv) := cn
        clear hBw hB1
        go_wp2_with fail
        go_region_law (first
          | (go_simp; go_at_call 20; refine (nameB_el _  _ ).mono ?_; rintro e w' ⟨rfl, rfl⟩)
          | (refine step_append_lies _ (by rfl) _ _ _ (by rfl) (w1.heap.size + 1) 2 i0 (.int .i64 0) 1 8 Tryd.underlying33 hi hz0 hz1 hz2 rfl (by decide) (.slice av k cv) k ((els (fun k => (55296 : Int)) k).map (.int .i64)) (by rfl) (hrow.drew.alloc _)
              ⟨wr.heap.size, 0, none⟩ 1 1 [.int .i64 55296] (by rfl) (by rfl) (one_new wr.drew (.int .i64 55296) 2) (by simp [Value.oneCell']) (by omega) (by simp [maxLen]; omega) (by omega) (by simp; omega) _ rfl ?_
             intro g' cap' w2 hown' hgrow hat hlt2
             have hA2 := (hgrow.block w1.heap.size (by simp; omega) (Ne.symm hne)).trans ((heap_alloc_old _ _ (show w1.heap.size < wr.drew.heap.size by show w1.heap.size < wr.heap.size; omega)).trans hA)
             have c2 : w2.cell? ⟨w1.heap.size, 2, none⟩ = some (.slice av k cv) := (by rw [Lib.cell_of_heap hA2]; rfl)
             have f2 := Lib.frozen_of_heap hA2 2))
        all_goals go_wp2
        all_goals
          refine ⟨⟨k + 1, _, by omega, by go_num, heap_set1 (i := 2) hA2 _, by rw [Hs.out]; exact ownsRow_setCell_below hown' (by simp) _, ((hB.drew.alloc hB.size _).grown hgrow (by have := hB.size; simp; omega) (fun k e => by have := (hrow.lt k e).1; omega)).setCell (Nat.le_refl _) _, by have := hgrow.size; simp at this ⊢; omega⟩, by simp [intOf]; omega⟩
      · obtain rfl : k = n := by omega
        have hel : ((els (fun k => (55296 : Int)) k).map (Value.int .i64)).length = k := by simp [els_length]
        have hx5 : IsArr wr (.agg #[.int .i64 kind, .slice a1 xs.length d1, vel]) ⟨kind, xs, els (fun k => (55296 : Int)) k⟩ :=
          ⟨_, _, rfl, Ints.of_owns (own_below o1 hB), Ints.of_owns (by rw [els_length]; exact hrow), fun i hi => by rw [els_length] at hi; rw [els_get _ _ _ hi]; exact hr i (by omega)⟩
        have c0 : wr.cell? ⟨w1.heap.size, 0, none⟩ = some (.int .i64 kind) := by rw [Lib.cell_of_heap hA]; rfl
        have c1 : wr.cell? ⟨w1.heap.size, 1, none⟩ = some (.slice a1 xs.length d1) := by rw [Lib.cell_of_heap hA]; rfl
        have c2 : wr.cell? ⟨w1.heap.size, 2, none⟩ = some vel := by rw [Lib.cell_of_heap hA]; rfl
        clear hB1
        obtain ⟨av, cv, rfl⟩ := own_slice hrow
        go_wp2_with fail
        refine (check_any _ ⟨kind, xs, els (fun k => (55296 : Int)) k⟩ _ hx5).mono ?_
        rintro e w5 ⟨rfl, hb5⟩
        have hA5 := (hb5.block w1.heap.size (by omega)).trans hA
        have R5 := (hb5.block w.heap.size (by omega)).trans ((hB.block w.heap.size (by omega)).trans R1)
        have B5 := B1.trans ((hB.trans (hb5.mono hB.size)).mono B1.size)
        have o5 := own_below (own_below o1 hB) hb5
        have r5 := own_below hrow hb5
        obtain ⟨p0, p1, p2, -⟩ := zero_facts hA5
        obtain ⟨q0, q1, q2, q3, q4, q5⟩ := zero_facts R5
        clear hx5 c0 c1 c2 hA hrow hB hb5 hsz
        rcases chk_or ⟨kind, xs, els (fun k => (55296 : Int)) k⟩ with hch | hch
        · rw [hch]
          go_wp2_with fail
          have hW := heap_set3 R5 (.int .i64 0) (.slice none 0 0) (.slice none 0 0)
          refine bodyPost_ret (results_row_tmp rfl _ _ w.heap.size _ _ _ _ rfl hW Tryd.underlying35 rfl (by kernel_rfl)) rfl ?_
          exact ⟨.inr ⟨k, Hc.out, .inl ⟨hch, rfl⟩⟩, ((B5.setCell (p := ⟨w.heap.size, 0, none⟩) (Nat.le_refl _) _).setCell (p := ⟨w.heap.size, 1, none⟩) (Nat.le_refl _) _).setCell (p := ⟨w.heap.size, 2, none⟩) (Nat.le_refl _) _⟩
        · rw [hch]
          go_wp2_with fail
          have hW := heap_set3 R5 (.int .i64 kind) (.slice a1 xs.length d1) (.slice av k cv)
          refine bodyPost_ret (results_row_tmp rfl _ _ w.heap.size _ _ _ _ rfl hW Tryd.underlying35 rfl (by kernel_rfl)) rfl ?_
          have q1 := ownsRow_setCell_below (ownsRow_setCell_below (ownsRow_setCell_below o5 (a := ⟨w.heap.size, 0, none⟩) (by simp) (.int .i64 kind)) (a := ⟨w.heap.size, 1, none⟩) (by simp) (.slice a1 xs.length d1)) (a := ⟨w.heap.size, 2, none⟩) (by simp) (.slice av k cv)
          have q2 := ownsRow_setCell_below (ownsRow_setCell_below (ownsRow_setCell_below r5 (a := ⟨w.heap.size, 0, none⟩) (by simp; omega) (.int .i64 kind)) (a := ⟨w.heap.size, 1, none⟩) (by simp; omega) (.slice a1 xs.length d1)) (a := ⟨w.heap.size, 2, none⟩) (by simp; omega) (.slice av k cv)
          exact ⟨.inr ⟨k, Hc.out, .inr ⟨hch, _, rfl, _, _, rfl, Ints.of_owns q1, Ints.of_owns (by rw [els_length]; exact q2), fun i hi => by rw [els_length] at hi; rw [els_get _ _ _ hi]; exact hr i (by omega)⟩⟩, ((B5.setCell (p := ⟨w.heap.size, 0, none⟩) (Nat.le_refl _) _).setCell (p := ⟨w.heap.size, 1, none⟩) (Nat.le_refl _) _).setCell (p := ⟨w.heap.size, 2, none⟩) (Nat.le_refl _) _⟩

set_option maxRecDepth 100000 in
theorem nameC_el (k : Int)  (w : World)  : Calls Tryd.prog 21 #[.int .i64 k] w fun e w' => e = .returned (.int .i64 0) ∧ w' = w := by
  go_enter Tryd.func21, Tryd.ntmps21
  go_wp2
  go_ret
  exact ⟨rfl, rfl⟩

set_option maxRecDepth 100000 in
set_option maxHeartbeats 2000000 in
theorem nameC_make (kind : Int) (v : Value) (xs : List Int)  (w : World) (hx : Ints w v xs)  (hxl : xs.length ≤ 1000000) :
    Calls Tryd.prog 18 #[.int .i64 kind, v, .func (.func 21) #[] #[]] w fun e w' => Made w w' kind xs (fun k => (0 : Int)) e ∧ Below w.heap.size w w' := by
  have hr : ∀ k : Nat, k ≤ 4096 → -9223372036854775808 ≤ (fun k => (0 : Int)) k ∧ (fun k => (0 : Int)) k ≤ 9223372036854775807 := fun k hk => by show (-9223372036854775808 : Int) ≤ 0 ∧ (0 : Int) ≤ 9223372036854775807; omega
  obtain ⟨i0, hi, hz0, hz1, hz2⟩ := info_parts (show (Tryd.prog.info? 2).map (fun i => (i.zero, i.size, i.bytes)) = some (some (.int .i64 0), 1, 8) by kernel_rfl)
  have hB1 : ∀ o, Below w.heap.size w (w.alloc o) := fun o => (Below.refl _ w).alloc (Nat.le_refl _) o
  have gx := fun o => hx.below (hB1 o)
  obtain ⟨as_, cs, rfl, s1, s2, s3, -⟩ := hx.parts
  clear hx
  go_enter Tryd.func18, Tryd.ntmps18
  go_wp2_with fail
  refine (count_any _ xs _ (gx _)).mono ?_
  rintro e w0 ⟨rfl, rfl⟩
  cases hc : count xs with
  | none =>
    simp only [cRes]
    go_wp2_with fail
    have hW := heap_alloc_new w (.cells #[.int .i64 0, .slice none 0 0, .slice none 0 0] 35)
    refine bodyPost_ret (results_row_tmp rfl _ _ w.heap.size _ _ _ _ rfl hW Tryd.underlying35 rfl (by kernel_rfl)) rfl ?_
    exact ⟨.inl ⟨hc, rfl⟩, hB1 _⟩
  | some c =>
    have hc4 := count_le _ _ hc
    have hc0 := count_ge hc
    obtain ⟨n, rfl⟩ : ∃ n : Nat, c = n := ⟨c.toNat, by omega⟩
    have Hc := hid hc
    simp only [cRes]
    clear hc
    go_wp2_with fail
    refine (clone_ints _ xs _ (gx _) hxl).mono ?_
    rintro e w1 ⟨vs, rfl, o1, b1⟩
    obtain ⟨a1, d1, rfl⟩ := own_slice o1
    have R1 := (b1.block w.heap.size (by simp)).trans (heap_alloc_new _ _)
    have B1 := (hB1 _).trans (b1.mono (hB1 _).size)
    have z1 := b1.size
    simp at z1
    clear b1 gx
    go_wp2_with fail
    have hA := heap_alloc_new w1 (.cells #[.int .i64 kind, .slice a1 xs.length d1, .slice none 0 0] 35)
    have hBA := (Below.refl _ w1).alloc (Nat.le_refl _) (.cells #[.int .i64 kind, .slice a1 xs.length d1, .slice none 0 0] 35)
    have hzA : (w1.alloc (.cells #[.int .i64 kind, .slice a1 xs.length d1, .slice none 0 0] 35)).heap.size = w1.heap.size + 1 := by simp
    generalize w1.alloc (.cells #[.int .i64 kind, .slice a1 xs.length d1, .slice none 0 0] 35) = W at *
    go_loopw [27] (fun i wr => ∃ (k : Nat) (vel : Value), k ≤ n ∧ i = .int .i64 k ∧ wr.heap[w1.heap.size]? = some (.cells #[.int .i64 kind, .slice a1 xs.length d1, vel] 35) ∧
        wr.ownsRow (w1.heap.size + 1) 2 1 vel k ((els (fun k => (0 : Int)) k).map (.int .i64)) ∧ Below w1.heap.size w1 wr ∧ w1.heap.size + 1 ≤ wr.heap.size) (fun i _ => n - (intOf i).toNat)
    case atStart => exact ⟨0, _, by omega, rfl, hA, World.ownsRow_nil _ _ _ _, hBA, by omega⟩
    case round =>
      obtain ⟨k, vel, hk, rfl, hA, hrow, hB, hsz⟩ := hrel
      by_cases hlt : k < n
      · obtain ⟨av, cv, rfl⟩ := own_slice hrow
        have hki : (k : Int) < (n : Int) := by omega
        have Hs := hid (els_succ (fun k => (0 : Int)) k)
        have hBw := B1.trans (hB.mono B1.size)

        have hne : (Value.slice av k cv).ownBlock ≠ some w1.heap.size := fun e => by have := (hrow.lt _ e).1; omega
        have c2 : wr.cell? ⟨w1.heap.size, 2, none⟩ = some (.slice av k cv) := by rw [Lib.cell_of_heap hA]; rfl
        have cn : ∀ o, (wr.alloc o).cell? ⟨w1.heap.size, 2, none⟩ = some (.slice av k cv) := fun o => (((Below.refl _ wr).alloc (Nat.le_refl _) o).cell (p := ⟨w1.heap.size, 2, none⟩) (World.block_lt_of_cell? wr _ c2)).trans c2
        have cm : ∀ o, (wr.alloc o).drew.cell? ⟨w1.heap.size, 2, none⟩ = some (.slice av k cv) := cn
        clear hBw hB1
        go_wp2_with fail
        go_region_law (first
          | (go_simp; go_at_call 21; refine (nameC_el _  _ ).mono ?_; rintro e w' ⟨rfl, rfl⟩)
          | (refine step_append_lies _ (by rfl) _ _ _ (by rfl) (w1.heap.size + 1) 2 i0 (.int .i64 0) 1 8 Tryd.underlying33 hi hz0 hz1 hz2 rfl (by decide) (.slice av k cv) k ((els (fun k => (0 : Int)) k).map (.int .i64)) (by rfl) (hrow.drew.alloc _)
              ⟨wr.heap.size, 0, none⟩ 1 1 [.int .i64 0] (by rfl) (by rfl) (one_new wr.drew (.int .i64 0) 2) (by simp [Value.oneCell']) (by omega) (by simp [maxLen]; omega) (by omega) (by simp; omega) _ rfl ?_
             intro g' cap' w2 hown' hgrow hat hlt2
             have hA2 := (hgrow.block w1.heap.size (by simp; omega) (Ne.symm hne)).trans ((heap_alloc_old _ _ (show w1.heap.size < wr.drew.heap.size by show w1.heap.size < wr.heap.size; omega)).trans hA)
             have c2 : w2.cell? ⟨w1.heap.size, 2, none⟩ = some (.slice av k cv) := (by rw [Lib.cell_of_heap hA2]; rfl)
             have f2 := Lib.frozen_of_heap hA2 2))
        all_goals go_wp2
        all_goals
          refine ⟨⟨k + 1, _, by omega, by go_num, heap_set1 (i := 2) hA2 _, by rw [Hs.out]; exact ownsRow_setCell_below hown' (by simp) _, ((hB.drew.alloc hB.size _).grown hgrow (by have := hB.size; simp; omega) (fun k e => by have := (hrow.lt k e).1; omega)).setCell (Nat.le_refl _) _, by have := hgrow.size; simp at this ⊢; omega⟩, by simp [intOf]; omega⟩
      · obtain rfl : k = n := by omega
        have hel : ((els (fun k => (0 : Int)) k).map (Value.int .i64)).length = k := by simp [els_length]
        have hx5 : IsArr wr (.agg #[.int .i64 kind, .slice a1 xs.length d1, vel]) ⟨kind, xs, els (fun k => (0 : Int)) k⟩ :=
          ⟨_, _, rfl, Ints.of_owns (own_below o1 hB), Ints.of_owns (by rw [els_length]; exact hrow), fun i hi => by rw [els_length] at hi; rw [els_get _ _ _ hi]; exact hr i (by omega)⟩
        have c0 : wr.cell? ⟨w1.heap.size, 0, none⟩ = some (.int .i64 kind) := by rw [Lib.cell_of_heap hA]; rfl
        have c1 : wr.cell? ⟨w1.heap.size, 1, none⟩ = some (.slice a1 xs.length d1) := by rw [Lib.cell_of_heap hA]; rfl
        have c2 : wr.cell? ⟨w1.heap.size, 2, none⟩ = some vel := by rw [Lib.cell_of_heap hA]; rfl
        clear hB1
        obtain ⟨av, cv, rfl⟩ := own_slice hrow
        go_wp2_with fail
        refine (check_any _ ⟨kind, xs, els (fun k => (0 : Int)) k⟩ _ hx5).mono ?_
        rintro e w5 ⟨rfl, hb5⟩
        have hA5 := (hb5.block w1.heap.size (by omega)).trans hA
        have R5 := (hb5.block w.heap.size (by omega)).trans ((hB.block w.heap.size (by omega)).trans R1)
        have B5 := B1.trans ((hB.trans (hb5.mono hB.size)).mono B1.size)
        have o5 := own_below (own_below o1 hB) hb5
        have r5 := own_below hrow hb5
        obtain ⟨p0, p1, p2, -⟩ := zero_facts hA5
        obtain ⟨q0, q1, q2, q3, q4, q5⟩ := zero_facts R5
        clear hx5 c0 c1 c2 hA hrow hB hb5 hsz
        rcases chk_or ⟨kind, xs, els (fun k => (0 : Int)) k⟩ with hch | hch
        · rw [hch]
          go_wp2_with fail
          have hW := heap_set3 R5 (.int .i64 0) (.slice none 0 0) (.slice none 0 0)
          refine bodyPost_ret (results_row_tmp rfl _ _ w.heap.size _ _ _ _ rfl hW Tryd.underlying35 rfl (by kernel_rfl)) rfl ?_
          exact ⟨.inr ⟨k, Hc.out, .inl ⟨hch, rfl⟩⟩, ((B5.setCell (p := ⟨w.heap.size, 0, none⟩) (Nat.le_refl _) _).setCell (p := ⟨w.heap.size, 1, none⟩) (Nat.le_refl _) _).setCell (p := ⟨w.heap.size, 2, none⟩) (Nat.le_refl _) _⟩
        · rw [hch]
          go_wp2_with fail
          have hW := heap_set3 R5 (.int .i64 kind) (.slice a1 xs.length d1) (.slice av k cv)
          refine bodyPost_ret (results_row_tmp rfl _ _ w.heap.size _ _ _ _ rfl hW Tryd.underlying35 rfl (by kernel_rfl)) rfl ?_
          have q1 := ownsRow_setCell_below (ownsRow_setCell_below (ownsRow_setCell_below o5 (a := ⟨w.heap.size, 0, none⟩) (by simp) (.int .i64 kind)) (a := ⟨w.heap.size, 1, none⟩) (by simp) (.slice a1 xs.length d1)) (a := ⟨w.heap.size, 2, none⟩) (by simp) (.slice av k cv)
          have q2 := ownsRow_setCell_below (ownsRow_setCell_below (ownsRow_setCell_below r5 (a := ⟨w.heap.size, 0, none⟩) (by simp; omega) (.int .i64 kind)) (a := ⟨w.heap.size, 1, none⟩) (by simp; omega) (.slice a1 xs.length d1)) (a := ⟨w.heap.size, 2, none⟩) (by simp; omega) (.slice av k cv)
          exact ⟨.inr ⟨k, Hc.out, .inr ⟨hch, _, rfl, _, _, rfl, Ints.of_owns q1, Ints.of_owns (by rw [els_length]; exact q2), fun i hi => by rw [els_length] at hi; rw [els_get _ _ _ hi]; exact hr i (by omega)⟩⟩, ((B5.setCell (p := ⟨w.heap.size, 0, none⟩) (Nat.le_refl _) _).setCell (p := ⟨w.heap.size, 1, none⟩) (Nat.le_refl _) _).setCell (p := ⟨w.heap.size, 2, none⟩) (Nat.le_refl _) _⟩

end Go.Proofs.YtjapijkgjgfcnaaDoor
