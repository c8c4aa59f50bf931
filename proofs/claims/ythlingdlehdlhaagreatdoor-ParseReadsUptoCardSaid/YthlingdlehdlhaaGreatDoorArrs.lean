/- alive: the chapter's first examples; text, Scalar, Vector.
   array.Copy, with slices.Clone of ints.
   array.Make, at each function that the laws hand to it.
   array.Same, with slices.Equal at both kinds of slices; the reference's Great. -/
import Derived.Test.YthlingdlehdlhaaGreatDoorTextA
import Derived.Test.YthlingdlehdlhaaGreatDoorCnt
import Derived.Deep.RegionHeld3
import Derived.Deep.AppendLies
import Derived.Deep.Onto
import Derived.Deep.RegionLaw
import Derived.Test.YthlingdlehdlhaaGreatDoorArrB
namespace Go.Proofs.YthlingdlehdlhaaGreatDoor
open Go.RowKit Go.Shelf
set_option linter.unusedVariables false

theorem ints_one {w : World} {b : Nat} {n : Int} (h : w.cell? ⟨b, 0, none⟩ = some (.int .i64 n)) : Ints w (.slice (some ⟨b, 0, none⟩) 1 1) [n] := by
  refine ⟨some ⟨b, 0, none⟩, 1, rfl, by simp, by omega, by simp, fun i hi => ⟨b, 0, rfl, ?_⟩⟩
  obtain rfl : i = 0 := by simpa using hi
  simpa using h

set_option maxRecDepth 100000 in
/-- slices.Clone of int64s. -/
theorem clone64_any (v : Value) (xs : List Int) (w : World) (hx : Ints w v xs) (hl : xs.length ≤ 8000000) :
    Calls Tryz.prog 150 #[v] w fun e w' => ∃ v', e = .returned v' ∧ w'.ownsRow w.heap.size 2 1 v' xs.length (xs.map (.int .i64)) ∧ Below w.heap.size w w' := by
  obtain ⟨a, cap, rfl, h1, h2, h3, hc⟩ := hx.parts
  cases a with
  | none =>
    have : xs = [] := List.eq_nil_of_length_eq_zero (by have := h3 rfl; omega)
    subst this
    refine (Tryz.slices_Clone_nil_f150 0 cap w).mono ?_
    rintro e w' ⟨rfl, rfl⟩
    exact ⟨_, rfl, World.ownsRow_nil _ _ _ _, Below.refl _ _⟩
  | some ad =>
    have hinfo : (Tryz.prog.info? 2).map (fun i => (i.zero, i.size, i.bytes)) = some (some (.int .i64 0), 1, 8) := by kernel_rfl
    obtain ⟨i0, hi, hz0, hz1, hz2⟩ := info_parts hinfo
    rcases hc with h0 | ⟨b, o, e, hc⟩
    · subst h0
      have q22 : ∀ (w : World) (a : Option Addr) (n c n' c' : Nat), (binOp .eql 28 (.slice a n c) (.slice none n' c')).run Tryz.prog w = .ok (.bool a.isNone) w := fun w a n c n' c' => Lib.run_eql_slice_nil w _ _ a n c n' c' Tryz.underlying28
      go_enter Tryz.func150, Tryz.ntmps150
      go_wp2_with (at_builtin; refine wpList_append_own _ rfl _ _ 28 rfl w.heap.size 2 i0 (.int .i64 0) 1 8 Tryz.underlying28 hi hz0 hz1 hz2 rfl (by decide) _ _ _ rfl (World.ownsRow_made w #[] 0 (Nat.le_refl _) (Nat.zero_le _) rfl) ad 0 cap [] rfl rfl (by intro j u hj; simp at hj) (by intro u hu; cases hu) (by unfold maxLen; omega) (by omega) (by simp) ?_)
      intro v' w1 hown hgrow hnil
      go_wp2
      go_ret
      exact ⟨v', rfl, by simpa using hown, ((Below.refl _ w).alloc (Nat.le_refl _) _).grown hgrow (by simp) (by intro k hk; simp [Value.ownBlock] at hk; omega)⟩
    obtain rfl : ad = ⟨b, o, none⟩ := by simpa using e
    refine (Tryz.slices_Clone_f150 i0 (.int .i64 0) 1 8 hi hz0 hz1 hz2 rfl (by decide) Tryz.sizeOf2 b o xs.length cap (xs.map (.int .i64)) w (by simp) (by simp [maxLen]; omega) (by omega) (fun j u hj => by
      obtain ⟨hj', rfl⟩ := List.getElem?_eq_some_iff.1 hj
      have hj2 : j < xs.length := by simpa using hj'
      have := hc j hj2
      rw [List.getElem?_eq_getElem hj2, Option.getD_some] at this
      rw [List.getElem_map]; exact this) (by
      intro u hu; obtain ⟨n, _, rfl⟩ := List.mem_map.1 hu; rfl)).mono ?_
    rintro e w' ⟨v', rfl, h, -, hb⟩
    exact ⟨v', rfl, h, hb⟩

theorem heap_set1 {w : World} {b i : Nat} {cs : Array Value} {T : TypeId} {fr : Nat × Nat} (hb : w.heap[b]? = some (.cells cs T fr)) (v : Value) :
    (w.setCell ⟨b, i, none⟩ v).heap[b]? = some (.cells (cs.setIfInBounds i v) T fr) := by
  simp [World.setCell, Array.getElem?_modify, hb]
theorem cell_far (w : World) (p a : Addr) (v : Value) (h : a.block ≠ p.block) : (w.setCell p v).cell? a = w.cell? a :=
  World.cell?_of_block (Below.heap_setCell w p v a.block h)

theorem heap_set3 {w : World} {b : Nat} {t : TypeId} {u0 u1 u2 : Value} (h : w.heap[b]? = some (.cells #[u0, u1, u2] t)) (a0 a1 a2 : Value) :
    (((w.setCell ⟨b, 0, none⟩ a0).setCell ⟨b, 1, none⟩ a1).setCell ⟨b, 2, none⟩ a2).heap[b]? = some (.cells #[a0, a1, a2] t) :=
  heap_set1 (i := 2) (heap_set1 (i := 1) (heap_set1 (i := 0) h a0) a1) a2

end Go.Proofs.YthlingdlehdlhaaGreatDoor

namespace Go.Proofs.YthlingdlehdlhaaGreatDoor
open Go.RowKit Go.Shelf
set_option linter.unusedVariables false

set_option maxRecDepth 100000 in
/-- slices.Clone of ints. -/
theorem clone_ints (v : Value) (xs : List Int) (w : World) (hx : Ints w v xs) (hl : xs.length ≤ 8000000) :
    Calls Tryz.prog 149 #[v] w fun e w' => ∃ v', e = .returned v' ∧ w'.ownsRow w.heap.size 3 1 v' xs.length (xs.map (.int .i64)) ∧ Below w.heap.size w w' := by
  obtain ⟨a, cap, rfl, h1, h2, h3, hc⟩ := hx.parts
  cases a with
  | none =>
    have : xs = [] := List.eq_nil_of_length_eq_zero (by have := h3 rfl; omega)
    subst this
    refine (Tryz.slices_Clone_nil_f149 0 cap w).mono ?_
    rintro e w' ⟨rfl, rfl⟩
    exact ⟨_, rfl, World.ownsRow_nil _ _ _ _, Below.refl _ _⟩
  | some ad =>
    have hinfo : (Tryz.prog.info? 3).map (fun i => (i.zero, i.size, i.bytes)) = some (some (.int .i64 0), 1, 8) := by kernel_rfl
    obtain ⟨i0, hi, hz0, hz1, hz2⟩ := info_parts hinfo
    rcases hc with h0 | ⟨b, o, e, hc⟩
    · subst h0
      have q22 : ∀ (w : World) (a : Option Addr) (n c n' c' : Nat), (binOp .eql 27 (.slice a n c) (.slice none n' c')).run Tryz.prog w = .ok (.bool a.isNone) w := fun w a n c n' c' => Lib.run_eql_slice_nil w _ _ a n c n' c' Tryz.underlying27
      go_enter Tryz.func149, Tryz.ntmps149
      go_wp2_with (at_builtin; refine wpList_append_own _ rfl _ _ 27 rfl w.heap.size 3 i0 (.int .i64 0) 1 8 Tryz.underlying27 hi hz0 hz1 hz2 rfl (by decide) _ _ _ rfl (World.ownsRow_made w #[] 0 (Nat.le_refl _) (Nat.zero_le _) rfl) ad 0 cap [] rfl rfl (by intro j u hj; simp at hj) (by intro u hu; cases hu) (by unfold maxLen; omega) (by omega) (by simp) ?_)
      intro v' w1 hown hgrow hnil
      go_wp2
      go_ret
      exact ⟨v', rfl, by simpa using hown, ((Below.refl _ w).alloc (Nat.le_refl _) _).grown hgrow (by simp) (by intro k hk; simp [Value.ownBlock] at hk; omega)⟩
    obtain rfl : ad = ⟨b, o, none⟩ := by simpa using e
    refine (Tryz.slices_Clone_f149 i0 (.int .i64 0) 1 8 hi hz0 hz1 hz2 rfl (by decide) Tryz.sizeOf3 b o xs.length cap (xs.map (.int .i64)) w (by simp) (by simp [maxLen]; omega) (by omega) (fun j u hj => by
      obtain ⟨hj', rfl⟩ := List.getElem?_eq_some_iff.1 hj
      have hj2 : j < xs.length := by simpa using hj'
      have := hc j hj2
      rw [List.getElem?_eq_getElem hj2, Option.getD_some] at this
      rw [List.getElem_map]; exact this) (by
      intro u hu; obtain ⟨n, _, rfl⟩ := List.mem_map.1 hu; rfl)).mono ?_
    rintro e w' ⟨v', rfl, h, -, hb⟩
    exact ⟨v', rfl, h, hb⟩

theorem box_keep {w' w'' : World} {b : Nat} {v0 v1 v2 : Value} (h : Box3 w' b v0 v1 v2) (hb : Below w'.heap.size w' w'') : Box3 w'' b v0 v1 v2 := h.below hb (World.block_lt_of_cell? w' _ h.1)

theorem own_below {B : Nat} {e : TypeId} {k : Nat} {v : Value} {n : Nat} {xs : List Value} {w w' : World} (h : w.ownsRow B e k v n xs) (hb : Below w.heap.size w w') : w'.ownsRow B e k v n xs :=
  h.kept (row := none) ⟨hb.os, hb.tape, hb.output, hb.size, fun j hj _ => hb.block j hj⟩ (by cases hv : v.ownBlock <;> simp)

theorem own_slice {w : World} {base size n : Nat} {e : TypeId} {v : Value} {xs : List Value} (h : w.ownsRow base e size v n xs) : ∃ a c, v = .slice a n c := by
  rcases h.2 with ⟨hv, h0⟩ | ⟨g, cap, cur, hv, _⟩
  · exact ⟨none, 0, by rw [hv, h0]⟩
  · exact ⟨_, _, hv⟩

theorem zero_facts {w' : World} {R : Nat} {u0 u1 u2 : Value} {T : TypeId} (z : w'.heap[R]? = some (.cells #[u0, u1, u2] T)) :
    w'.cell? ⟨R, 0, none⟩ = some u0 ∧ w'.cell? ⟨R, 1, none⟩ = some u1 ∧ w'.cell? ⟨R, 2, none⟩ = some u2 ∧
      w'.frozen? ⟨R, 0, none⟩ = false ∧ w'.frozen? ⟨R, 1, none⟩ = false ∧ w'.frozen? ⟨R, 2, none⟩ = false :=
  ⟨by rw [Lib.cell_of_heap z]; rfl, by rw [Lib.cell_of_heap z]; rfl, by rw [Lib.cell_of_heap z]; rfl, Lib.frozen_of_heap z 0, Lib.frozen_of_heap z 1, Lib.frozen_of_heap z 2⟩
theorem box_set {w' : World} {b R : Nat} {v0 v1 v2 u0 u1 u2 : Value} (h : Box3 w' b v0 v1 v2) (hne : b ≠ R) :
    Box3 (((w'.setCell ⟨R, 0, none⟩ u0).setCell ⟨R, 1, none⟩ u1).setCell ⟨R, 2, none⟩ u2) b v0 v1 v2 :=
  ⟨by rw [cell_far _ _ _ _ hne, cell_far _ _ _ _ hne, cell_far _ _ _ _ hne]; exact h.1, by rw [cell_far _ _ _ _ hne, cell_far _ _ _ _ hne, cell_far _ _ _ _ hne]; exact h.2.1,
   by rw [cell_far _ _ _ _ hne, cell_far _ _ _ _ hne, cell_far _ _ _ _ hne]; exact h.2.2⟩

/-- What is answered of a copy: both slices own their rows, the elements' behind the shape's. -/
def Copied (w w' : World) (v : Value) (x : Arr) : Prop :=
  ∃ vs ve m, v = .agg #[.int .i64 x.kind, vs, ve] ∧ w.heap.size ≤ m ∧ w'.ownsRow w.heap.size 3 1 vs x.shape.length (x.shape.map (.int .i64)) ∧ (∀ k, vs.ownBlock = some k → k < m) ∧
    w'.ownsRow m 2 1 ve x.elems.length (x.elems.map (.int .i64))

set_option maxRecDepth 100000 in
set_option maxHeartbeats 1000000 in
theorem copy_any (v : Value) (x : Arr) (w : World) (hx : IsArr w v x) (hs4 : x.shape.length ≤ 8000000) (he4 : x.elems.length ≤ 8000000) :
    Calls Tryz.prog 120 #[v] w fun e w' => ∃ v', e = .returned v' ∧ Copied w w' v' x ∧ Below w.heap.size w w' := by
  have hB2 : ∀ o o', Below w.heap.size w ((w.alloc o).alloc o') := fun o o' => ((Below.refl _ w).alloc (Nat.le_refl _) o).alloc (by simp) o'
  obtain ⟨vs, ve, rfl, hs, he, -⟩ := hx
  have gs := fun o o' => hs.below (hB2 o o')
  have ge := fun o o' => he.below (hB2 o o')
  obtain ⟨as_, cs, rfl, s1, s2, s3, -⟩ := hs.parts
  obtain ⟨ae, ce, rfl, e1, e2, e3, -⟩ := he.parts
  clear hs he
  go_enter Tryz.func120, Tryz.ntmps120
  go_wp2_with fail
  go_region_held3 (fun w' => w'.cell? ⟨w.heap.size, 0, none⟩ = some (.int .i64 x.kind) ∧ w'.cell? ⟨w.heap.size, 1, none⟩ = some (.slice as_ x.shape.length cs) ∧ w'.cell? ⟨w.heap.size, 2, none⟩ = some (.slice ae x.elems.length ce))
    (first | exact box_set x2 (by omega) | exact x2 | exact x1 | exact ⟨by go_simp, by go_simp, by go_simp⟩ | fail)
    (first
      | (go_at_call 149; refine (clone_ints _ x.shape _ ((gs _ _).below (below_drewN (Below.refl _ _) _)) hs4).mono ?_; rintro e w1 ⟨u1, rfl, o1, b1⟩; obtain ⟨a1, d1, rfl⟩ := own_slice o1; have x1 := box_keep (b := w.heap.size) (v0 := .int .i64 x.kind) (v1 := .slice as_ x.shape.length cs) (v2 := .slice ae x.elems.length ce) ⟨by go_simp, by go_simp, by go_simp⟩ b1; have z1 := (b1.block (w.heap.size + 1) (by simp)).trans (heap_alloc2_new _ _ _))
      | (go_at_call 150; refine (clone64_any _ x.elems _ (((ge _ _).below (below_drewN (Below.refl _ _) _)).below b1) he4).mono ?_; rintro e w2 ⟨u2, rfl, o2, b2⟩; obtain ⟨a2, d2, rfl⟩ := own_slice o2; have x2 := box_keep x1 b2; have z2 := (b2.block (w.heap.size + 1) (by have := b1.size; simp at this; omega)).trans z1; obtain ⟨k0, k1, k2, k3, k4, k5⟩ := zero_facts z2))
  go_wp2
  have hs1 := b1.size
  have hs2 := b2.size
  simp at hs1
  have hW := heap_set3 z2 (.int .i64 x.kind) (.slice a1 x.shape.length d1) (.slice a2 x.elems.length d2)
  have q1 := ownsRow_setCell_below (ownsRow_setCell_below (ownsRow_setCell_below (own_below o1 b2) (a := ⟨w.heap.size + 1, 0, none⟩) (by simp) (.int .i64 x.kind)) (a := ⟨w.heap.size + 1, 1, none⟩) (by simp) (.slice a1 x.shape.length d1)) (a := ⟨w.heap.size + 1, 2, none⟩) (by simp) (.slice a2 x.elems.length d2)
  have q2 := ownsRow_setCell_below (ownsRow_setCell_below (ownsRow_setCell_below o2 (a := ⟨w.heap.size + 1, 0, none⟩) (by simp; omega) (.int .i64 x.kind)) (a := ⟨w.heap.size + 1, 1, none⟩) (by simp; omega) (.slice a1 x.shape.length d1)) (a := ⟨w.heap.size + 1, 2, none⟩) (by simp; omega) (.slice a2 x.elems.length d2)
  have bw := (below_drewN (hB2 _ _) 1).trans ((b1.trans (b2.mono b1.size)).mono (by simp; omega))
  have qb := ((bw.setCell (p := ⟨w.heap.size + 1, 0, none⟩) (by simp) (.int .i64 x.kind)).setCell (p := ⟨w.heap.size + 1, 1, none⟩) (by simp) (.slice a1 x.shape.length d1)).setCell (p := ⟨w.heap.size + 1, 2, none⟩) (by simp) (.slice a2 x.elems.length d2)
  refine bodyPost_ret (results_cell_row rfl _ _ (w.heap.size + 1) _ _ _ _ rfl hW Tryz.underlying30 rfl (by kernel_rfl)) rfl ?_
  exact ⟨_, rfl, ⟨_, _, w1.heap.size, rfl, by omega, q1.mono (by simp; omega), fun k hk => (o1.lt k hk).2, q2⟩, qb⟩
end Go.Proofs.YthlingdlehdlhaaGreatDoor

namespace Go.Proofs.YthlingdlehdlhaaGreatDoor
open Go.RowKit Go.Shelf
set_option linter.unusedVariables false

theorem results_row_tmp {P : Program} {fn : Func} {p u : Tmp} {ty : TypeId} (h : fn.results = #[.cell p ty, .tmp u]) (tmps : Array Value) (w : World) (g : Nat) (t : TypeId) (cs : Array Value) (fr : Nat × Nat) (d : TypeDesc)
    (hp : tmps.getD p undef = .pointer (some ⟨g, 0, none⟩)) (hg : w.heap[g]? = some (.cells cs t fr))
    (hu : P.underlying ty = some d) (hd : (match d with | .struct _ | .array _ _ => true | _ => false) = true) (hi : (P.info? ty).map (·.size) = some cs.size) :
    (results fn tmps).run P w = .ok (.tuple #[.agg cs, tmps.getD u undef]) w := by
  rw [results_cell_tmp h, hp]
  simp [asAddr, Result.andThen, run_loadVar_row w g t ty cs fr d hg hu hd hi]

end Go.Proofs.YthlingdlehdlhaaGreatDoor

namespace Go.Proofs.YthlingdlehdlhaaGreatDoor
open Go.RowKit
set_option linter.unusedVariables false

set_option maxHeartbeats 400000 in
theorem equal_ints (va vb : Value) (xs ys : List Int) (w : World) (hx : Ints w va xs) (hy : Ints w vb ys) :
    Calls Tryz.prog 95 #[va, vb] w fun e w' => e = .returned (.bool (decide (xs = ys))) ∧ Quiet w w' := by
  obtain ⟨a, cap, rfl, h1, h2, h3, hc⟩ := hx.parts
  obtain ⟨a', cap', rfl, h1', h2', h3', hc'⟩ := hy.parts
  clear hx hy
  by_cases hlen : xs.length = ys.length
  · have hb : ((xs.length : Int) != (ys.length : Int)) = false := by simp [hlen]
    have hlen' : ¬ xs.length < ys.length := by omega
    have hlen2 : ¬ ys.length < xs.length := by omega
    clear hlen
    go_enter Tryz.func95, Tryz.ntmps95
    go_wp2
    go_loopw [13] (fun i wr => ∃ k : Nat, k ≤ xs.length ∧ i = .int .i64 k ∧ xs.take k = ys.take k ∧ Quiet w wr) (fun i _ => xs.length - (intOf i).toNat)
    case atStart => exact ⟨0, by omega, rfl, by simp, Quiet.refl _⟩
    case round =>
      obtain ⟨k, hk, rfl, ht, ⟨nq0, rfl⟩⟩ := hrel
      by_cases hlt : k < xs.length
      · rcases hc with rfl | ⟨b, o, rfl, hc⟩
        · simp at hlt
        rcases hc' with rfl | ⟨b', o', rfl, hc'⟩
        · simp only [List.length_nil] at hlen2; omega
        have hcell := hc k hlt
        have hcell' := hc' k (by omega)
        have t1 := take_succ_getD xs k hlt
        have t2 := take_succ_getD ys k (by omega)
        generalize xs[k]?.getD 0 = l at hcell t1
        generalize ys[k]?.getD 0 = l' at hcell' t2
        have hki : (k : Int) < (xs.length : Int) := by omega
        have hki' : (k : Int) < (ys.length : Int) := by omega
        by_cases he : l = l'
        · have hb2 : (l != l') = false := by simp [he]
          have H : Hid (xs.take (k + 1) = ys.take (k + 1)) := hid (by rw [t1, t2, ht, he])
          clear t1 t2 he ht hc hc'
          go_wp2
          go_quiet (fail)
          go_wp2
          go_roundw
          case rel => exact ⟨k + 1, by omega, by go_num, H.out, ⟨_, rfl⟩⟩
          case measure => simp [intOf]; omega
        · have hb2 : (l != l') = true := by simp [he]
          have H : Hid (xs ≠ ys) := hid (by rintro rfl; exact he (by simpa using t1.symm.trans t2))
          clear t1 t2 he ht hc hc'
          go_wp2
          go_quiet (fail)
          go_wp2
          go_ret
          exact ⟨by rw [decide_eq_false H.out]; rfl, (Quiet.mk _ _).trans (Quiet.mk _ _)⟩
      · have H : Hid (xs = ys) := hid (by rw [List.take_of_length_le (by omega), List.take_of_length_le (by omega)] at ht; exact ht)
        clear ht hc hc'
        go_wp2
        go_ret
        exact ⟨by rw [decide_eq_true H.out]; rfl, ⟨_, rfl⟩⟩
  · have hb : ((xs.length : Int) != (ys.length : Int)) = true := by rw [bne_iff_ne]; omega
    have H : Hid (xs ≠ ys) := hid (fun e => hlen (by rw [e]))
    clear hlen hc hc'
    go_enter Tryz.func95, Tryz.ntmps95
    go_wp2
    go_ret
    exact ⟨by rw [decide_eq_false H.out]; rfl, Quiet.refl _⟩

set_option maxHeartbeats 400000 in
theorem equal_longs (va vb : Value) (xs ys : List Int) (w : World) (hx : Ints w va xs) (hy : Ints w vb ys) :
    Calls Tryz.prog 96 #[va, vb] w fun e w' => e = .returned (.bool (decide (xs = ys))) ∧ Quiet w w' := by
  obtain ⟨a, cap, rfl, h1, h2, h3, hc⟩ := hx.parts
  obtain ⟨a', cap', rfl, h1', h2', h3', hc'⟩ := hy.parts
  clear hx hy
  by_cases hlen : xs.length = ys.length
  · have hb : ((xs.length : Int) != (ys.length : Int)) = false := by simp [hlen]
    have hlen' : ¬ xs.length < ys.length := by omega
    have hlen2 : ¬ ys.length < xs.length := by omega
    clear hlen
    go_enter Tryz.func96, Tryz.ntmps96
    go_wp2
    go_loopw [13] (fun i wr => ∃ k : Nat, k ≤ xs.length ∧ i = .int .i64 k ∧ xs.take k = ys.take k ∧ Quiet w wr) (fun i _ => xs.length - (intOf i).toNat)
    case atStart => exact ⟨0, by omega, rfl, by simp, Quiet.refl _⟩
    case round =>
      obtain ⟨k, hk, rfl, ht, ⟨nq0, rfl⟩⟩ := hrel
      by_cases hlt : k < xs.length
      · rcases hc with rfl | ⟨b, o, rfl, hc⟩
        · simp at hlt
        rcases hc' with rfl | ⟨b', o', rfl, hc'⟩
        · simp only [List.length_nil] at hlen2; omega
        have hcell := hc k hlt
        have hcell' := hc' k (by omega)
        have t1 := take_succ_getD xs k hlt
        have t2 := take_succ_getD ys k (by omega)
        generalize xs[k]?.getD 0 = l at hcell t1
        generalize ys[k]?.getD 0 = l' at hcell' t2
        have hki : (k : Int) < (xs.length : Int) := by omega
        have hki' : (k : Int) < (ys.length : Int) := by omega
        by_cases he : l = l'
        · have hb2 : (l != l') = false := by simp [he]
          have H : Hid (xs.take (k + 1) = ys.take (k + 1)) := hid (by rw [t1, t2, ht, he])
          clear t1 t2 he ht hc hc'
          go_wp2
          go_quiet (fail)
          go_wp2
          go_roundw
          case rel => exact ⟨k + 1, by omega, by go_num, H.out, ⟨_, rfl⟩⟩
          case measure => simp [intOf]; omega
        · have hb2 : (l != l') = true := by simp [he]
          have H : Hid (xs ≠ ys) := hid (by rintro rfl; exact he (by simpa using t1.symm.trans t2))
          clear t1 t2 he ht hc hc'
          go_wp2
          go_quiet (fail)
          go_wp2
          go_ret
          exact ⟨by rw [decide_eq_false H.out]; rfl, (Quiet.mk _ _).trans (Quiet.mk _ _)⟩
      · have H : Hid (xs = ys) := hid (by rw [List.take_of_length_le (by omega), List.take_of_length_le (by omega)] at ht; exact ht)
        clear ht hc hc'
        go_wp2
        go_ret
        exact ⟨by rw [decide_eq_true H.out]; rfl, ⟨_, rfl⟩⟩
  · have hb : ((xs.length : Int) != (ys.length : Int)) = true := by rw [bne_iff_ne]; omega
    have H : Hid (xs ≠ ys) := hid (fun e => hlen (by rw [e]))
    clear hlen hc hc'
    go_enter Tryz.func96, Tryz.ntmps96
    go_wp2
    go_ret
    exact ⟨by rw [decide_eq_false H.out]; rfl, Quiet.refl _⟩

def sameB (x y : Arr) : Bool := decide (x.kind = y.kind) && (decide (x.shape = y.shape) && decide (x.elems = y.elems))
theorem sameB_eq (x y : Arr) : sameB x y = true ↔ x = y := by
  obtain ⟨a, b, c⟩ := x
  obtain ⟨d, e, f⟩ := y
  simp [sameB]

set_option maxRecDepth 100000 in
set_option maxHeartbeats 1000000 in
theorem same_any (va vb : Value) (x y : Arr) (w : World) (hx : IsArr w va x) (hy : IsArr w vb y) :
    Calls Tryz.prog 43 #[va, vb] w fun e w' => e = .returned (.bool (sameB x y)) ∧ Below w.heap.size w w' := by
  have hB2 : ∀ o o', Below w.heap.size w ((w.alloc o).alloc o') := fun o o' => ((Below.refl _ w).alloc (Nat.le_refl _) o).alloc (by simp) o'
  obtain ⟨vs, ve, rfl, hs, he, -⟩ := hx
  obtain ⟨vs', ve', rfl, hs', he', -⟩ := hy
  have gs := fun o o' => hs.below (hB2 o o')
  have ge := fun o o' => he.below (hB2 o o')
  have gs' := fun o o' => hs'.below (hB2 o o')
  have ge' := fun o o' => he'.below (hB2 o o')
  clear hs he hs' he'
  go_enter Tryz.func43, Tryz.ntmps43
  by_cases hk : x.kind = y.kind
  · by_cases hsh : x.shape = y.shape
    · have t1 : (x.kind == y.kind) = true := by simpa using hk
      have t2 : decide (x.shape = y.shape) = true := by simpa using hsh
      have H : Hid (sameB x y = decide (x.elems = y.elems)) := hid (by simp [sameB, hk, hsh])
      clear hk hsh
      go_wp2_with fail
      refine (equal_ints _ _ x.shape y.shape _ (gs _ _) (gs' _ _)).mono ?_
      rintro e w1 ⟨rfl, ⟨q, rfl⟩⟩
      rw [t2]
      go_wp2_with fail
      refine (equal_longs _ _ x.elems y.elems _ ((ge _ _).below (below_drewN (Below.refl _ _) _)) ((ge' _ _).below (below_drewN (Below.refl _ _) _))).mono ?_
      rintro e w1 ⟨rfl, ⟨q', rfl⟩⟩
      go_wp2_with fail
      go_ret
      exact ⟨by rw [H.out]; rfl, below_drewN (hB2 _ _) _⟩
    · have t1 : (x.kind == y.kind) = true := by simpa using hk
      have t2 : decide (x.shape = y.shape) = false := by simpa using hsh
      have H : Hid (sameB x y = false) := hid (by simp [sameB, hsh])
      clear hk hsh ge ge'
      go_wp2_with fail
      refine (equal_ints _ _ x.shape y.shape _ (gs _ _) (gs' _ _)).mono ?_
      rintro e w1 ⟨rfl, ⟨q, rfl⟩⟩
      rw [t2]
      go_wp2_with fail
      go_ret
      exact ⟨by rw [H.out]; rfl, below_drewN (hB2 _ _) _⟩
  · have t1 : (x.kind == y.kind) = false := by simpa using hk
    have H : Hid (sameB x y = false) := hid (by simp [sameB, hk])
    clear hk gs ge gs' ge'
    go_wp2_with fail
    go_ret
    exact ⟨by rw [H.out]; rfl, hB2 _ _⟩

end Go.Proofs.YthlingdlehdlhaaGreatDoor
