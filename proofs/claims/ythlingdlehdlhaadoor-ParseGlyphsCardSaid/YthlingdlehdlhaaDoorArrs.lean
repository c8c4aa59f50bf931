/- alive: the chapter's first examples; text, Scalar, Vector.
   array.Copy, with slices.Clone of ints.
   array.Make, at each function that the laws hand to it.
   array.Same, with slices.Equal at both kinds of slices; the reference's Great. -/
import Derived.Test.YthlingdlehdlhaaDoorTextA
import Derived.Test.YthlingdlehdlhaaDoorCnt
import Derived.Deep.RegionHeld3
import Derived.Deep.AppendLies
import Derived.Deep.Onto
import Derived.Deep.RegionLaw
import Derived.Test.YthlingdlehdlhaaDoorArrB
namespace Go.Proofs.YthlingdlehdlhaaDoor
open Go.RowKit Go.Shelf
set_option linter.unusedVariables false

theorem str_eq (a b : ByteArray) : (a.toList == b.toList) = decide (a = b) := by
  by_cases h : a = b
  · subst h; simp
  · rw [str_ne h, decide_eq_false h]

def textB (x : Arr) (want : ByteArray) : Bool := okArr x && decide (bs (textOf x) = want)


theorem ints_one {w : World} {b : Nat} {n : Int} (h : w.cell? ⟨b, 0, none⟩ = some (.int .i64 n)) : Ints w (.slice (some ⟨b, 0, none⟩) 1 1) [n] := by
  refine ⟨some ⟨b, 0, none⟩, 1, rfl, by simp, by omega, by simp, fun i hi => ⟨b, 0, rfl, ?_⟩⟩
  obtain rfl : i = 0 := by simpa using hi
  simpa using h
theorem ints_two {w : World} {b : Nat} {m n : Int} (h0 : w.cell? ⟨b, 0, none⟩ = some (.int .i64 m)) (h1 : w.cell? ⟨b, 1, none⟩ = some (.int .i64 n)) : Ints w (.slice (some ⟨b, 0, none⟩) 2 2) [m, n] := by
  refine ⟨some ⟨b, 0, none⟩, 2, rfl, by simp, by omega, by simp, fun i hi => ⟨b, 0, rfl, ?_⟩⟩
  have hi' : i < 2 := by simpa using hi
  match i, hi' with
  | 0, _ => simpa using h0
  | 1, _ => simpa using h1


theorem heap_set1 {w : World} {b i : Nat} {cs : Array Value} {T : TypeId} {fr : Nat × Nat} (hb : w.heap[b]? = some (.cells cs T fr)) (v : Value) :
    (w.setCell ⟨b, i, none⟩ v).heap[b]? = some (.cells (cs.setIfInBounds i v) T fr) := by
  simp [World.setCell, Array.getElem?_modify, hb]
theorem cell_far (w : World) (p a : Addr) (v : Value) (h : a.block ≠ p.block) : (w.setCell p v).cell? a = w.cell? a :=
  World.cell?_of_block (Below.heap_setCell w p v a.block h)

theorem heap_set3 {w : World} {b : Nat} {t : TypeId} {u0 u1 u2 : Value} (h : w.heap[b]? = some (.cells #[u0, u1, u2] t)) (a0 a1 a2 : Value) :
    (((w.setCell ⟨b, 0, none⟩ a0).setCell ⟨b, 1, none⟩ a1).setCell ⟨b, 2, none⟩ a2).heap[b]? = some (.cells #[a0, a1, a2] t) :=
  heap_set1 (i := 2) (heap_set1 (i := 1) (heap_set1 (i := 0) h a0) a1) a2



/-- Two ints laid in a new block. -/
theorem ints_lit2 (w : World) (m n : Int) (t : TypeId) : Ints (w.alloc (.cells #[.int .i64 m, .int .i64 n] t)) (.slice (some ⟨w.heap.size, 0, none⟩) 2 2) [m, n] := ints_two (by simp) (by simp)

theorem dd5 : Lib.decDigits 5 = [53] := by rw [Lib.decDigits]; rfl
theorem dd1 : Lib.decDigits 1 = [49] := by rw [Lib.decDigits]; rfl
theorem dd2 : Lib.decDigits 2 = [50] := by rw [Lib.decDigits]; rfl

theorem alive1 : textB ⟨1, [], [-5]⟩ ⟨#[194, 175, 53]⟩ = true := by
  unfold textB
  rw [show okArr ⟨1, [], [-5]⟩ = true by decide]
  simp [textOf, bare, elemText, dig, dd5, Lib.join, bs, List.intercalate]
theorem alive2 : textB ⟨1, [2], [1, -2]⟩ ⟨#[49, 32, 194, 175, 50]⟩ = true := by
  unfold textB
  rw [show okArr ⟨1, [2], [1, -2]⟩ = true by decide]
  simp [textOf, bare, elemText, dig, dd1, dd2, Lib.join, bs, List.intercalate]


end Go.Proofs.YthlingdlehdlhaaDoor

namespace Go.Proofs.YthlingdlehdlhaaDoor
open Go.RowKit Go.Shelf
set_option linter.unusedVariables false



theorem box_keep {w' w'' : World} {b : Nat} {v0 v1 v2 : Value} (h : Box3 w' b v0 v1 v2) (hb : Below w'.heap.size w' w'') : Box3 w'' b v0 v1 v2 := h.below hb (World.block_lt_of_cell? w' _ h.1)

theorem own_below {B : Nat} {e : TypeId} {k : Nat} {v : Value} {n : Nat} {xs : List Value} {w w' : World} (h : w.ownsRow B e k v n xs) (hb : Below w.heap.size w w') : w'.ownsRow B e k v n xs :=
  h.kept (row := none) ⟨hb.os, hb.tape, hb.output, hb.size, fun j hj _ => hb.block j hj⟩ (by cases hv : v.ownBlock <;> simp)

theorem own_slice {w : World} {base size n : Nat} {e : TypeId} {v : Value} {xs : List Value} (h : w.ownsRow base e size v n xs) : ∃ a c, v = .slice a n c := by
  rcases h.2 with ⟨hv, h0⟩ | ⟨g, cap, cur, hv, _⟩
  · exact ⟨none, 0, by rw [hv, h0]⟩
  · exact ⟨_, _, hv⟩

theorem zero_facts {w' : World} {R : Nat} {u0 u1 u2 : Value} {T : TypeId} (z : w'.heap[R]? = some (.cells #[u0, u1, u2] T)) :
    w'.cell? ⟨R, 0, none⟩ = some u0 ∧ w'.cell? ⟨R, 1, none⟩ = some u1 ∧ w'.cell? ⟨R, 2, none⟩ = some u2 ∧
      w'.frozen? ⟨R, 0, none⟩ = false ∧ w'.frozen? ⟨R, 1, none⟩ = false ∧ w'.frozen? ⟨R, 2, none⟩ = false :=
  ⟨by rw [Lib.cell_of_heap z]; rfl, by rw [Lib.cell_of_heap z]; rfl, by rw [Lib.cell_of_heap z]; rfl, Lib.frozen_of_heap z 0, Lib.frozen_of_heap z 1, Lib.frozen_of_heap z 2⟩
theorem box_set {w' : World} {b R : Nat} {v0 v1 v2 u0 u1 u2 : Value} (h : Box3 w' b v0 v1 v2) (hne : b ≠ R) :
    Box3 (((w'.setCell ⟨R, 0, none⟩ u0).setCell ⟨R, 1, none⟩ u1).setCell ⟨R, 2, none⟩ u2) b v0 v1 v2 :=
  ⟨by rw [cell_far _ _ _ _ hne, cell_far _ _ _ _ hne, cell_far _ _ _ _ hne]; exact h.1, by rw [cell_far _ _ _ _ hne, cell_far _ _ _ _ hne, cell_far _ _ _ _ hne]; exact h.2.1,
   by rw [cell_far _ _ _ _ hne, cell_far _ _ _ _ hne, cell_far _ _ _ _ hne]; exact h.2.2⟩

/-- What is answered of a copy: both slices own their rows, the elements' behind the shape's. -/
def Copied (w w' : World) (v : Value) (x : Arr) : Prop :=
  ∃ vs ve m, v = .agg #[.int .i64 x.kind, vs, ve] ∧ w.heap.size ≤ m ∧ w'.ownsRow w.heap.size 3 1 vs x.shape.length (x.shape.map (.int .i64)) ∧ (∀ k, vs.ownBlock = some k → k < m) ∧
    w'.ownsRow m 2 1 ve x.elems.length (x.elems.map (.int .i64))

end Go.Proofs.YthlingdlehdlhaaDoor

namespace Go.Proofs.YthlingdlehdlhaaDoor
open Go.RowKit Go.Shelf
set_option linter.unusedVariables false

theorem results_row_tmp {P : Program} {fn : Func} {p u : Tmp} {ty : TypeId} (h : fn.results = #[.cell p ty, .tmp u]) (tmps : Array Value) (w : World) (g : Nat) (t : TypeId) (cs : Array Value) (fr : Nat × Nat) (d : TypeDesc)
    (hp : tmps.getD p undef = .pointer (some ⟨g, 0, none⟩)) (hg : w.heap[g]? = some (.cells cs t fr))
    (hu : P.underlying ty = some d) (hd : (match d with | .struct _ | .array _ _ => true | _ => false) = true) (hi : (P.info? ty).map (·.size) = some cs.size) :
    (results fn tmps).run P w = .ok (.tuple #[.agg cs, tmps.getD u undef]) w := by
  rw [results_cell_tmp h, hp]
  simp [asAddr, Result.andThen, run_loadVar_row w g t ty cs fr d hg hu hd hi]

def els (el : Nat → Int) (k : Nat) : List Int := (List.range k).map el
theorem els_succ (el : Nat → Int) (k : Nat) : (els el (k + 1)).map (Value.int .i64) = (els el k).map (Value.int .i64) ++ [.int .i64 (el k)] := by simp [els, List.range_succ]
theorem els_length (el : Nat → Int) (k : Nat) : (els el k).length = k := by simp [els]
theorem els_get (el : Nat → Int) (k i : Nat) (h : i < k) : (els el k)[i]?.getD 0 = el i := by simp [els, h]

theorem countFold_ge {xs : List Int} {m n : Int} (hm : 0 ≤ m) (h : countFold xs m = some n) : 0 ≤ n := by
  induction xs generalizing m with
  | nil => unfold countFold at h; split at h <;> simp at h; omega
  | cons l r ih =>
    unfold countFold at h
    split at h
    · simp at h
    · rename_i hl
      exact ih (Int.mul_nonneg hm (by omega)) h
theorem count_ge {xs : List Int} {n : Int} (h : count xs = some n) : 0 ≤ n := by
  unfold count at h
  split at h
  · simp at h
  · exact countFold_ge (by decide) h

theorem chk_or (x : Arr) : chk x = 110 ∨ chk x = 0 := by unfold chk; split <;> simp

/-- What Make answers. -/
def Made (w w' : World) (kind : Int) (xs : List Int) (el : Nat → Int) (e : Ending) : Prop :=
  (count xs = none ∧ e = .returned (.tuple #[.agg #[.int .i64 0, .slice none 0 0, .slice none 0 0], .int .i64 110])) ∨
  ∃ n : Nat, count xs = some (n : Int) ∧ ((chk ⟨kind, xs, els el n⟩ = 110 ∧ e = .returned (.tuple #[.agg #[.int .i64 0, .slice none 0 0, .slice none 0 0], .int .i64 110])) ∨
    (chk ⟨kind, xs, els el n⟩ = 0 ∧ ∃ v, e = .returned (.tuple #[v, .int .i64 0]) ∧ IsArr w' v ⟨kind, xs, els el n⟩))









end Go.Proofs.YthlingdlehdlhaaDoor

namespace Go.Proofs.YthlingdlehdlhaaDoor
open Go.RowKit
set_option linter.unusedVariables false

set_option maxHeartbeats 400000 in
theorem equal_ints (va vb : Value) (xs ys : List Int) (w : World) (hx : Ints w va xs) (hy : Ints w vb ys) :
    Calls Tryd.prog 78 #[va, vb] w fun e w' => e = .returned (.bool (decide (xs = ys))) ∧ Quiet w w' := by
  obtain ⟨a, cap, rfl, h1, h2, h3, hc⟩ := hx.parts
  obtain ⟨a', cap', rfl, h1', h2', h3', hc'⟩ := hy.parts
  clear hx hy
  by_cases hlen : xs.length = ys.length
  · have hb : ((xs.length : Int) != (ys.length : Int)) = false := by simp [hlen]
    have hlen' : ¬ xs.length < ys.length := by omega
    have hlen2 : ¬ ys.length < xs.length := by omega
    clear hlen
    go_enter Tryd.func78, Tryd.ntmps78
    go_wp2
    go_loopw [13] (fun i wr => ∃ k : Nat, k ≤ xs.length ∧ i = .int .i64 k ∧ xs.take k = ys.take k ∧ Quiet w wr) (fun i _ => xs.length - (intOf i).toNat)
    case atStart => exact ⟨0, by omega, rfl, by simp, Quiet.refl _⟩
    case round =>
      obtain ⟨k, hk, rfl, ht, ⟨nq0, rfl⟩⟩ := hrel
      by_cases hlt : k < xs.length
      · rcases hc with rfl | ⟨b, o, rfl, hc⟩
        · simp at hlt
        rcases hc' with rfl | ⟨b', o', rfl, hc'⟩
        · simp only [List.length_nil] at hlen2; omega
        have hcell := hc k hlt
        have hcell' := hc' k (by omega)
        have t1 := take_succ_getD xs k hlt
        have t2 := take_succ_getD ys k (by omega)
        generalize xs[k]?.getD 0 = l at hcell t1
        generalize ys[k]?.getD 0 = l' at hcell' t2
        have hki : (k : Int) < (xs.length : Int) := by omega
        have hki' : (k : Int) < (ys.length : Int) := by omega
        by_cases he : l = l'
        · have hb2 : (l != l') = false := by simp [he]
          have H : Hid (xs.take (k + 1) = ys.take (k + 1)) := hid (by rw [t1, t2, ht, he])
          clear t1 t2 he ht hc hc'
          go_wp2
          go_quiet (fail)
          go_wp2
          go_roundw
          case rel => exact ⟨k + 1, by omega, by go_num, H.out, ⟨_, rfl⟩⟩
          case measure => simp [intOf]; omega
        · have hb2 : (l != l') = true := by simp [he]
          have H : Hid (xs ≠ ys) := hid (by rintro rfl; exact he (by simpa using t1.symm.trans t2))
          clear t1 t2 he ht hc hc'
          go_wp2
          go_quiet (fail)
          go_wp2
          go_ret
          exact ⟨by rw [decide_eq_false H.out]; rfl, (Quiet.mk _ _).trans (Quiet.mk _ _)⟩
      · have H : Hid (xs = ys) := hid (by rw [List.take_of_length_le (by omega), List.take_of_length_le (by omega)] at ht; exact ht)
        clear ht hc hc'
        go_wp2
        go_ret
        exact ⟨by rw [decide_eq_true H.out]; rfl, ⟨_, rfl⟩⟩
  · have hb : ((xs.length : Int) != (ys.length : Int)) = true := by rw [bne_iff_ne]; omega
    have H : Hid (xs ≠ ys) := hid (fun e => hlen (by rw [e]))
    clear hlen hc hc'
    go_enter Tryd.func78, Tryd.ntmps78
    go_wp2
    go_ret
    exact ⟨by rw [decide_eq_false H.out]; rfl, Quiet.refl _⟩

set_option maxHeartbeats 400000 in
theorem equal_longs (va vb : Value) (xs ys : List Int) (w : World) (hx : Ints w va xs) (hy : Ints w vb ys) :
    Calls Tryd.prog 79 #[va, vb] w fun e w' => e = .returned (.bool (decide (xs = ys))) ∧ Quiet w w' := by
  obtain ⟨a, cap, rfl, h1, h2, h3, hc⟩ := hx.parts
  obtain ⟨a', cap', rfl, h1', h2', h3', hc'⟩ := hy.parts
  clear hx hy
  by_cases hlen : xs.length = ys.length
  · have hb : ((xs.length : Int) != (ys.length : Int)) = false := by simp [hlen]
    have hlen' : ¬ xs.length < ys.length := by omega
    have hlen2 : ¬ ys.length < xs.length := by omega
    clear hlen
    go_enter Tryd.func79, Tryd.ntmps79
    go_wp2
    go_loopw [13] (fun i wr => ∃ k : Nat, k ≤ xs.length ∧ i = .int .i64 k ∧ xs.take k = ys.take k ∧ Quiet w wr) (fun i _ => xs.length - (intOf i).toNat)
    case atStart => exact ⟨0, by omega, rfl, by simp, Quiet.refl _⟩
    case round =>
      obtain ⟨k, hk, rfl, ht, ⟨nq0, rfl⟩⟩ := hrel
      by_cases hlt : k < xs.length
      · rcases hc with rfl | ⟨b, o, rfl, hc⟩
        · simp at hlt
        rcases hc' with rfl | ⟨b', o', rfl, hc'⟩
        · simp only [List.length_nil] at hlen2; omega
        have hcell := hc k hlt
        have hcell' := hc' k (by omega)
        have t1 := take_succ_getD xs k hlt
        have t2 := take_succ_getD ys k (by omega)
        generalize xs[k]?.getD 0 = l at hcell t1
        generalize ys[k]?.getD 0 = l' at hcell' t2
        have hki : (k : Int) < (xs.length : Int) := by omega
        have hki' : (k : Int) < (ys.length : Int) := by omega
        by_cases he : l = l'
        · have hb2 : (l != l') = false := by simp [he]
          have H : Hid (xs.take (k + 1) = ys.take (k + 1)) := hid (by rw [t1, t2, ht, he])
          clear t1 t2 he ht hc hc'
          go_wp2
          go_quiet (fail)
          go_wp2
          go_roundw
          case rel => exact ⟨k + 1, by omega, by go_num, H.out, ⟨_, rfl⟩⟩
          case measure => simp [intOf]; omega
        · have hb2 : (l != l') = true := by simp [he]
          have H : Hid (xs ≠ ys) := hid (by rintro rfl; exact he (by simpa using t1.symm.trans t2))
          clear t1 t2 he ht hc hc'
          go_wp2
          go_quiet (fail)
          go_wp2
          go_ret
          exact ⟨by rw [decide_eq_false H.out]; rfl, (Quiet.mk _ _).trans (Quiet.mk _ _)⟩
      · have H : Hid (xs = ys) := hid (by rw [List.take_of_length_le (by omega), List.take_of_length_le (by omega)] at ht; exact ht)
        clear ht hc hc'
        go_wp2
        go_ret
        exact ⟨by rw [decide_eq_true H.out]; rfl, ⟨_, rfl⟩⟩
  · have hb : ((xs.length : Int) != (ys.length : Int)) = true := by rw [bne_iff_ne]; omega
    have H : Hid (xs ≠ ys) := hid (fun e => hlen (by rw [e]))
    clear hlen hc hc'
    go_enter Tryd.func79, Tryd.ntmps79
    go_wp2
    go_ret
    exact ⟨by rw [decide_eq_false H.out]; rfl, Quiet.refl _⟩

def sameB (x y : Arr) : Bool := decide (x.kind = y.kind) && (decide (x.shape = y.shape) && decide (x.elems = y.elems))
theorem sameB_eq (x y : Arr) : sameB x y = true ↔ x = y := by
  obtain ⟨a, b, c⟩ := x
  obtain ⟨d, e, f⟩ := y
  simp [sameB]

set_option maxRecDepth 100000 in
set_option maxHeartbeats 1000000 in
theorem same_any (va vb : Value) (x y : Arr) (w : World) (hx : IsArr w va x) (hy : IsArr w vb y) :
    Calls Tryd.prog 55 #[va, vb] w fun e w' => e = .returned (.bool (sameB x y)) ∧ Below w.heap.size w w' := by
  have hB2 : ∀ o o', Below w.heap.size w ((w.alloc o).alloc o') := fun o o' => ((Below.refl _ w).alloc (Nat.le_refl _) o).alloc (by simp) o'
  obtain ⟨vs, ve, rfl, hs, he, -⟩ := hx
  obtain ⟨vs', ve', rfl, hs', he', -⟩ := hy
  have gs := fun o o' => hs.below (hB2 o o')
  have ge := fun o o' => he.below (hB2 o o')
  have gs' := fun o o' => hs'.below (hB2 o o')
  have ge' := fun o o' => he'.below (hB2 o o')
  clear hs he hs' he'
  go_enter Tryd.func55, Tryd.ntmps55
  by_cases hk : x.kind = y.kind
  · by_cases hsh : x.shape = y.shape
    · have t1 : (x.kind == y.kind) = true := by simpa using hk
      have t2 : decide (x.shape = y.shape) = true := by simpa using hsh
      have H : Hid (sameB x y = decide (x.elems = y.elems)) := hid (by simp [sameB, hk, hsh])
      clear hk hsh
      go_wp2_with fail
      refine (equal_ints _ _ x.shape y.shape _ (gs _ _) (gs' _ _)).mono ?_
      rintro e w1 ⟨rfl, ⟨q, rfl⟩⟩
      rw [t2]
      go_wp2_with fail
      refine (equal_longs _ _ x.elems y.elems _ ((ge _ _).below (below_drewN (Below.refl _ _) _)) ((ge' _ _).below (below_drewN (Below.refl _ _) _))).mono ?_
      rintro e w1 ⟨rfl, ⟨q', rfl⟩⟩
      go_wp2_with fail
      go_ret
      exact ⟨by rw [H.out]; rfl, below_drewN (hB2 _ _) _⟩
    · have t1 : (x.kind == y.kind) = true := by simpa using hk
      have t2 : decide (x.shape = y.shape) = false := by simpa using hsh
      have H : Hid (sameB x y = false) := hid (by simp [sameB, hsh])
      clear hk hsh ge ge'
      go_wp2_with fail
      refine (equal_ints _ _ x.shape y.shape _ (gs _ _) (gs' _ _)).mono ?_
      rintro e w1 ⟨rfl, ⟨q, rfl⟩⟩
      rw [t2]
      go_wp2_with fail
      go_ret
      exact ⟨by rw [H.out]; rfl, below_drewN (hB2 _ _) _⟩
  · have t1 : (x.kind == y.kind) = false := by simpa using hk
    have H : Hid (sameB x y = false) := hid (by simp [sameB, hk])
    clear hk gs ge gs' ge'
    go_wp2_with fail
    go_ret
    exact ⟨by rw [H.out]; rfl, hB2 _ _⟩

def great (x : Arr) : Int := if 5000 < x.elems.length ∨ 100 < x.shape.length then 1 else 0

end Go.Proofs.YthlingdlehdlhaaDoor
