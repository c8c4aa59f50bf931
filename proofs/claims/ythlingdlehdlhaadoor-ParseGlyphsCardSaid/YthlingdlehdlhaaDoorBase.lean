/- What a slice of integers reads as; small facts on worlds. No program is named here.
   A range over a function, told by the number of rounds that have gone: the contract of the function that is ranged over, and the law for the loop. No program is named here.
   A law for ranges over functions that hand on what they made.
   Regions that draw their order, in the round of a range over a function. No program is named here.
   How a program is split: where it is cut; plain lists of bytes, no program named. -/
import Derived.WalkKit
import Derived.WalkSmall
import Derived.Deep.Draws
import Derived.RangeFuncNested
import Derived.RangeFuncBound
import Derived.RangeFuncCalls
import Derived.RangeFuncLeaves
import Derived.Shelf.Abstract
import Derived.OwnWalkIn
import Derived.TacticsInMore
import Derived.LoopNIn
import Derived.LoopIn
import Derived.Deep.QuietTactic
import Derived.BigQuiet
import Derived.StillTailTactics
import Derived.OrdersIn
import Derived.Lib.Strings
namespace Go.Proofs.YthlingdlehdlhaaDoor
open Go.RowKit
set_option linter.unusedVariables false

theorem hid {p : Prop} (h : p) : Hid p := h

/-- The cells cs lie at a. -/
def Lies (w : World) (a : Option Addr) (cs : List Value) : Prop :=
  ∀ i (h : i < cs.length), ∃ b o, a = some ⟨b, o, none⟩ ∧ w.cell? ⟨b, o + i, none⟩ = some cs[i]

/-- A slice of ints that reads as a list. -/
def Ints (w : World) (v : Value) (xs : List Int) : Prop :=
  ∃ a cap, v = .slice a xs.length cap ∧ xs.length ≤ cap ∧ cap ≤ 9223372036854775807 ∧ (a = none → cap = 0) ∧ Lies w a (xs.map (.int .i64))

theorem Lies.below {w w' : World} {a : Option Addr} {cs : List Value} (h : Lies w a cs) (hb : Below w.heap.size w w') : Lies w' a cs := by
  intro i hi
  obtain ⟨b, o, e, hc⟩ := h i hi
  exact ⟨b, o, e, (hb.cell (World.block_lt_of_cell? w _ hc)).trans hc⟩

theorem Ints.below {w w' : World} {v : Value} {xs : List Int} (h : Ints w v xs) (hb : Below w.heap.size w w') : Ints w' v xs := by
  obtain ⟨a, cap, e, h1, h2, h3, h4⟩ := h
  exact ⟨a, cap, e, h1, h2, h3, h4.below hb⟩

theorem Ints.nil (w : World) : Ints w (.slice none 0 0) [] :=
  ⟨none, 0, rfl, Nat.le_refl _, by omega, fun _ => rfl, fun i hi => by simp at hi⟩

theorem Ints.cell {w : World} {a : Option Addr} {n cap : Nat} {xs : List Int} (h : Ints w (.slice a n cap) xs) (i : Nat) (hi : i < xs.length) :
    ∃ b o, a = some ⟨b, o, none⟩ ∧ w.cell? ⟨b, o + i, none⟩ = some (.int .i64 (xs[i]?.getD 0)) := by
  obtain ⟨a', cap', e, h1, h2, h3, h4⟩ := h
  obtain ⟨rfl, rfl, rfl⟩ : a = a' ∧ n = xs.length ∧ cap = cap' := by simpa using e
  obtain ⟨b, o, e, hc⟩ := h4 i (by simpa using hi)
  exact ⟨b, o, e, by simpa [hi] using hc⟩

/-- What an Ints says, taken apart. -/
theorem Ints.parts {w : World} {v : Value} {xs : List Int} (h : Ints w v xs) :
    ∃ a cap, v = .slice a xs.length cap ∧ xs.length ≤ cap ∧ cap ≤ 9223372036854775807 ∧ (a = none → cap = 0) ∧
      (xs = [] ∨ ∃ b o, a = some ⟨b, o, none⟩ ∧ ∀ i, i < xs.length → w.cell? ⟨b, o + i, none⟩ = some (.int .i64 (xs[i]?.getD 0))) := by
  obtain ⟨a, cap, e, h1, h2, h3, h4⟩ := h
  refine ⟨a, cap, e, h1, h2, h3, ?_⟩
  cases xs with
  | nil => exact .inl rfl
  | cons x r =>
    obtain ⟨b, o, e', _⟩ := h4 0 (by simp)
    refine .inr ⟨b, o, e', fun i hi => ?_⟩
    obtain ⟨b', o', e'', hc⟩ := h4 i (by simpa using hi)
    obtain ⟨rfl, rfl⟩ : b = b' ∧ o = o' := by rw [e'] at e''; simpa using e''
    rw [hc, List.getElem_map, List.getElem?_eq_getElem hi, Option.getD_some]

theorem Ints.of_owns {w : World} {base e : Nat} {v : Value} {xs : List Int} (h : w.ownsRow base e 1 v xs.length (xs.map (.int .i64))) : Ints w v xs := by
  obtain ⟨h1, ⟨rfl, h2⟩ | ⟨g, cap, cur, rfl, h3, h4, h5, h6, h7, h8⟩⟩ := h
  · obtain rfl : xs = [] := List.eq_nil_of_length_eq_zero h2
    exact .nil w
  · refine ⟨some ⟨g, 0, none⟩, cap, rfl, h5, by simpa [maxLen] using h6, by simp, fun i hi => ⟨g, 0, rfl, ?_⟩⟩
    have hi' : i < xs.length := by simpa using hi
    have hh : cur.toList[i]? = some (.int .i64 xs[i]) := by
      have : (cur.toList.take (xs.length * 1))[i]? = some (.int .i64 xs[i]) := by rw [h8]; simp [hi']
      rw [List.getElem?_take] at this
      rw [if_pos (by omega)] at this
      exact this
    simp only [World.cell?, h4]
    simpa using hh

theorem Ints.of_row {w : World} {x : Addr} {len cap : Nat} {zs : List Int} (hl : len ≤ cap) (hm : cap ≤ 9223372036854775807) (hz : zs.length = cap) (hc : ∀ i, i < zs.length → w.cell? (x.add i) = some (.int .i64 (zs.getD i 0))) :
    Ints w (.slice (some x) len cap) (zs.take len) := by
  have hlen : (zs.take len).length = len := by rw [List.length_take]; omega
  refine ⟨some x, cap, by rw [hlen], by omega, hm, by simp, fun i hi => ?_⟩
  have hi' : i < len := by rw [List.length_map, hlen] at hi; exact hi
  have h0 := hc i (by omega)
  obtain ⟨b, o, sp⟩ := x
  have hsp : sp = none := by
    cases sp with
    | none => rfl
    | some s =>
      have h00 := hc 0 (by omega)
      rw [show (Addr.add ⟨b, o, some s⟩ 0) = ⟨b, o, some s⟩ from rfl, World.cell?] at h00
      split at h00 <;> simp at h00
  subst hsp
  refine ⟨b, o, rfl, ?_⟩
  rw [Addr.add_lit] at h0
  rw [h0, List.getElem_map, List.getElem_take]
  simp [List.getD, show i < zs.length by omega]

theorem cell_alloc {w : World} {a : Addr} {v : Value} (o : Obj) (h : w.cell? a = some v) : (w.alloc o).cell? a = some v :=
  (((Below.refl _ w).alloc (Nat.le_refl _) o).cell (World.block_lt_of_cell? w _ h)).trans h

theorem one_new (w : World) (x : Value) (t : TypeId) : ∀ (j : Nat) (u : Value), [x][j]? = some u → (w.alloc (.cells #[x] t)).cell? ((⟨w.heap.size, 0, none⟩ : Addr).add j) = some u := by
  intro j u hj
  match j, hj with
  | 0, hj =>
    obtain rfl : x = u := by simpa using hj
    rw [show (Addr.add ⟨w.heap.size, 0, none⟩ 0) = ⟨w.heap.size, 0, none⟩ from rfl, World.cell?, heap_alloc_new w (.cells #[x] t)]
    rfl
  | j + 1, hj => simp at hj

/-- Some draws, nothing else. -/
def Quiet (w w' : World) : Prop := ∃ n, w' = w.drewN n

theorem Quiet.refl (w : World) : Quiet w w := ⟨0, rfl⟩
theorem Quiet.mk (w : World) (n : Nat) : Quiet w (w.drewN n) := ⟨n, rfl⟩
theorem Quiet.trans {a b c : World} (h : Quiet a b) (k : Quiet b c) : Quiet a c := by
  obtain ⟨n, rfl⟩ := h
  obtain ⟨m, rfl⟩ := k
  exact ⟨n + m, by simp⟩
theorem Quiet.below {w w' : World} (h : Quiet w w') (B : Nat) : Below B w w' := by
  obtain ⟨n, rfl⟩ := h
  exact below_drewN (Below.refl _ _) n
theorem Ints.drewN {w : World} {v : Value} {xs : List Int} (h : Ints w v xs) (n : Nat) : Ints (w.drewN n) v xs := h.below ((Quiet.mk w n).below _)
theorem Ints.quiet {w w' : World} {v : Value} {xs : List Int} (h : Ints w v xs) (k : Quiet w w') : Ints w' v xs := h.below (k.below _)

end Go.Proofs.YthlingdlehdlhaaDoor

namespace Go.Proofs.YthlingdlehdlhaaDoor
open Go.RowKit Go.Shelf
set_option linter.unusedVariables false

theorem calls_wide {P : Program} {f : FuncId} {args : Array Value} {w : World} {R : Ending → World → Prop} (h : CallsIn Fence.wide 0 P f args w R) : Calls P f args w R := callsIn_wide.1 h
theorem wide_calls {P : Program} {f : FuncId} {args : Array Value} {w : World} {R : Ending → World → Prop} (h : Calls P f args w R) : CallsIn Fence.wide 0 P f args w R := callsIn_wide.2 h
theorem round_calls {P : Program} {f : FuncId} {args : Array Value} {w : World} {R : Ending → World → Prop} (l : Nat) (h : Calls P f args w R) : CallsIn (Fence.wide.inRound l) 0 P f args w R := CallsIn.inRound l (callsIn_wide.2 h)

/-- A function whose body holds a range over a function. -/
theorem calls_of_wp_m {P : Program} {f : FuncId} {fn : Func} {c : Code} {args : Array Value} {w : World} {R : Ending → World → Prop}
    (hf : P.funcs[f]? = some fn) (hb : fn.body = some c)
    (h : c.wp P (bodyPostM Fence.wide 0 P fn R) { tmps := args ++ Array.replicate (fn.ntmps - args.size) undef, defers := [] } w) : Calls P f args w R :=
  calls_wide (callsIn_of_wp_marks hf hb trivial (wpIn_wide.2 h) rfl)

theorem post_plain {P : Program} {fn : Func} {R : Ending → World → Prop} {tmps : Array Value} {w : World} {v : Value} (hr : (results fn tmps).run P w = .ok v w) (h : R (.returned v) w) :
    bodyPostM Fence.wide 0 P fn R .ret { tmps := tmps, defers := [] } w := ⟨v, hr, h⟩

theorem below_putObj {B : Nat} {a w : World} (h : Below B a w) {D : Nat} (hD : B ≤ D) (o : Obj) : Below B a (w.putObj D o) :=
  h.trans ⟨rfl, rfl, rfl, by simp, fun k hk => World.putObj_heap_other (by omega)⟩

theorem post_mark {P : Program} {fn : Func} {R : Ending → World → Prop} {tmps : Array Value} {w : World} {D : Nat} {v : Value} (hK : w.heap[D]? = some (.deferred (some [])))
    (hr : (results fn tmps).run P (w.putObj D (.deferred none)) = .ok v (w.putObj D (.deferred none))) (h : R (.returned v) (w.putObj D (.deferred none))) :
    bodyPostM Fence.wide 0 P fn R .ret { tmps := tmps, defers := [{ target := .collected D, args := #[] }] } w :=
  ⟨by simp, .inl ⟨_, _, rfl, run_takeDeferred hK, ⟨v, hr, h⟩⟩⟩

/-- What is no cells and lies at or beyond B stays. -/
abbrev Still := KeepsFrom

/-- The function gf, with lb captured, calls yield for the elements 0 .. N - 1; between two calls it does no more than Mv says; of a round that goes on it asks Kp. -/
def SeqP (P : Program) (gf : Nat) (lb : Array Value) (encs : Nat → Array Value) (N : Nat) (Mv Kp : World → World → Prop) (w0 : World) : Prop :=
  ∀ (l : Nat) (J : Nat → World → Prop) (Jx : World → Prop) (W : World), Below w0.heap.size w0 W →
    (∀ k A B, W.heap.size ≤ A.heap.size → J k A → Mv A B → J k B) → (∀ A B, W.heap.size ≤ A.heap.size → Jx A → Mv A B → Jx B) →
    (∀ k W1, k < N → J k W1 → YieldAt Fence.wide 0 P l (encs k) W1 fun e W' =>
      (e = .returned (.bool true) ∧ J (k + 1) W' ∧ Kp W1 W') ∨ (e = .returned (.bool false) ∧ Jx W')) →
    J 0 W →
    Calls P gf (#[.func (.yield l) #[] #[]] ++ lb) W fun e W' => (∃ v, e = .returned v) ∧ (J N W' ∨ Jx W')

/-- How the body of a round may be left. -/
def roundEnd (B : Nat) (Kp : World → World → Prop) (I : Nat → World → Prop) (Ix : Code → World → Prop) (k : Nat) (W : World) : Exit → Act → World → Prop
  | .normal, _, W' => KeepsFrom B W W' ∧ Kp W W' ∧ I (k + 1) W'
  | .ret, _, W' => KeepsFrom B W W' ∧ Ix .ret W'
  | .exit id, _, W' => KeepsFrom B W W' ∧ Ix (.exit id) W'
  | .goto t, _, W' => KeepsFrom B W W' ∧ Ix (.goto t) W'
  | .panic _, _, _ => False
  | .outgrown, _, _ => False

theorem range_law {P : Program} {g : Operand} {ps : Array Tmp} {assign body : Code} {Q : Exit → Act → World → Prop} {a : Act} {w : World}
    {gf : Nat} {lb : Array Value} (hg : a.eval g = .func (.func gf) #[] lb) (eg : ∀ args w, (callFunc gf args).run P w = .ok (.enter gf args) w)
    {encs : Nat → Array Value} {N : Nat} {Mv Kp : World → World → Prop} (hseq : SeqP P gf lb encs N Mv Kp w)
    (hMv : ∀ A B, Mv A B → KeepsFrom w.heap.size A B)
    (hKt : ∀ A B C, Kp A B → Kp B C → Kp A C) (hKb : ∀ (W : World) (l : Nat) (o o' : Obj), w.heap.size ≤ l → W.heap[l]? = some o → o.isCells = false → Kp W (W.putObj l o'))
    (hps : ∀ k, (encs k).size = ps.size)
    (I : Nat → World → Prop) (Ix : Code → World → Prop) (hI : OwnFrom w.heap.size I) (hIx : OwnFrom w.heap.size Ix)
    (hIM : ∀ k A B, w.heap.size ≤ A.heap.size → I k A → Mv A B → I k B) (hIxM : ∀ c A B, w.heap.size ≤ A.heap.size → Ix c A → Mv A B → Ix c B) (h0 : I 0 w)
    (Ax : Nat → Act → World → Prop) (hAx : ∀ k a', OwnFrom w.heap.size (fun (_ : Unit) W => Ax k a' W))
    (hassign : ∀ (l k : Nat) (W : World) (K : Act → World → Prop), k < N → I k W → (∀ a' W', KeepsFrom w.heap.size W W' → Kp W W' → I k W' → Ax k a' W' → K a' W') →
      assign.wpIn (Fence.wide.inRound l) 0 P (Exit.then K (fun _ _ _ => False)) { tmps := (ps.zip (encs k)).foldl (fun t (p, v) => t.setIfInBounds p v) a.tmps, defers := [] } W)
    (hbody : ∀ (l k : Nat) (a' : Act) (W : World), w.heap.size ≤ l → (∃ r, W.heap[l]? = some (.loop r)) → k < N → I k W → Ax k a' W → body.wpIn (Fence.wide.inRound l) 0 P (roundEnd w.heap.size Kp I Ix k W) a' W)
    (hdone : ∀ (D : Nat) (W : World), w.heap.size ≤ D → I N W → W.heap[D]? = some (.deferred (some [])) → Q .normal { a with defers := { target := .collected D, args := #[] } :: a.defers } W)
    (hstop : ∀ (D : Nat) (c : Code) (W : World), w.heap.size ≤ D → Ix c W → W.heap[D]? = some (.deferred (some [])) → c.wp P Q { a with defers := { target := .collected D, args := #[] } :: a.defers } W) :
    (Code.rangeFunc g ps assign body).wp P Q a w := by
  refine (wpIn_wide (n := 0)).1 (wpIn_rangeFunc ?_)
  intro fn hfn
  obtain ⟨rec, hrec⟩ : ∃ rec : LoopState → Option Code → Loop, rec = fun st pe => { state := st, pending := pe, fn, tmps := a.tmps, params := ps, assign, body, defers := w.heap.size } := ⟨_, rfl⟩
  obtain ⟨W1, hW1⟩ : ∃ W1, (w.alloc (.deferred (some []))).alloc (.loop (rec .ready none)) = W1 := ⟨_, rfl⟩
  have hL1 : W1.heap[w.heap.size + 1]? = some (.loop (rec .ready none)) := by
    rw [← hW1]; have := World.alloc_heap_new (w.alloc (.deferred (some []))) (.loop (rec .ready none)); rwa [World.size_alloc] at this
  have hK1 : W1.heap[w.heap.size]? = some (.deferred (some [])) := by
    rw [← hW1]; exact (Below.heap_alloc _ _ _ (by simp)).trans (World.alloc_heap_new w _)
  have hI1 : I 0 W1 := by rw [← hW1]; exact hI.alloc _ (hI.alloc _ h0)
  have hb1 : Below w.heap.size w W1 := by
    rw [← hW1]; exact ((Below.refl _ w).alloc (Nat.le_refl _) _).alloc (by simp) _
  have hs1 : w.heap.size ≤ W1.heap.size := hb1.size
  refine ⟨w.heap.size + 1, [{ target := .collected w.heap.size, args := #[] }], W1, { target := .fn (.func gf) lb, args := #[.func (.yield (w.heap.size + 1)) #[] #[]] }, W1, gf,
    #[.func (.yield (w.heap.size + 1)) #[] #[]] ++ lb, W1, ?_, ?_, fun _ _ => trivial, ?_, ?_, callsIn_wide.2 ?_⟩
  · rw [← hW1, hrec]; exact run_enterLoop_outer _ _ _ _ _
  · simp only [resolve, hg]
    simp [go_sem]
  · simp [invoke, go_sem, eg]
  · intro h; simp [Fence.wide] at h
  · refine (hseq (w.heap.size + 1)
      (fun k W => I k W ∧ w.heap.size ≤ W.heap.size ∧ W.heap[w.heap.size + 1]? = some (.loop (rec .ready none)) ∧ W.heap[w.heap.size]? = some (.deferred (some [])))
      (fun W => ∃ c, Ix c W ∧ w.heap.size ≤ W.heap.size ∧ W.heap[w.heap.size + 1]? = some (.loop (rec .done (some c))) ∧ W.heap[w.heap.size]? = some (.deferred (some [])))
      W1 hb1 ?_ ?_ ?_ ⟨hI1, hs1, hL1, hK1⟩).mono ?_
    · rintro k A B hA ⟨hi, hs, hl, hk⟩ hm
      have hkf := hMv _ _ hm
      exact ⟨hIM _ _ _ hs hi hm, Nat.le_trans hs hkf.size, hkf.same _ _ (by omega) hl rfl, hkf.same _ _ (by omega) hk rfl⟩
    · rintro A B hA ⟨c, hi, hs, hl, hk⟩ hm
      have hkf := hMv _ _ hm
      exact ⟨c, hIxM _ _ _ hs hi hm, Nat.le_trans hs hkf.size, hkf.same _ _ (by omega) hl rfl, hkf.same _ _ (by omega) hk rfl⟩
    · rintro k W hkN ⟨hi, hs, hl, hk⟩
      have hy := run_yield (P := P) (args := encs k) hl (by rw [hrec]; exact hps k)
      rw [hrec] at hy
      refine ⟨fn, _, assign, body, hy, roundIn_of_wpIn hfn (hassign _ k W _ hkN hi ?_)⟩
      clear hy
      intro a' Wa hkfa hkpa hia hax
      have hl' := hkfa.same _ _ (by omega) hl rfl
      have hk' := hkfa.same _ _ (by omega) hk rfl
      have hsa : w.heap.size ≤ Wa.heap.size := Nat.le_trans hs hkfa.size
      have hlt : w.heap.size + 1 < Wa.heap.size := (Array.getElem?_eq_some_iff.1 hl').1
      refine ⟨_, run_beginRound hl' (by rw [hrec]), ?_⟩
      obtain ⟨Wb, hWb⟩ : ∃ Wb, Wa.putObj (w.heap.size + 1) (.loop { rec .ready none with state := .busy }) = Wb := ⟨_, rfl⟩
      have hlb : Wb.heap[w.heap.size + 1]? = some (.loop { rec .ready none with state := .busy }) := by rw [← hWb]; exact World.putObj_heap_same hlt
      have hkb : Wb.heap[w.heap.size]? = some (.deferred (some [])) := by rw [← hWb]; exact (World.putObj_heap_other (by omega)).trans hk'
      have hkpb : Kp Wa Wb := by rw [← hWb]; exact hKb _ _ _ _ (by omega) hl' rfl
      have hib : I k Wb := by rw [← hWb]; exact hI.putObj _ hia (by omega) hl' rfl
      have haxb : Ax k a' Wb := by rw [← hWb]; exact (hAx k a').putObj (s := ()) _ hax (by omega) hl' rfl
      have hsb : Wb.heap.size = Wa.heap.size := by rw [← hWb]; simp
      rw [hWb]
      refine wpIn_mono (hbody _ k a' Wb (by omega) ⟨_, hlb⟩ hkN hib haxb) ?_
      have fin : ∀ (jump : Option Code) (W3 : World), KeepsFrom w.heap.size Wb W3 →
          (Instr.endRound (w.heap.size + 1) jump).run P W3 = .ok (.bool jump.isNone) (W3.putObj (w.heap.size + 1) (.loop (rec (if jump.isNone then .ready else .done) jump))) ∧
          W3.heap[w.heap.size + 1]? = some (.loop { rec .ready none with state := .busy }) ∧
          w.heap.size ≤ (W3.putObj (w.heap.size + 1) (.loop (rec (if jump.isNone then .ready else .done) jump))).heap.size ∧
          (W3.putObj (w.heap.size + 1) (.loop (rec (if jump.isNone then .ready else .done) jump))).heap[w.heap.size + 1]? = some (.loop (rec (if jump.isNone then .ready else .done) jump)) ∧
          (W3.putObj (w.heap.size + 1) (.loop (rec (if jump.isNone then .ready else .done) jump))).heap[w.heap.size]? = some (.deferred (some [])) := fun jump W3 hk3 => by
        have hl3 := hk3.same _ _ (by omega) hlb rfl
        have hsz := hk3.size
        have := run_endRound (P := P) jump hl3
        rw [hrec] at this ⊢
        refine ⟨this, by rw [hrec] at hl3; exact hl3, by simp; omega, World.putObj_heap_same (Array.getElem?_eq_some_iff.1 hl3).1, (World.putObj_heap_other (by omega)).trans (hk3.same _ _ (Nat.le_refl _) hkb rfl)⟩
      rintro e a3 W3 hp
      cases e with
      | normal =>
        obtain ⟨hk3, hkp3, hi3⟩ := hp
        obtain ⟨hr, hl3, hs3, hl4, hk4⟩ := fin none W3 hk3
        exact ⟨_, _, hr, .inl ⟨rfl, ⟨hI.putObj _ hi3 (by omega) hl3 rfl, hs3, hl4, hk4⟩, hKt _ _ _ (hKt _ _ _ (hKt _ _ _ hkpa hkpb) hkp3) (hKb _ _ _ _ (by omega) hl3 rfl)⟩⟩
      | ret =>
        obtain ⟨hk3, hi3⟩ := hp
        obtain ⟨hr, hl3, hs3, hl4, hk4⟩ := fin (some .ret) W3 hk3
        exact ⟨_, _, hr, .inr ⟨rfl, .ret, hIx.putObj _ hi3 (by omega) hl3 rfl, hs3, hl4, hk4⟩⟩
      | exit id =>
        obtain ⟨hk3, hi3⟩ := hp
        obtain ⟨hr, hl3, hs3, hl4, hk4⟩ := fin (some (.exit id)) W3 hk3
        exact ⟨_, _, hr, .inr ⟨rfl, .exit id, hIx.putObj _ hi3 (by omega) hl3 rfl, hs3, hl4, hk4⟩⟩
      | goto t =>
        obtain ⟨hk3, hi3⟩ := hp
        obtain ⟨hr, hl3, hs3, hl4, hk4⟩ := fin (some (.goto t)) W3 hk3
        exact ⟨_, _, hr, .inr ⟨rfl, .goto t, hIx.putObj _ hi3 (by omega) hl3 rfl, hs3, hl4, hk4⟩⟩
      | panic ch => exact hp.elim
      | outgrown => exact hp.elim
    · rintro e W2 ⟨⟨v, rfl⟩, (⟨hi, hs, hl, hk⟩ | ⟨c, hi, hs, hl, hk⟩)⟩
      · exact ⟨none, _, by have := run_endLoop (P := P) hl (by rw [hrec]; simp); rw [hrec] at this; exact this, hdone _ _ (Nat.le_refl _) (hI.putObj _ hi (by omega) hl rfl) ((World.putObj_heap_other (by omega)).trans hk)⟩
      · exact ⟨some c, _, by have := run_endLoop (P := P) hl (by rw [hrec]; simp); rw [hrec] at this; exact this, wpIn_wide.2 <| hstop _ c _ (Nat.le_refl _) (hIx.putObj _ hi (by omega) hl rfl) ((World.putObj_heap_other (by omega)).trans hk)⟩

/-- A row of the call's own abides the turn of a block that is no cells. -/
theorem owns_turn {A B : World} {row : Option Nat} {base e size : Nat} {v : Value} {n : Nat} {xs : List Value} (h : A.ownsRow base e size v n xs) (hg : A.grownBy B row)
    (hr : ∀ r, row = some r → ∃ o : Obj, A.heap[r]? = some o ∧ o.isCells = false) : B.ownsRow base e size v n xs := by
  refine h.kept hg ?_
  obtain ⟨_, ⟨rfl, _⟩ | ⟨g, cap, cur, rfl, _, hh, _⟩⟩ := h
  · exact .inl rfl
  · refine .inr (fun e' => ?_)
    obtain ⟨o, ho, hc⟩ := hr g (by rw [← e']; rfl)
    rw [hh] at ho; cases ho; cases hc

theorem boxed_at {W : World} {t : TypeId} {v : Value} {n : Nat} (h : W.heap.size = n) : Boxed (W.alloc (.cells #[v] t)) n t v := h ▸ Boxed.new W t v

theorem boxed_turn {A B : World} {row : Option Nat} {b : Nat} {t : TypeId} {v : Value} (h : Boxed A b t v) (hg : A.grownBy B row) (hr : ∀ r, row = some r → ∃ o : Obj, A.heap[r]? = some o ∧ o.isCells = false) : Boxed B b t v :=
  h.kept hg (fun e => by obtain ⟨o, ho, hc⟩ := hr b e.symm; rw [show A.heap[b]? = _ from h] at ho; cases ho; cases hc)

theorem _root_.Go.KeepsOthers.drewN' (w : World) (n : Nat) : KeepsOthers w (w.drewN n) := ⟨Nat.le_refl _, fun _ _ h _ => h⟩

theorem owns_below {A B : World} {base e size : Nat} {v : Value} {n : Nat} {xs : List Value} (h : A.ownsRow base e size v n xs) (hb : Below A.heap.size A B) : B.ownsRow base e size v n xs :=
  h.kept (row := none) ⟨hb.os, hb.tape, hb.output, hb.size, fun k hk _ => hb.block k hk⟩ (by cases v.ownBlock <;> simp)

/-- The blocks of S lie as they lay; no block has gone. -/
def KeepsOn (S : Nat → Prop) (A B : World) : Prop := A.heap.size ≤ B.heap.size ∧ ∀ b, S b → B.heap[b]? = A.heap[b]?

theorem KeepsOn.refl (S : Nat → Prop) (A : World) : KeepsOn S A A := ⟨Nat.le_refl _, fun _ _ => rfl⟩
theorem KeepsOn.trans {S : Nat → Prop} (A B C : World) (h : KeepsOn S A B) (k : KeepsOn S B C) : KeepsOn S A C :=
  ⟨Nat.le_trans h.1 k.1, fun b hb => (k.2 b hb).trans (h.2 b hb)⟩
theorem KeepsOn.putObj {S : Nat → Prop} {n : Nat} (hS : ∀ b, S b → b < n) (W : World) (l : Nat) (o o' : Obj) (hl : n ≤ l) (_ : W.heap[l]? = some o) (_ : o.isCells = false) : KeepsOn S W (W.putObj l o') :=
  ⟨by simp, fun b hb => World.putObj_heap_other (by have := hS b hb; omega)⟩
theorem KeepsOn.cell {S : Nat → Prop} {A B : World} (h : KeepsOn S A B) {p : Addr} (hp : S p.block) : B.cell? p = A.cell? p := World.cell?_of_block (h.2 _ hp)
theorem KeepsOn.frozen {S : Nat → Prop} {A B : World} (h : KeepsOn S A B) {p : Addr} (hp : S p.block) : B.frozen? p = A.frozen? p := World.frozen?_of_block (h.2 _ hp)
theorem KeepsOn.setCell {S : Nat → Prop} {A B : World} (h : KeepsOn S A B) {p : Addr} (hp : ¬ S p.block) (u : Value) : KeepsOn S A (B.setCell p u) :=
  h.trans _ _ _ ⟨by simp [World.setCell], fun b hb => Below.heap_setCell _ _ _ _ (fun e => hp (e ▸ hb))⟩
theorem KeepsOn.drewN {S : Nat → Prop} {A B : World} (h : KeepsOn S A B) (n : Nat) : KeepsOn S A (B.drewN n) := h
theorem KeepsOn.of_below {S : Nat → Prop} {n : Nat} {A B : World} (h : Below n A B) (hS : ∀ b, S b → b < n) : KeepsOn S A B := ⟨h.size, fun b hb => h.block b (hS b hb)⟩
theorem KeepsOn.lies {S : Nat → Prop} {w0 A B : World} (h : KeepsOn S A B) (hw : ∀ b, b < w0.heap.size → S b) (hA : Below w0.heap.size w0 A) {a : Option Addr} {cs : List Value} (hl : Lies w0 a cs) : Lies B a cs := by
  intro i hi
  obtain ⟨b, o, e, hc⟩ := hl i hi
  have hb := World.block_lt_of_cell? w0 _ hc
  exact ⟨b, o, e, (h.cell (p := ⟨b, o + i, none⟩) (hw _ hb)).trans ((hA.cell (p := ⟨b, o + i, none⟩) hb).trans hc)⟩

theorem owns_mono {A : World} {base base' e size : Nat} {v : Value} {n : Nat} {xs : List Value} (h : A.ownsRow base e size v n xs) (hb : base' ≤ base) : A.ownsRow base' e size v n xs := by
  obtain ⟨h1, h2 | ⟨g, cap, cur, rfl, h3, r⟩⟩ := h
  · exact ⟨h1, .inl h2⟩
  · exact ⟨h1, .inr ⟨g, cap, cur, rfl, by omega, r⟩⟩

/-- A row of the call's own is appended to, and put back into its box, which lies ahead of all rows. -/
theorem append_put {W w1 : World} {tmp : Obj} {base e size : Nat} {v v' : Value} {k m : Nat} {xs ys : List Value} {B n₀ : Nat} (hr : W.ownsRow base e size v k xs) (hown' : w1.ownsRow base e size v' m ys)
    (hgrow : (W.alloc tmp).grownBy w1 v.ownBlock) (hB : B < base) (hBW : base ≤ W.heap.size) (hn : n₀ ≤ B) :
    (w1.setCell ⟨B, 0, none⟩ v').ownsRow base e size v' m ys ∧ KeepsOthers W (w1.setCell ⟨B, 0, none⟩ v') ∧ Below n₀ W (w1.setCell ⟨B, 0, none⟩ v') ∧
      (∀ b t u, b < base → b ≠ B → Boxed W b t u → Boxed (w1.setCell ⟨B, 0, none⟩ v') b t u) ∧ (∀ t, Boxed W B t v → Boxed w1 B t v ∧ Boxed (w1.setCell ⟨B, 0, none⟩ v') B t v') ∧
      (∀ S : Nat → Prop, (∀ b, S b → b < base ∧ b ≠ B) → KeepsOn S W (w1.setCell ⟨B, 0, none⟩ v')) := by
  have hno : ∀ b, b < base → some b ≠ v.ownBlock := fun b hb e => by have := (hr.lt b e.symm).1; omega
  have hsz : W.heap.size ≤ w1.heap.size := by have := hgrow.size; simp at this; omega
  have hblk : ∀ b, b < base → b ≠ B → (w1.setCell ⟨B, 0, none⟩ v').heap[b]? = W.heap[b]? := fun b hb hne =>
    (Below.heap_setCell _ _ _ _ hne).trans ((hgrow.block b (by simp; omega) (hno b hb)).trans (Below.heap_alloc _ _ _ (by omega)))
  have hbox1 : ∀ t, Boxed W B t v → Boxed w1 B t v := fun t h => (h.alloc tmp).kept hgrow (hno B hB)
  refine ⟨ownsRow_setCell_below hown' hB _, ?_, ?_, fun b t u hb hne h => (hblk b hb hne).trans h, fun t h => ⟨hbox1 t h, (hbox1 t h).set v'⟩, fun S hS => ⟨by simp [World.setCell]; exact hsz, fun b hb => hblk b (hS b hb).1 (hS b hb).2⟩⟩
  · refine ((KeepsOthers.alloc W tmp).trans (KeepsOthers.of_grownBy hgrow fun j o ej hj => ?_)).trans (KeepsOthers.setCell _ _ _)
    rcases (hr.alloc tmp).2 with ⟨rfl, _⟩ | ⟨g, cap, cur, rfl, _, hgb, _⟩
    · simp [Value.ownBlock] at ej
    · obtain rfl : g = j := by simpa [Value.ownBlock] using ej
      rw [hgb] at hj; cases hj; rfl
  · refine (((Below.refl n₀ W).alloc (by omega) tmp).grown hgrow (by simp; omega) fun j ej => ?_).setCell (p := ⟨B, 0, none⟩) hn v'
    have := (hr.lt j ej).1; omega

/-- The law where the function that is ranged over turns nothing of its own, and the loop's variables are no boxes. -/
theorem range_law0 {P : Program} {g : Operand} {ps : Array Tmp} {assign body : Code} {Q : Exit → Act → World → Prop} {a : Act} {w : World}
    {gf : Nat} {lb : Array Value} (hg : a.eval g = .func (.func gf) #[] lb) (eg : ∀ args w, (callFunc gf args).run P w = .ok (.enter gf args) w)
    {encs : Nat → Array Value} {N : Nat} {S : Nat → Prop} (hseq : SeqP P gf lb encs N Eq (KeepsOn S) w) (hS : ∀ b, S b → b < w.heap.size)
    (hps : ∀ k, (encs k).size = ps.size)
    (I : Nat → World → Prop) (Ix : Code → World → Prop) (hI : OwnFrom w.heap.size I) (hIx : OwnFrom w.heap.size Ix) (h0 : I 0 w)
    (a₁ : Nat → Act)
    (hassign : ∀ (l k : Nat) (W : World) (K : Act → World → Prop), K (a₁ k) W →
      assign.wpIn (Fence.wide.inRound l) 0 P (Exit.then K (fun _ _ _ => False)) { tmps := (ps.zip (encs k)).foldl (fun t (p, v) => t.setIfInBounds p v) a.tmps, defers := [] } W)
    (hbody : ∀ (l k : Nat) (W : World), k < N → I k W → body.wpIn (Fence.wide.inRound l) 0 P (roundEnd w.heap.size (KeepsOn S) I Ix k W) (a₁ k) W)
    (hdone : ∀ (D : Nat) (W : World), w.heap.size ≤ D → I N W → W.heap[D]? = some (.deferred (some [])) → Q .normal { a with defers := { target := .collected D, args := #[] } :: a.defers } W)
    (hstop : ∀ (D : Nat) (c : Code) (W : World), w.heap.size ≤ D → Ix c W → W.heap[D]? = some (.deferred (some [])) → c.wp P Q { a with defers := { target := .collected D, args := #[] } :: a.defers } W) :
    (Code.rangeFunc g ps assign body).wp P Q a w :=
  range_law hg eg hseq (fun A B e => e ▸ KeepsFrom.refl _ _) (fun A B C h k => h.trans _ _ _ k) (fun W l o o' hl h1 h2 => KeepsOn.putObj hS W l o o' hl h1 h2) hps I Ix hI hIx
    (fun k A B _ h e => e ▸ h) (fun c A B _ h e => e ▸ h) h0 (fun k a' _ => a' = a₁ k) (fun k a' => fun _ _ _ _ h _ _ => h)
    (fun l k W K _ hi hK => hassign l k W K (hK _ _ (KeepsFrom.refl _ _) (KeepsOn.refl _ _) hi rfl))
    (fun l k a' W _ _ hk hi e => e ▸ hbody l k W hk hi) hdone hstop

end Go.Proofs.YthlingdlehdlhaaDoor

namespace Go.Proofs.YthlingdlehdlhaaDoor
open Go.RowKit Go.Shelf
set_option linter.unusedVariables false

/-- The function gf, with lb captured, calls yield N times, with arguments of which En says what they are; between two calls it does no more than Mv says; of a round that goes on it asks Kp; at its end Fin. -/
def SeqE (P : Program) (gf : Nat) (lb : Array Value) (En : Nat → Array Value → World → Prop) (Fin : World → Prop) (N : Nat) (Mv Kp : World → World → Prop) (w0 : World) : Prop :=
  ∀ (l : Nat) (J : Nat → World → Prop) (Jx : World → Prop) (W : World), Below w0.heap.size w0 W →
    (∀ k A B, W.heap.size ≤ A.heap.size → J k A → Mv A B → J k B) → (∀ A B, W.heap.size ≤ A.heap.size → Jx A → Mv A B → Jx B) →
    (∀ k args W1, k < N → J k W1 → En k args W1 → YieldAt Fence.wide 0 P l args W1 fun e W' =>
      (e = .returned (.bool true) ∧ J (k + 1) W' ∧ Kp W1 W') ∨ (e = .returned (.bool false) ∧ Jx W')) →
    J 0 W →
    Calls P gf (#[.func (.yield l) #[] #[]] ++ lb) W fun e W' => (∃ v, e = .returned v) ∧ ((J N W' ∧ Fin W') ∨ Jx W')

theorem range_lawE {P : Program} {g : Operand} {ps : Array Tmp} {assign body : Code} {Q : Exit → Act → World → Prop} {a : Act} {w : World}
    {gf : Nat} {lb : Array Value} (hg : a.eval g = .func (.func gf) #[] lb) (eg : ∀ args w, (callFunc gf args).run P w = .ok (.enter gf args) w)
    {En : Nat → Array Value → World → Prop} {Fin : World → Prop} {N : Nat} {Mv Kp : World → World → Prop} (hseq : SeqE P gf lb En Fin N Mv Kp w) (hFin : OwnFrom w.heap.size (fun (_ : Unit) W => Fin W))
    (hMv : ∀ A B, Mv A B → KeepsFrom w.heap.size A B)
    (hKt : ∀ A B C, Kp A B → Kp B C → Kp A C) (hKb : ∀ (W : World) (l : Nat) (o o' : Obj), w.heap.size ≤ l → W.heap[l]? = some o → o.isCells = false → Kp W (W.putObj l o'))
    (hps : ∀ k args W, En k args W → args.size = ps.size)
    (I : Nat → World → Prop) (Ix : Code → World → Prop) (hI : OwnFrom w.heap.size I) (hIx : OwnFrom w.heap.size Ix)
    (hIM : ∀ k A B, w.heap.size ≤ A.heap.size → I k A → Mv A B → I k B) (hIxM : ∀ c A B, w.heap.size ≤ A.heap.size → Ix c A → Mv A B → Ix c B) (h0 : I 0 w)
    (Ax : Nat → Act → World → Prop) (hAx : ∀ k a', OwnFrom w.heap.size (fun (_ : Unit) W => Ax k a' W))
    (hassign : ∀ (l k : Nat) (args : Array Value) (W : World) (K : Act → World → Prop), k < N → I k W → En k args W → (∀ a' W', KeepsFrom w.heap.size W W' → Kp W W' → I k W' → Ax k a' W' → K a' W') →
      assign.wpIn (Fence.wide.inRound l) 0 P (Exit.then K (fun _ _ _ => False)) { tmps := (ps.zip args).foldl (fun t (p, v) => t.setIfInBounds p v) a.tmps, defers := [] } W)
    (hbody : ∀ (l k : Nat) (a' : Act) (W : World), w.heap.size ≤ l → (∃ r, W.heap[l]? = some (.loop r)) → k < N → I k W → Ax k a' W → body.wpIn (Fence.wide.inRound l) 0 P (roundEnd w.heap.size Kp I Ix k W) a' W)
    (hdone : ∀ (D : Nat) (W : World), w.heap.size ≤ D → I N W → Fin W → W.heap[D]? = some (.deferred (some [])) → Q .normal { a with defers := { target := .collected D, args := #[] } :: a.defers } W)
    (hstop : ∀ (D : Nat) (c : Code) (W : World), w.heap.size ≤ D → Ix c W → W.heap[D]? = some (.deferred (some [])) → c.wp P Q { a with defers := { target := .collected D, args := #[] } :: a.defers } W) :
    (Code.rangeFunc g ps assign body).wp P Q a w := by
  refine (wpIn_wide (n := 0)).1 (wpIn_rangeFunc ?_)
  intro fn hfn
  obtain ⟨rec, hrec⟩ : ∃ rec : LoopState → Option Code → Loop, rec = fun st pe => { state := st, pending := pe, fn, tmps := a.tmps, params := ps, assign, body, defers := w.heap.size } := ⟨_, rfl⟩
  obtain ⟨W1, hW1⟩ : ∃ W1, (w.alloc (.deferred (some []))).alloc (.loop (rec .ready none)) = W1 := ⟨_, rfl⟩
  have hL1 : W1.heap[w.heap.size + 1]? = some (.loop (rec .ready none)) := by
    rw [← hW1]; have := World.alloc_heap_new (w.alloc (.deferred (some []))) (.loop (rec .ready none)); rwa [World.size_alloc] at this
  have hK1 : W1.heap[w.heap.size]? = some (.deferred (some [])) := by
    rw [← hW1]; exact (Below.heap_alloc _ _ _ (by simp)).trans (World.alloc_heap_new w _)
  have hI1 : I 0 W1 := by rw [← hW1]; exact hI.alloc _ (hI.alloc _ h0)
  have hb1 : Below w.heap.size w W1 := by
    rw [← hW1]; exact ((Below.refl _ w).alloc (Nat.le_refl _) _).alloc (by simp) _
  have hs1 : w.heap.size ≤ W1.heap.size := hb1.size
  refine ⟨w.heap.size + 1, [{ target := .collected w.heap.size, args := #[] }], W1, { target := .fn (.func gf) lb, args := #[.func (.yield (w.heap.size + 1)) #[] #[]] }, W1, gf,
    #[.func (.yield (w.heap.size + 1)) #[] #[]] ++ lb, W1, ?_, ?_, fun _ _ => trivial, ?_, ?_, callsIn_wide.2 ?_⟩
  · rw [← hW1, hrec]; exact run_enterLoop_outer _ _ _ _ _
  · simp only [resolve, hg]
    simp [go_sem]
  · simp [invoke, go_sem, eg]
  · intro h; simp [Fence.wide] at h
  · refine (hseq (w.heap.size + 1)
      (fun k W => I k W ∧ w.heap.size ≤ W.heap.size ∧ W.heap[w.heap.size + 1]? = some (.loop (rec .ready none)) ∧ W.heap[w.heap.size]? = some (.deferred (some [])))
      (fun W => ∃ c, Ix c W ∧ w.heap.size ≤ W.heap.size ∧ W.heap[w.heap.size + 1]? = some (.loop (rec .done (some c))) ∧ W.heap[w.heap.size]? = some (.deferred (some [])))
      W1 hb1 ?_ ?_ ?_ ⟨hI1, hs1, hL1, hK1⟩).mono ?_
    · rintro k A B hA ⟨hi, hs, hl, hk⟩ hm
      have hkf := hMv _ _ hm
      exact ⟨hIM _ _ _ hs hi hm, Nat.le_trans hs hkf.size, hkf.same _ _ (by omega) hl rfl, hkf.same _ _ (by omega) hk rfl⟩
    · rintro A B hA ⟨c, hi, hs, hl, hk⟩ hm
      have hkf := hMv _ _ hm
      exact ⟨c, hIxM _ _ _ hs hi hm, Nat.le_trans hs hkf.size, hkf.same _ _ (by omega) hl rfl, hkf.same _ _ (by omega) hk rfl⟩
    · rintro k args W hkN ⟨hi, hs, hl, hk⟩ hen
      have hy := run_yield (P := P) (args := args) hl (by rw [hrec]; exact hps k args W hen)
      rw [hrec] at hy
      refine ⟨fn, _, assign, body, hy, roundIn_of_wpIn hfn (hassign _ k args W _ hkN hi hen ?_)⟩
      clear hy
      intro a' Wa hkfa hkpa hia hax
      have hl' := hkfa.same _ _ (by omega) hl rfl
      have hk' := hkfa.same _ _ (by omega) hk rfl
      have hsa : w.heap.size ≤ Wa.heap.size := Nat.le_trans hs hkfa.size
      have hlt : w.heap.size + 1 < Wa.heap.size := (Array.getElem?_eq_some_iff.1 hl').1
      refine ⟨_, run_beginRound hl' (by rw [hrec]), ?_⟩
      obtain ⟨Wb, hWb⟩ : ∃ Wb, Wa.putObj (w.heap.size + 1) (.loop { rec .ready none with state := .busy }) = Wb := ⟨_, rfl⟩
      have hlb : Wb.heap[w.heap.size + 1]? = some (.loop { rec .ready none with state := .busy }) := by rw [← hWb]; exact World.putObj_heap_same hlt
      have hkb : Wb.heap[w.heap.size]? = some (.deferred (some [])) := by rw [← hWb]; exact (World.putObj_heap_other (by omega)).trans hk'
      have hkpb : Kp Wa Wb := by rw [← hWb]; exact hKb _ _ _ _ (by omega) hl' rfl
      have hib : I k Wb := by rw [← hWb]; exact hI.putObj _ hia (by omega) hl' rfl
      have haxb : Ax k a' Wb := by rw [← hWb]; exact (hAx k a').putObj (s := ()) _ hax (by omega) hl' rfl
      have hsb : Wb.heap.size = Wa.heap.size := by rw [← hWb]; simp
      rw [hWb]
      refine wpIn_mono (hbody _ k a' Wb (by omega) ⟨_, hlb⟩ hkN hib haxb) ?_
      have fin : ∀ (jump : Option Code) (W3 : World), KeepsFrom w.heap.size Wb W3 →
          (Instr.endRound (w.heap.size + 1) jump).run P W3 = .ok (.bool jump.isNone) (W3.putObj (w.heap.size + 1) (.loop (rec (if jump.isNone then .ready else .done) jump))) ∧
          W3.heap[w.heap.size + 1]? = some (.loop { rec .ready none with state := .busy }) ∧
          w.heap.size ≤ (W3.putObj (w.heap.size + 1) (.loop (rec (if jump.isNone then .ready else .done) jump))).heap.size ∧
          (W3.putObj (w.heap.size + 1) (.loop (rec (if jump.isNone then .ready else .done) jump))).heap[w.heap.size + 1]? = some (.loop (rec (if jump.isNone then .ready else .done) jump)) ∧
          (W3.putObj (w.heap.size + 1) (.loop (rec (if jump.isNone then .ready else .done) jump))).heap[w.heap.size]? = some (.deferred (some [])) := fun jump W3 hk3 => by
        have hl3 := hk3.same _ _ (by omega) hlb rfl
        have hsz := hk3.size
        have := run_endRound (P := P) jump hl3
        rw [hrec] at this ⊢
        refine ⟨this, by rw [hrec] at hl3; exact hl3, by simp; omega, World.putObj_heap_same (Array.getElem?_eq_some_iff.1 hl3).1, (World.putObj_heap_other (by omega)).trans (hk3.same _ _ (Nat.le_refl _) hkb rfl)⟩
      rintro e a3 W3 hp
      cases e with
      | normal =>
        obtain ⟨hk3, hkp3, hi3⟩ := hp
        obtain ⟨hr, hl3, hs3, hl4, hk4⟩ := fin none W3 hk3
        exact ⟨_, _, hr, .inl ⟨rfl, ⟨hI.putObj _ hi3 (by omega) hl3 rfl, hs3, hl4, hk4⟩, hKt _ _ _ (hKt _ _ _ (hKt _ _ _ hkpa hkpb) hkp3) (hKb _ _ _ _ (by omega) hl3 rfl)⟩⟩
      | ret =>
        obtain ⟨hk3, hi3⟩ := hp
        obtain ⟨hr, hl3, hs3, hl4, hk4⟩ := fin (some .ret) W3 hk3
        exact ⟨_, _, hr, .inr ⟨rfl, .ret, hIx.putObj _ hi3 (by omega) hl3 rfl, hs3, hl4, hk4⟩⟩
      | exit id =>
        obtain ⟨hk3, hi3⟩ := hp
        obtain ⟨hr, hl3, hs3, hl4, hk4⟩ := fin (some (.exit id)) W3 hk3
        exact ⟨_, _, hr, .inr ⟨rfl, .exit id, hIx.putObj _ hi3 (by omega) hl3 rfl, hs3, hl4, hk4⟩⟩
      | goto t =>
        obtain ⟨hk3, hi3⟩ := hp
        obtain ⟨hr, hl3, hs3, hl4, hk4⟩ := fin (some (.goto t)) W3 hk3
        exact ⟨_, _, hr, .inr ⟨rfl, .goto t, hIx.putObj _ hi3 (by omega) hl3 rfl, hs3, hl4, hk4⟩⟩
      | panic ch => exact hp.elim
      | outgrown => exact hp.elim
    · rintro e W2 ⟨⟨v, rfl⟩, (⟨⟨hi, hs, hl, hk⟩, hfin⟩ | ⟨c, hi, hs, hl, hk⟩)⟩
      · exact ⟨none, _, by have := run_endLoop (P := P) hl (by rw [hrec]; simp); rw [hrec] at this; exact this, hdone _ _ (Nat.le_refl _) (hI.putObj _ hi (by omega) hl rfl) (hFin.putObj (s := ()) _ hfin (by omega) hl rfl) ((World.putObj_heap_other (by omega)).trans hk)⟩
      · exact ⟨some c, _, by have := run_endLoop (P := P) hl (by rw [hrec]; simp); rw [hrec] at this; exact this, wpIn_wide.2 <| hstop _ c _ (Nat.le_refl _) (hIx.putObj _ hi (by omega) hl rfl) ((World.putObj_heap_other (by omega)).trans hk)⟩

end Go.Proofs.YthlingdlehdlhaaDoor

namespace Go.Proofs.YthlingdlehdlhaaDoor
open Go.RowKit Go.Shelf
set_option linter.unusedVariables false

theorem wp_round {P : Program} {o : Oper} {a : Act} {w : World} {l : Nat} {K K' : Act → World → Prop} {Q : Exit → Act → World → Prop} (hd : ∀ c, o.op ≠ .defer c) (hK : ∀ a w, K a w → K' a w)
    (h : o.wp P a w K Q) : o.wpIn (Fence.wide.inRound l) 0 P a w K' Q := by
  unfold Oper.wp at h
  unfold Oper.wpIn
  refine ⟨fun _ _ => trivial, ?_⟩
  rw [Oper.semAt_eq _ _ _ hd]
  generalize (execOp a.eval o).run P w = r at h
  cases r with
  | ok x w' =>
    cases x <;> simp only [Oper.upon, Oper.uponIn] at h ⊢ <;> first
      | exact hK _ _ h
      | exact ⟨by intro h; simp [Fence.inRound, Fence.wide] at h, round_calls l (h.mono fun e w'' he => by cases e <;> first | exact hK _ _ he | exact he)⟩
      | exact ⟨by intro h; simp [Fence.inRound, Fence.wide] at h, fun c cs _ => let ⟨v, w2, hr, hs⟩ := h c cs; ⟨v, w2, hK _ _ hr, stepsIn_wide.2 hs⟩⟩
      | exact h.elim
  | halt x w' => cases x <;> simp only [Oper.upon, Oper.uponIn] at h ⊢ <;> exact h

theorem wpAny_round {P : Program} {md : Region.Mode} {ops : Array Oper} {Q : Exit → Act → World → Prop} {l : Nat} (hd : ∀ (i : Nat) (o : Oper), ops[i]? = some o → ∀ c, o.op ≠ .defer c) (hQ : ¬ LetsOut Q) :
    ∀ (fuel : Nat) (listed : Array Bool) (a : Act) (w : World), wpAny P md ops Q fuel listed a w → wpAnyIn (Fence.wide.inRound l) 0 P md ops Q fuel listed a w := by
  intro fuel
  induction fuel with
  | zero => exact fun listed a w h => h
  | succ fuel ih =>
    intro listed a w h
    refine ⟨h.1, fun i hi => ?_⟩
    have h2 := h.2 i hi
    unfold wpOp at h2
    unfold wpOpIn
    cases ho : ops[i]? with
    | none => simp only [ho] at h2 ⊢; exact ih _ _ _ h2
    | some o =>
      simp only [ho] at h2 ⊢
      by_cases hw : Region.wanted o (yielded ops a.tmps) = true
      · simp only [hw, if_true] at h2 ⊢
        rcases h2 with h2 | ⟨_, h2⟩
        · exact wp_round (hd i o ho) (fun a w h => ih _ a w h) h2
        · exact absurd h2 hQ
      · simp only [hw, if_false, Bool.false_eq_true] at h2 ⊢
        exact ⟨fun _ _ => trivial, ih _ _ _ h2⟩

/-- No operation defers. -/
def noDefer (ops : Array Oper) : Bool := ops.all fun o => match o.op with | .defer _ => false | _ => true

theorem noDefer_spec {ops : Array Oper} (h : noDefer ops = true) (i : Nat) (o : Oper) (ho : ops[i]? = some o) (c : Call) : o.op ≠ .defer c := by
  intro e
  obtain ⟨hi, rfl⟩ := Array.getElem?_eq_some_iff.1 ho
  have := (Array.all_eq_true.1 h) i hi
  rw [e] at this
  cases this

theorem round_any {P : Program} {id : Nat} {ops : Array Oper} {Q : Exit → Act → World → Prop} {a : Act} {w : World} {l : Nat} (hm : P.follows .mixedOrders = true) (hd : noDefer ops = true) (hQ : ¬ LetsOut Q)
    (h : wpAny P .any ops Q ops.size (Array.replicate ops.size false) a { w with drawn := w.drawn + 1 }) : (Code.region id ops true).wpIn (Fence.wide.inRound l) 0 P Q a w :=
  wpIn_region_any hm (wpAny_round (noDefer_spec hd) hQ _ _ _ _ h)

/-- A region that only reads, in a round: one walk, in the order of the text. -/
theorem round_quiet {P : Program} {id : Nat} {Q : Exit → Act → World → Prop} {a : Act} {w : World} {l : List Oper} {r : Nat} (hm : P.follows .mixedOrders = true) (hB : Region.lexB .any l.toArray = true) (hd : noDefer l.toArray = true) (hQ : ¬ LetsOut Q)
    (h : wpQuiet P l.toArray (fun w' => ∃ n, w' = w.drewN n) (fun a' => ∀ w', (∃ n, w' = w.drewN n) → Q .normal a' w') l a) : (Code.region id l.toArray true).wpIn (Fence.wide.inRound r) 0 P Q a w := by
  simp only [Region.lexB, Bool.and_eq_true] at hB
  refine round_any hm hd hQ (wpAny_of_quiet (Q := fun a' => ∀ w', (∃ n, w' = w.drewN n) → Q .normal a' w') (C := fun w' => ∃ n, w' = w.drewN n) (fun _ w' hw' h => h w' hw') _ _ _ _ ⟨1, rfl⟩ ?_)
  have := wpAnyQ_lex (C := fun w' => ∃ n, w' = w.drewN n) (md := .any) hB.1 l.toArray.toList 0 (Array.replicate l.toArray.size false) a (by simp) (by simpa using hB.2) h
  simpa using this

/-- A region that reads, and whose last operations, in one order, may write, in a round. -/
theorem round_still_tail {P : Program} {id : Nat} {Q : Exit → Act → World → Prop} {a : Act} {w : World} {l : List Oper} {r : Nat} (n : Nat) (hm : P.follows .mixedOrders = true) (hB : Region.lexTailB .any l.toArray n = true) (hd : noDefer l.toArray = true) (hQ : ¬ LetsOut Q)
    (h' : ∀ L : Act → Prop, (∀ a', wpList P l.toArray Q (l.drop n) a' w.drew → L a') → wpStill P l.toArray w.drew L (l.take n) a) : (Code.region id l.toArray true).wpIn (Fence.wide.inRound r) 0 P Q a w := by
  have h : wpStill P l.toArray { w with drawn := w.drawn + 1 } (fun a' => wpList P l.toArray Q (l.drop n) a' { w with drawn := w.drawn + 1 }) (l.take n) a := h' _ fun _ h => h
  simp only [Region.lexTailB, Bool.and_eq_true, decide_eq_true_eq] at hB
  obtain ⟨⟨⟨⟨hsel, hn⟩, hs⟩, hc⟩, hlex⟩ := hB
  have hn' : n < l.length := by simpa using hn
  have htl : (l.take n).length = n := by simp; omega
  have hdl : (l.drop n).length = l.toArray.size - n := by simp
  have inv0 : HeadInv .any l.toArray n (Array.replicate l.toArray.size false) :=
    ⟨by simp, fun j oj _ hl => (by rw [getD_replicate_false] at hl; cases hl), fun t _ ht => getD_in (by simpa using ht) (getD_replicate_false _ _)⟩
  have H := wpAnyL_lex (md := .any) (g := l.toArray.size - n) hsel hs hc hn (l.take n) 0 _ a (fun j hj => by
    have hj' : j < n := by rw [htl] at hj; exact hj
    simp [hj']) (by simpa using htl) inv0 (by rw [htl]; exact hlex) h
  refine round_any hm hd hQ ?_
  have := wpAny_of_head (Q' := Q) (g := l.toArray.size - n) (fun listed a' hL => by
    have := wpAny_of_seq (md := .any) (Q' := Q) (l.drop n) n listed a' { w with drawn := w.drawn + 1 } (fun j => by simp [List.getElem?_drop]) (by rw [hdl]; exact hL.1) hL.2
    rwa [hdl] at this) _ _ _ H
  rw [htl, show n + (l.toArray.size - n) = l.toArray.size by omega] at this
  exact this

theorem still_skip {P : Program} {ops : Array Oper} {w : World} {Q : Act → Prop} {a : Act} {o : Oper} {rest : List Oper} (hw : Region.wanted o (yielded ops a.tmps) = false) (h : wpStill P ops w Q rest (a.put o.dst undef)) :
    wpStill P ops w Q (o :: rest) a :=
  wpStill_step fun K hK => by rw [if_neg (by rw [hw]; exact Bool.false_ne_true)]; exact hK _ h

/-- The same outside a round. -/
theorem still_tail {P : Program} {id : Nat} {Q : Exit → Act → World → Prop} {a : Act} {w : World} {l : List Oper} (n : Nat) (hm : P.follows .mixedOrders = true) (hB : Region.lexTailB .any l.toArray n = true)
    (h' : ∀ L : Act → Prop, (∀ a', wpList P l.toArray Q (l.drop n) a' w.drew → L a') → wpStill P l.toArray w.drew L (l.take n) a) : (Code.region id l.toArray true).wp P Q a w :=
  wp_region_still_tail n hm hB (h' _ fun _ h => h)

theorem still_of_quiet {P : Program} {ops : Array Oper} {w : World} {Q : Act → Prop} : ∀ (l : List Oper) (a : Act), wpQuiet P ops (fun w' => w' = w) Q l a → wpStill P ops w Q l a := by
  intro l
  induction l with
  | nil => exact fun a h => h
  | cons o rest ih =>
    intro a h
    unfold wpQuiet at h
    unfold wpStill
    by_cases hw : Region.wanted o (yielded ops a.tmps) = true
    · rw [if_pos hw] at h ⊢
      obtain ⟨v, h1, h2⟩ := h
      have h1 := h1 w rfl
      unfold Oper.quietAt at h1
      unfold Oper.still
      generalize (execOp a.eval o).run P w = r at h1
      cases r with
      | ok x w' =>
        cases x <;> simp only [Oper.quietUpon, Oper.stillUpon] at h1 ⊢
        case value u => exact ⟨h1.1, h1.2 ▸ ih _ h2⟩
        case skip => exact ⟨h1.1, h1.2 ▸ ih _ h2⟩
        case enter f args => exact ⟨h1.1, v, h1.2, ih _ h2⟩
        all_goals exact h1.elim
      | halt x w' => exact h1.elim
    · rw [if_neg hw] at h ⊢
      exact ih _ h

/-- A region that reads, and whose last operations, in one order, may write, in a round: the reading by the quick walk. -/
theorem round_tail {P : Program} {id : Nat} {Q : Exit → Act → World → Prop} {a : Act} {w : World} {l : List Oper} {r : Nat} (n : Nat) (hm : P.follows .mixedOrders = true) (hB : Region.lexTailB .any l.toArray n = true) (hd : noDefer l.toArray = true) (hQ : ¬ LetsOut Q)
    (h : ∀ L : Act → Prop, (∀ a', wpList P l.toArray Q (l.drop n) a' w.drew → L a') → wpQuiet P l.toArray (fun w' => w' = w.drew) L (l.take n) a) : (Code.region id l.toArray true).wpIn (Fence.wide.inRound r) 0 P Q a w :=
  round_still_tail n hm hB hd hQ fun L hL => still_of_quiet _ _ (h L hL)

/-- The same outside a round. -/
theorem plain_tail {P : Program} {id : Nat} {Q : Exit → Act → World → Prop} {a : Act} {w : World} {l : List Oper} (n : Nat) (hm : P.follows .mixedOrders = true) (hB : Region.lexTailB .any l.toArray n = true)
    (h : ∀ L : Act → Prop, (∀ a', wpList P l.toArray Q (l.drop n) a' w.drew → L a') → wpQuiet P l.toArray (fun w' => w' = w.drew) L (l.take n) a) : (Code.region id l.toArray true).wp P Q a w :=
  still_tail n hm hB fun L hL => still_of_quiet _ _ (h L hL)

theorem noOut_then {K : Act → World → Prop} {Q : Exit → Act → World → Prop} (h : ¬ LetsOut Q) : ¬ LetsOut (Exit.then K Q) := h
theorem noOut_roundEnd {B : Nat} {Kp : World → World → Prop} {I : Nat → World → Prop} {Ix : Code → World → Prop} {k : Nat} {W : World} : ¬ LetsOut (roundEnd B Kp I Ix k W) := fun ⟨_, _, h⟩ => h

end Go.Proofs.YthlingdlehdlhaaDoor

namespace Go.Proofs.YthlingdlehdlhaaDoor
open Go.RowKit
set_option linter.unusedVariables false

/-- The byte at a place. -/
def bt (s : ByteArray) (i : Nat) : UInt8 := s.data.toList[i]?.getD 0

theorem bt_get (s : ByteArray) (i : Nat) (h : i < s.size) : s[i] = bt s i := by
  have h' : i < s.data.toList.length := by simpa using h
  unfold bt
  rw [List.getElem?_eq_getElem h']
  simp
  rfl

def stepSt (c : UInt8) (q : Bool) (d : Nat) : Bool × Nat :=
  if c = 39 then (!q, d) else if q = true then (q, d) else if c = 123 then (q, d + 1) else if c = 125 then (q, d - 1) else (q, d)

/-- Quoted? How deep? ahead of byte i. -/
def stAt (s : ByteArray) : Nat → Bool × Nat
  | 0 => (false, 0)
  | i + 1 => stepSt (bt s i) (stAt s i).1 (stAt s i).2

def dia : List UInt8 := [226, 139, 132]

/-- Does a diamond begin at byte i? -/
def diaAt (s : ByteArray) (i : Nat) : Bool := Lib.hasPrefix (s.data.toList.drop i) dia

/-- How many bytes are cut out at byte i. -/
def cutAt (s : ByteArray) (i : Nat) : Nat :=
  if (stAt s i).1 = true ∨ (stAt s i).2 ≠ 0 then 0 else if bt s i = 10 then 1 else if diaAt s i = true then 3 else 0

def cutsTo (s : ByteArray) : Nat → List (Nat × Nat)
  | 0 => []
  | i + 1 => cutsTo s i ++ if cutAt s i = 0 then [] else [(i, i + cutAt s i)]

def allCuts (s : ByteArray) : List (Nat × Nat) := cutsTo s s.size ++ [(s.size, s.size)]

/-- Where the piece behind the last cut begins. -/
def endOf (l : List (Nat × Nat)) : Nat := (l.getLast?.map (·.2)).getD 0

theorem endOf_nil : endOf [] = 0 := rfl
theorem endOf_snoc (l : List (Nat × Nat)) (c : Nat × Nat) : endOf (l ++ [c]) = c.2 := by simp [endOf]

/-- Nothing but blanks? -/
def blankB (p : ByteArray) : Bool := p.data.toList.all (· == 32)

/-- The pieces that are no blanks. -/
def outOf (s : ByteArray) : List (Nat × Nat) → Nat → List ByteArray
  | [], _ => []
  | (p, nx) :: r, f => (if blankB (s.extract f p) = true then [] else [s.extract f p]) ++ outOf s r nx

theorem outOf_snoc (s : ByteArray) (l : List (Nat × Nat)) (c : Nat × Nat) (f : Nat) :
    outOf s (l ++ [c]) f = outOf s l f ++ if blankB (s.extract ((l.getLast?.map (·.2)).getD f) c.1) = true then [] else [s.extract ((l.getLast?.map (·.2)).getD f) c.1] := by
  induction l generalizing f with
  | nil =>
    simp only [outOf, List.nil_append, List.append_nil, List.getLast?_nil, Option.map_none, Option.getD_none]
    rfl
  | cons x r ih =>
    obtain ⟨p, nx⟩ := x
    simp only [List.cons_append, outOf, ih]
    rw [List.append_assoc]
    cases r with
    | nil =>
      simp only [outOf, List.nil_append, List.getLast?_nil, Option.map_none, Option.getD_none, List.getLast?_singleton, Option.map_some, Option.getD_some]
      rfl
    | cons y r' =>
      have : ((p, nx) :: y :: r').getLast? = (y :: r').getLast? := by simp [List.getLast?_cons]
      rw [this]
      have h2 : ∃ z, (y :: r').getLast? = some z := ⟨_, List.getLast?_eq_some_getLast (by simp)⟩
      obtain ⟨z, hz⟩ := h2
      simp [hz]

theorem outOf_snoc' (s : ByteArray) (l : List (Nat × Nat)) (c : Nat × Nat) :
    outOf s (l ++ [c]) 0 = outOf s l 0 ++ if blankB (s.extract (endOf l) c.1) = true then [] else [s.extract (endOf l) c.1] := outOf_snoc s l c 0

/-- A program's statements. -/
def splitOf (s : ByteArray) : List ByteArray := outOf s (allCuts s) 0

theorem dia_bytes (s : ByteArray) (i : Nat) (h : diaAt s i = true) : i + 3 ≤ s.size ∧ bt s i = 226 ∧ bt s (i + 1) = 139 ∧ bt s (i + 2) = 132 := by
  unfold diaAt Lib.hasPrefix dia at h
  rw [List.isPrefixOf_iff_prefix] at h
  obtain ⟨t, ht⟩ := h
  have hl := congrArg List.length ht
  simp only [List.length_append, List.length_cons, List.length_nil, List.length_drop] at hl
  have hs : s.data.toList.length = s.size := by rw [Array.length_toList]; rfl
  have g : ∀ j, j < 3 → s.data.toList[i + j]? = ([226, 139, 132] : List UInt8)[j]? := by
    intro j hj
    have e := congrArg (fun l => l[j]?) ht
    simp only [List.getElem?_drop] at e
    rw [← e, List.getElem?_append_left (by simpa using hj)]
  refine ⟨by omega, ?_, ?_, ?_⟩
  · have := g 0 (by omega); simp only [Nat.add_zero] at this; unfold bt; rw [this]; rfl
  · have := g 1 (by omega); unfold bt; rw [this]; rfl
  · have := g 2 (by omega); unfold bt; rw [this]; rfl

theorem cut_three (s : ByteArray) (i : Nat) (h : cutAt s i = 3) : diaAt s i = true := by
  unfold cutAt at h
  split at h
  · omega
  · split at h
    · omega
    · split at h
      · assumption
      · omega

theorem cut_cases (s : ByteArray) (i : Nat) : cutAt s i = 0 ∨ cutAt s i = 1 ∨ cutAt s i = 3 := by
  unfold cutAt
  split
  · exact .inl rfl
  · split
    · exact .inr (.inl rfl)
    · split
      · exact .inr (.inr rfl)
      · exact .inl rfl

theorem cut_zero_of (s : ByteArray) (i : Nat) (h : bt s i = 139 ∨ bt s i = 132) : cutAt s i = 0 := by
  rcases cut_cases s i with e | e | e
  · exact e
  · exfalso
    unfold cutAt at e
    split at e
    · omega
    · split at e
      · rename_i h1; rw [h1] at h; revert h; decide
      · split at e <;> omega
  · exfalso
    have := (dia_bytes s i (cut_three s i e)).2.1
    rw [this] at h; revert h; decide

/-- What has come is behind: the end of the last cut lies at or ahead of byte i, or byte i lies in a diamond. -/
theorem end_le (s : ByteArray) (i : Nat) : endOf (cutsTo s i) ≤ i ∨ ((endOf (cutsTo s i) = i + 1 ∧ bt s i = 132 ∧ i + 1 ≤ s.size) ∨ (endOf (cutsTo s i) = i + 2 ∧ bt s i = 139 ∧ bt s (i + 1) = 132 ∧ i + 2 ≤ s.size)) := by
  induction i with
  | zero => exact .inl (by simp [cutsTo, endOf])
  | succ i ih =>
    rcases cut_cases s i with e | e | e
    · have hc : cutsTo s (i + 1) = cutsTo s i := by simp [cutsTo, e]
      rw [hc]
      rcases ih with h | ⟨h, _⟩ | ⟨h1, h2, h3, h4⟩
      · exact .inl (by omega)
      · exact .inl (by omega)
      · exact .inr (.inl ⟨by omega, h3, by omega⟩)
    · have hc : cutsTo s (i + 1) = cutsTo s i ++ [(i, i + 1)] := by simp [cutsTo, e]
      rw [hc, endOf_snoc]
      exact .inl (by simp)
    · have hc : cutsTo s (i + 1) = cutsTo s i ++ [(i, i + 3)] := by simp [cutsTo, e]
      rw [hc, endOf_snoc]
      have hd := dia_bytes s i (cut_three s i e)
      exact .inr (.inr ⟨by simp, hd.2.2.1, hd.2.2.2, by omega⟩)

theorem end_le_cut (s : ByteArray) (i : Nat) (h : cutAt s i ≠ 0) : endOf (cutsTo s i) ≤ i := by
  rcases end_le s i with h1 | ⟨_, h2, _⟩ | ⟨_, h2, _⟩
  · exact h1
  · exact absurd (cut_zero_of s i (.inr h2)) h
  · exact absurd (cut_zero_of s i (.inl h2)) h

theorem end_le_size (s : ByteArray) : endOf (cutsTo s s.size) ≤ s.size := by
  rcases end_le s s.size with h1 | ⟨_, _, h2⟩ | ⟨_, _, _, h2⟩ <;> omega

theorem cutsTo_take (s : ByteArray) (i j : Nat) (h : i ≤ j) : ∃ t, cutsTo s j = cutsTo s i ++ t := by
  induction j with
  | zero => obtain rfl : i = 0 := by omega
            exact ⟨[], by simp⟩
  | succ j ih =>
    by_cases e : i = j + 1
    · subst e; exact ⟨[], by simp⟩
    · obtain ⟨t, ht⟩ := ih (by omega)
      exact ⟨t ++ if cutAt s j = 0 then [] else [(j, j + cutAt s j)], by rw [cutsTo, ht, List.append_assoc]⟩

/-- Cut number k, with what lies ahead of it. -/
theorem cut_nth (s : ByteArray) (k : Nat) (h : k < (allCuts s).length) : ∃ p nx, (allCuts s)[k]? = some (p, nx) ∧ endOf ((allCuts s).take k) ≤ p ∧ p ≤ s.size ∧ nx ≤ s.size ∧ p ≤ nx := by
  by_cases hk : k < (cutsTo s s.size).length
  · -- the byte at which it is cut
    have key : ∀ n, k < (cutsTo s n).length → ∃ i, i < n ∧ (cutsTo s i).length = k ∧ cutAt s i ≠ 0 := by
      intro n
      induction n with
      | zero => intro h; simp [cutsTo] at h
      | succ n ih =>
        intro h
        by_cases h1 : k < (cutsTo s n).length
        · obtain ⟨i, a, b, c⟩ := ih h1; exact ⟨i, by omega, b, c⟩
        · rw [cutsTo] at h
          by_cases e : cutAt s n = 0
          · simp [e] at h; omega
          · simp [e] at h; exact ⟨n, by omega, by omega, e⟩
    obtain ⟨i, hi, hl, hc⟩ := key _ hk
    obtain ⟨t, ht⟩ := cutsTo_take s (i + 1) s.size (by omega)
    have ha : allCuts s = cutsTo s i ++ ((i, i + cutAt s i) :: (t ++ [(s.size, s.size)])) := by
      unfold allCuts; rw [ht, cutsTo, if_neg hc]; simp
    refine ⟨i, i + cutAt s i, ?_, ?_, by omega, ?_, by omega⟩
    · rw [ha, List.getElem?_append_right (by omega), hl]; simp
    · rw [ha, List.take_append_of_le_length (by omega), List.take_of_length_le (by omega)]
      exact end_le_cut s i hc
    · rcases cut_cases s i with e | e | e
      · exact absurd e hc
      · omega
      · have := (dia_bytes s i (cut_three s i e)).1; omega
  · have hk' : k = (cutsTo s s.size).length := by simp [allCuts] at h; omega
    subst hk'
    refine ⟨s.size, s.size, by simp [allCuts], ?_, Nat.le_refl _, Nat.le_refl _, Nat.le_refl _⟩
    rw [allCuts, List.take_append_of_le_length (Nat.le_refl _), List.take_of_length_le (Nat.le_refl _)]
    exact end_le_size s

theorem cutsTo_length_le (s : ByteArray) (i : Nat) : (cutsTo s i).length ≤ i := by
  induction i with
  | zero => simp [cutsTo]
  | succ i ih => rw [cutsTo]; split <;> simp <;> omega

theorem allCuts_length_le (s : ByteArray) : (allCuts s).length ≤ s.size + 1 := by
  have := cutsTo_length_le s s.size
  simp [allCuts]; omega

theorem stepSt_plain (c : UInt8) (q : Bool) (d : Nat) (h : c ≠ 39 ∧ c ≠ 123 ∧ c ≠ 125) : stepSt c q d = (q, d) := by
  unfold stepSt
  rw [if_neg h.1, if_neg h.2.1, if_neg h.2.2]
  split <;> rfl

/-- Behind a diamond all is as ahead of it. -/
theorem st_dia (s : ByteArray) (i : Nat) (h : diaAt s i = true) : stAt s (i + 3) = stAt s i := by
  obtain ⟨_, h1, h2, h3⟩ := dia_bytes s i h
  have e1 : stAt s (i + 1) = stAt s i := by rw [stAt, h1, stepSt_plain _ _ _ (by decide)]
  have e2 : stAt s (i + 2) = stAt s i := by rw [stAt, h2, stepSt_plain _ _ _ (by decide)]; exact e1
  rw [stAt, h3, stepSt_plain _ _ _ (by decide)]; exact e2

theorem cuts_dia (s : ByteArray) (i : Nat) (h : cutAt s i = 3) : cutsTo s (i + 3) = cutsTo s i ++ [(i, i + 3)] := by
  obtain ⟨_, h1, h2, h3⟩ := dia_bytes s i (cut_three s i h)
  rw [cutsTo, cut_zero_of s (i + 2) (.inr h3), if_pos rfl, List.append_nil, cutsTo, cut_zero_of s (i + 1) (.inl h2), if_pos rfl, List.append_nil, cutsTo, h]
  simp

theorem extract_snoc (s : ByteArray) (f i : Nat) (hf : f ≤ i) (hi : i < s.size) : s.extract f i ++ s.extract i (i + 1) = s.extract f (i + 1) := by
  apply ByteArray.ext
  simp only [ByteArray.data_append, ByteArray.data_extract]
  rw [Array.extract_append_extract]
  congr 1 <;> omega

theorem extract_self (s : ByteArray) (i : Nat) : s.extract i i = ByteArray.empty := by
  apply ByteArray.ext
  simp

end Go.Proofs.YthlingdlehdlhaaDoor
