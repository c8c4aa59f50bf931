/- What a slice of integers reads as; small facts on worlds. No program is named here.
   A range over a function, told by the number of rounds that have gone: the contract of the function that is ranged over, and the law for the loop. No program is named here.
   A law for ranges over functions that hand on what they made.
   Regions that draw their order, in the round of a range over a function. No program is named here.
   How a program is split: where it is cut; plain lists of bytes, no program named. -/
import Derived.WalkKit
import Derived.WalkSmall
import Derived.Deep.Draws
import Derived.RangeFuncNested
import Derived.RangeFuncBound
import Derived.RangeFuncCalls
import Derived.RangeFuncLeaves
import Derived.Shelf.Abstract
import Derived.OwnWalkIn
import Derived.TacticsInMore
import Derived.LoopNIn
import Derived.LoopIn
import Derived.Deep.QuietTactic
import Derived.BigQuiet
import Derived.StillTailTactics
import Derived.OrdersIn
import Derived.Lib.Strings
namespace Go.Proofs.YthlingdlehdlhaaGreatDoor
open Go.RowKit
set_option linter.unusedVariables false

theorem hid {p : Prop} (h : p) : Hid p := h

/-- The cells cs lie at a. -/
def Lies (w : World) (a : Option Addr) (cs : List Value) : Prop :=
  ∀ i (h : i < cs.length), ∃ b o, a = some ⟨b, o, none⟩ ∧ w.cell? ⟨b, o + i, none⟩ = some cs[i]

/-- A slice of ints that reads as a list. -/
def Ints (w : World) (v : Value) (xs : List Int) : Prop :=
  ∃ a cap, v = .slice a xs.length cap ∧ xs.length ≤ cap ∧ cap ≤ 9223372036854775807 ∧ (a = none → cap = 0) ∧ Lies w a (xs.map (.int .i64))

theorem Lies.below {w w' : World} {a : Option Addr} {cs : List Value} (h : Lies w a cs) (hb : Below w.heap.size w w') : Lies w' a cs := by
  intro i hi
  obtain ⟨b, o, e, hc⟩ := h i hi
  exact ⟨b, o, e, (hb.cell (World.block_lt_of_cell? w _ hc)).trans hc⟩

theorem Ints.below {w w' : World} {v : Value} {xs : List Int} (h : Ints w v xs) (hb : Below w.heap.size w w') : Ints w' v xs := by
  obtain ⟨a, cap, e, h1, h2, h3, h4⟩ := h
  exact ⟨a, cap, e, h1, h2, h3, h4.below hb⟩

theorem Ints.nil (w : World) : Ints w (.slice none 0 0) [] :=
  ⟨none, 0, rfl, Nat.le_refl _, by omega, fun _ => rfl, fun i hi => by simp at hi⟩

theorem Ints.cell {w : World} {a : Option Addr} {n cap : Nat} {xs : List Int} (h : Ints w (.slice a n cap) xs) (i : Nat) (hi : i < xs.length) :
    ∃ b o, a = some ⟨b, o, none⟩ ∧ w.cell? ⟨b, o + i, none⟩ = some (.int .i64 (xs[i]?.getD 0)) := by
  obtain ⟨a', cap', e, h1, h2, h3, h4⟩ := h
  obtain ⟨rfl, rfl, rfl⟩ : a = a' ∧ n = xs.length ∧ cap = cap' := by simpa using e
  obtain ⟨b, o, e, hc⟩ := h4 i (by simpa using hi)
  exact ⟨b, o, e, by simpa [hi] using hc⟩

/-- What an Ints says, taken apart. -/
theorem Ints.parts {w : World} {v : Value} {xs : List Int} (h : Ints w v xs) :
    ∃ a cap, v = .slice a xs.length cap ∧ xs.length ≤ cap ∧ cap ≤ 9223372036854775807 ∧ (a = none → cap = 0) ∧
      (xs = [] ∨ ∃ b o, a = some ⟨b, o, none⟩ ∧ ∀ i, i < xs.length → w.cell? ⟨b, o + i, none⟩ = some (.int .i64 (xs[i]?.getD 0))) := by
  obtain ⟨a, cap, e, h1, h2, h3, h4⟩ := h
  refine ⟨a, cap, e, h1, h2, h3, ?_⟩
  cases xs with
  | nil => exact .inl rfl
  | cons x r =>
    obtain ⟨b, o, e', _⟩ := h4 0 (by simp)
    refine .inr ⟨b, o, e', fun i hi => ?_⟩
    obtain ⟨b', o', e'', hc⟩ := h4 i (by simpa using hi)
    obtain ⟨rfl, rfl⟩ : b = b' ∧ o = o' := by rw [e'] at e''; simpa using e''
    rw [hc, List.getElem_map, List.getElem?_eq_getElem hi, Option.getD_some]

theorem Ints.of_owns {w : World} {base e : Nat} {v : Value} {xs : List Int} (h : w.ownsRow base e 1 v xs.length (xs.map (.int .i64))) : Ints w v xs := by
  obtain ⟨h1, ⟨rfl, h2⟩ | ⟨g, cap, cur, rfl, h3, h4, h5, h6, h7, h8⟩⟩ := h
  · obtain rfl : xs = [] := List.eq_nil_of_length_eq_zero h2
    exact .nil w
  · refine ⟨some ⟨g, 0, none⟩, cap, rfl, h5, by simpa [maxLen] using h6, by simp, fun i hi => ⟨g, 0, rfl, ?_⟩⟩
    have hi' : i < xs.length := by simpa using hi
    have hh : cur.toList[i]? = some (.int .i64 xs[i]) := by
      have : (cur.toList.take (xs.length * 1))[i]? = some (.int .i64 xs[i]) := by rw [h8]; simp [hi']
      rw [List.getElem?_take] at this
      rw [if_pos (by omega)] at this
      exact this
    simp only [World.cell?, h4]
    simpa using hh

theorem one_new (w : World) (x : Value) (t : TypeId) : ∀ (j : Nat) (u : Value), [x][j]? = some u → (w.alloc (.cells #[x] t)).cell? ((⟨w.heap.size, 0, none⟩ : Addr).add j) = some u := by
  intro j u hj
  match j, hj with
  | 0, hj =>
    obtain rfl : x = u := by simpa using hj
    rw [show (Addr.add ⟨w.heap.size, 0, none⟩ 0) = ⟨w.heap.size, 0, none⟩ from rfl, World.cell?, heap_alloc_new w (.cells #[x] t)]
    rfl
  | j + 1, hj => simp at hj

/-- Some draws, nothing else. -/
def Quiet (w w' : World) : Prop := ∃ n, w' = w.drewN n

theorem Quiet.refl (w : World) : Quiet w w := ⟨0, rfl⟩
theorem Quiet.mk (w : World) (n : Nat) : Quiet w (w.drewN n) := ⟨n, rfl⟩
theorem Quiet.trans {a b c : World} (h : Quiet a b) (k : Quiet b c) : Quiet a c := by
  obtain ⟨n, rfl⟩ := h
  obtain ⟨m, rfl⟩ := k
  exact ⟨n + m, by simp⟩
theorem Quiet.below {w w' : World} (h : Quiet w w') (B : Nat) : Below B w w' := by
  obtain ⟨n, rfl⟩ := h
  exact below_drewN (Below.refl _ _) n

end Go.Proofs.YthlingdlehdlhaaGreatDoor

namespace Go.Proofs.YthlingdlehdlhaaGreatDoor
open Go.RowKit Go.Shelf
set_option linter.unusedVariables false

theorem calls_wide {P : Program} {f : FuncId} {args : Array Value} {w : World} {R : Ending → World → Prop} (h : CallsIn Fence.wide 0 P f args w R) : Calls P f args w R := callsIn_wide.1 h
theorem wide_calls {P : Program} {f : FuncId} {args : Array Value} {w : World} {R : Ending → World → Prop} (h : Calls P f args w R) : CallsIn Fence.wide 0 P f args w R := callsIn_wide.2 h
theorem round_calls {P : Program} {f : FuncId} {args : Array Value} {w : World} {R : Ending → World → Prop} (l : Nat) (h : Calls P f args w R) : CallsIn (Fence.wide.inRound l) 0 P f args w R := CallsIn.inRound l (callsIn_wide.2 h)

/-- A function whose body holds a range over a function. -/
theorem calls_of_wp_m {P : Program} {f : FuncId} {fn : Func} {c : Code} {args : Array Value} {w : World} {R : Ending → World → Prop}
    (hf : P.funcs[f]? = some fn) (hb : fn.body = some c)
    (h : c.wp P (bodyPostM Fence.wide 0 P fn R) { tmps := args ++ Array.replicate (fn.ntmps - args.size) undef, defers := [] } w) : Calls P f args w R :=
  calls_wide (callsIn_of_wp_marks hf hb trivial (wpIn_wide.2 h) rfl)

theorem below_putObj {B : Nat} {a w : World} (h : Below B a w) {D : Nat} (hD : B ≤ D) (o : Obj) : Below B a (w.putObj D o) :=
  h.trans ⟨rfl, rfl, rfl, by simp, fun k hk => World.putObj_heap_other (by omega)⟩

theorem post_mark {P : Program} {fn : Func} {R : Ending → World → Prop} {tmps : Array Value} {w : World} {D : Nat} {v : Value} (hK : w.heap[D]? = some (.deferred (some [])))
    (hr : (results fn tmps).run P (w.putObj D (.deferred none)) = .ok v (w.putObj D (.deferred none))) (h : R (.returned v) (w.putObj D (.deferred none))) :
    bodyPostM Fence.wide 0 P fn R .ret { tmps := tmps, defers := [{ target := .collected D, args := #[] }] } w :=
  ⟨by simp, .inl ⟨_, _, rfl, run_takeDeferred hK, ⟨v, hr, h⟩⟩⟩

/-- How the body of a round may be left. -/
def roundEnd (B : Nat) (Kp : World → World → Prop) (I : Nat → World → Prop) (Ix : Code → World → Prop) (k : Nat) (W : World) : Exit → Act → World → Prop
  | .normal, _, W' => KeepsFrom B W W' ∧ Kp W W' ∧ I (k + 1) W'
  | .ret, _, W' => KeepsFrom B W W' ∧ Ix .ret W'
  | .exit id, _, W' => KeepsFrom B W W' ∧ Ix (.exit id) W'
  | .goto t, _, W' => KeepsFrom B W W' ∧ Ix (.goto t) W'
  | .panic _, _, _ => False
  | .outgrown, _, _ => False

/-- A row of the call's own abides the turn of a block that is no cells. -/
theorem owns_turn {A B : World} {row : Option Nat} {base e size : Nat} {v : Value} {n : Nat} {xs : List Value} (h : A.ownsRow base e size v n xs) (hg : A.grownBy B row)
    (hr : ∀ r, row = some r → ∃ o : Obj, A.heap[r]? = some o ∧ o.isCells = false) : B.ownsRow base e size v n xs := by
  refine h.kept hg ?_
  obtain ⟨_, ⟨rfl, _⟩ | ⟨g, cap, cur, rfl, _, hh, _⟩⟩ := h
  · exact .inl rfl
  · refine .inr (fun e' => ?_)
    obtain ⟨o, ho, hc⟩ := hr g (by rw [← e']; rfl)
    rw [hh] at ho; cases ho; cases hc

theorem boxed_at {W : World} {t : TypeId} {v : Value} {n : Nat} (h : W.heap.size = n) : Boxed (W.alloc (.cells #[v] t)) n t v := h ▸ Boxed.new W t v

theorem boxed_turn {A B : World} {row : Option Nat} {b : Nat} {t : TypeId} {v : Value} (h : Boxed A b t v) (hg : A.grownBy B row) (hr : ∀ r, row = some r → ∃ o : Obj, A.heap[r]? = some o ∧ o.isCells = false) : Boxed B b t v :=
  h.kept hg (fun e => by obtain ⟨o, ho, hc⟩ := hr b e.symm; rw [show A.heap[b]? = _ from h] at ho; cases ho; cases hc)

theorem owns_below {A B : World} {base e size : Nat} {v : Value} {n : Nat} {xs : List Value} (h : A.ownsRow base e size v n xs) (hb : Below A.heap.size A B) : B.ownsRow base e size v n xs :=
  h.kept (row := none) ⟨hb.os, hb.tape, hb.output, hb.size, fun k hk _ => hb.block k hk⟩ (by cases v.ownBlock <;> simp)

/-- The blocks of S lie as they lay; no block has gone. -/
def KeepsOn (S : Nat → Prop) (A B : World) : Prop := A.heap.size ≤ B.heap.size ∧ ∀ b, S b → B.heap[b]? = A.heap[b]?

theorem KeepsOn.refl (S : Nat → Prop) (A : World) : KeepsOn S A A := ⟨Nat.le_refl _, fun _ _ => rfl⟩
theorem KeepsOn.trans {S : Nat → Prop} (A B C : World) (h : KeepsOn S A B) (k : KeepsOn S B C) : KeepsOn S A C :=
  ⟨Nat.le_trans h.1 k.1, fun b hb => (k.2 b hb).trans (h.2 b hb)⟩
theorem KeepsOn.putObj {S : Nat → Prop} {n : Nat} (hS : ∀ b, S b → b < n) (W : World) (l : Nat) (o o' : Obj) (hl : n ≤ l) (_ : W.heap[l]? = some o) (_ : o.isCells = false) : KeepsOn S W (W.putObj l o') :=
  ⟨by simp, fun b hb => World.putObj_heap_other (by have := hS b hb; omega)⟩
theorem KeepsOn.cell {S : Nat → Prop} {A B : World} (h : KeepsOn S A B) {p : Addr} (hp : S p.block) : B.cell? p = A.cell? p := World.cell?_of_block (h.2 _ hp)
theorem KeepsOn.setCell {S : Nat → Prop} {A B : World} (h : KeepsOn S A B) {p : Addr} (hp : ¬ S p.block) (u : Value) : KeepsOn S A (B.setCell p u) :=
  h.trans _ _ _ ⟨by simp [World.setCell], fun b hb => Below.heap_setCell _ _ _ _ (fun e => hp (e ▸ hb))⟩
theorem KeepsOn.of_below {S : Nat → Prop} {n : Nat} {A B : World} (h : Below n A B) (hS : ∀ b, S b → b < n) : KeepsOn S A B := ⟨h.size, fun b hb => h.block b (hS b hb)⟩

theorem owns_mono {A : World} {base base' e size : Nat} {v : Value} {n : Nat} {xs : List Value} (h : A.ownsRow base e size v n xs) (hb : base' ≤ base) : A.ownsRow base' e size v n xs := by
  obtain ⟨h1, h2 | ⟨g, cap, cur, rfl, h3, r⟩⟩ := h
  · exact ⟨h1, .inl h2⟩
  · exact ⟨h1, .inr ⟨g, cap, cur, rfl, by omega, r⟩⟩

/-- A row of the call's own is appended to, and put back into its box, which lies ahead of all rows. -/
theorem append_put {W w1 : World} {tmp : Obj} {base e size : Nat} {v v' : Value} {k m : Nat} {xs ys : List Value} {B n₀ : Nat} (hr : W.ownsRow base e size v k xs) (hown' : w1.ownsRow base e size v' m ys)
    (hgrow : (W.alloc tmp).grownBy w1 v.ownBlock) (hB : B < base) (hBW : base ≤ W.heap.size) (hn : n₀ ≤ B) :
    (w1.setCell ⟨B, 0, none⟩ v').ownsRow base e size v' m ys ∧ KeepsOthers W (w1.setCell ⟨B, 0, none⟩ v') ∧ Below n₀ W (w1.setCell ⟨B, 0, none⟩ v') ∧
      (∀ b t u, b < base → b ≠ B → Boxed W b t u → Boxed (w1.setCell ⟨B, 0, none⟩ v') b t u) ∧ (∀ t, Boxed W B t v → Boxed w1 B t v ∧ Boxed (w1.setCell ⟨B, 0, none⟩ v') B t v') ∧
      (∀ S : Nat → Prop, (∀ b, S b → b < base ∧ b ≠ B) → KeepsOn S W (w1.setCell ⟨B, 0, none⟩ v')) := by
  have hno : ∀ b, b < base → some b ≠ v.ownBlock := fun b hb e => by have := (hr.lt b e.symm).1; omega
  have hsz : W.heap.size ≤ w1.heap.size := by have := hgrow.size; simp at this; omega
  have hblk : ∀ b, b < base → b ≠ B → (w1.setCell ⟨B, 0, none⟩ v').heap[b]? = W.heap[b]? := fun b hb hne =>
    (Below.heap_setCell _ _ _ _ hne).trans ((hgrow.block b (by simp; omega) (hno b hb)).trans (Below.heap_alloc _ _ _ (by omega)))
  have hbox1 : ∀ t, Boxed W B t v → Boxed w1 B t v := fun t h => (h.alloc tmp).kept hgrow (hno B hB)
  refine ⟨ownsRow_setCell_below hown' hB _, ?_, ?_, fun b t u hb hne h => (hblk b hb hne).trans h, fun t h => ⟨hbox1 t h, (hbox1 t h).set v'⟩, fun S hS => ⟨by simp [World.setCell]; exact hsz, fun b hb => hblk b (hS b hb).1 (hS b hb).2⟩⟩
  · refine ((KeepsOthers.alloc W tmp).trans (KeepsOthers.of_grownBy hgrow fun j o ej hj => ?_)).trans (KeepsOthers.setCell _ _ _)
    rcases (hr.alloc tmp).2 with ⟨rfl, _⟩ | ⟨g, cap, cur, rfl, _, hgb, _⟩
    · simp [Value.ownBlock] at ej
    · obtain rfl : g = j := by simpa [Value.ownBlock] using ej
      rw [hgb] at hj; cases hj; rfl
  · refine (((Below.refl n₀ W).alloc (by omega) tmp).grown hgrow (by simp; omega) fun j ej => ?_).setCell (p := ⟨B, 0, none⟩) hn v'
    have := (hr.lt j ej).1; omega

end Go.Proofs.YthlingdlehdlhaaGreatDoor

namespace Go.Proofs.YthlingdlehdlhaaGreatDoor
open Go.RowKit Go.Shelf
set_option linter.unusedVariables false

/-- The function gf, with lb captured, calls yield N times, with arguments of which En says what they are; between two calls it does no more than Mv says; of a round that goes on it asks Kp; at its end Fin. -/
def SeqE (P : Program) (gf : Nat) (lb : Array Value) (En : Nat → Array Value → World → Prop) (Fin : World → Prop) (N : Nat) (Mv Kp : World → World → Prop) (w0 : World) : Prop :=
  ∀ (l : Nat) (J : Nat → World → Prop) (Jx : World → Prop) (W : World), Below w0.heap.size w0 W →
    (∀ k A B, W.heap.size ≤ A.heap.size → J k A → Mv A B → J k B) → (∀ A B, W.heap.size ≤ A.heap.size → Jx A → Mv A B → Jx B) →
    (∀ k args W1, k < N → J k W1 → En k args W1 → YieldAt Fence.wide 0 P l args W1 fun e W' =>
      (e = .returned (.bool true) ∧ J (k + 1) W' ∧ Kp W1 W') ∨ (e = .returned (.bool false) ∧ Jx W')) →
    J 0 W →
    Calls P gf (#[.func (.yield l) #[] #[]] ++ lb) W fun e W' => (∃ v, e = .returned v) ∧ ((J N W' ∧ Fin W') ∨ Jx W')

theorem range_lawE {P : Program} {g : Operand} {ps : Array Tmp} {assign body : Code} {Q : Exit → Act → World → Prop} {a : Act} {w : World}
    {gf : Nat} {lb : Array Value} (hg : a.eval g = .func (.func gf) #[] lb) (eg : ∀ args w, (callFunc gf args).run P w = .ok (.enter gf args) w)
    {En : Nat → Array Value → World → Prop} {Fin : World → Prop} {N : Nat} {Mv Kp : World → World → Prop} (hseq : SeqE P gf lb En Fin N Mv Kp w) (hFin : OwnFrom w.heap.size (fun (_ : Unit) W => Fin W))
    (hMv : ∀ A B, Mv A B → KeepsFrom w.heap.size A B)
    (hKt : ∀ A B C, Kp A B → Kp B C → Kp A C) (hKb : ∀ (W : World) (l : Nat) (o o' : Obj), w.heap.size ≤ l → W.heap[l]? = some o → o.isCells = false → Kp W (W.putObj l o'))
    (hps : ∀ k args W, En k args W → args.size = ps.size)
    (I : Nat → World → Prop) (Ix : Code → World → Prop) (hI : OwnFrom w.heap.size I) (hIx : OwnFrom w.heap.size Ix)
    (hIM : ∀ k A B, w.heap.size ≤ A.heap.size → I k A → Mv A B → I k B) (hIxM : ∀ c A B, w.heap.size ≤ A.heap.size → Ix c A → Mv A B → Ix c B) (h0 : I 0 w)
    (Ax : Nat → Act → World → Prop) (hAx : ∀ k a', OwnFrom w.heap.size (fun (_ : Unit) W => Ax k a' W))
    (hassign : ∀ (l k : Nat) (args : Array Value) (W : World) (K : Act → World → Prop), k < N → I k W → En k args W → (∀ a' W', KeepsFrom w.heap.size W W' → Kp W W' → I k W' → Ax k a' W' → K a' W') →
      assign.wpIn (Fence.wide.inRound l) 0 P (Exit.then K (fun _ _ _ => False)) { tmps := (ps.zip args).foldl (fun t (p, v) => t.setIfInBounds p v) a.tmps, defers := [] } W)
    (hbody : ∀ (l k : Nat) (a' : Act) (W : World), w.heap.size ≤ l → (∃ r, W.heap[l]? = some (.loop r)) → k < N → I k W → Ax k a' W → body.wpIn (Fence.wide.inRound l) 0 P (roundEnd w.heap.size Kp I Ix k W) a' W)
    (hdone : ∀ (D : Nat) (W : World), w.heap.size ≤ D → I N W → Fin W → W.heap[D]? = some (.deferred (some [])) → Q .normal { a with defers := { target := .collected D, args := #[] } :: a.defers } W)
    (hstop : ∀ (D : Nat) (c : Code) (W : World), w.heap.size ≤ D → Ix c W → W.heap[D]? = some (.deferred (some [])) → c.wp P Q { a with defers := { target := .collected D, args := #[] } :: a.defers } W) :
    (Code.rangeFunc g ps assign body).wp P Q a w := by
  refine (wpIn_wide (n := 0)).1 (wpIn_rangeFunc ?_)
  intro fn hfn
  obtain ⟨rec, hrec⟩ : ∃ rec : LoopState → Option Code → Loop, rec = fun st pe => { state := st, pending := pe, fn, tmps := a.tmps, params := ps, assign, body, defers := w.heap.size } := ⟨_, rfl⟩
  obtain ⟨W1, hW1⟩ : ∃ W1, (w.alloc (.deferred (some []))).alloc (.loop (rec .ready none)) = W1 := ⟨_, rfl⟩
  have hL1 : W1.heap[w.heap.size + 1]? = some (.loop (rec .ready none)) := by
    rw [← hW1]; have := World.alloc_heap_new (w.alloc (.deferred (some []))) (.loop (rec .ready none)); rwa [World.size_alloc] at this
  have hK1 : W1.heap[w.heap.size]? = some (.deferred (some [])) := by
    rw [← hW1]; exact (Below.heap_alloc _ _ _ (by simp)).trans (World.alloc_heap_new w _)
  have hI1 : I 0 W1 := by rw [← hW1]; exact hI.alloc _ (hI.alloc _ h0)
  have hb1 : Below w.heap.size w W1 := by
    rw [← hW1]; exact ((Below.refl _ w).alloc (Nat.le_refl _) _).alloc (by simp) _
  have hs1 : w.heap.size ≤ W1.heap.size := hb1.size
  refine ⟨w.heap.size + 1, [{ target := .collected w.heap.size, args := #[] }], W1, { target := .fn (.func gf) lb, args := #[.func (.yield (w.heap.size + 1)) #[] #[]] }, W1, gf,
    #[.func (.yield (w.heap.size + 1)) #[] #[]] ++ lb, W1, ?_, ?_, fun _ _ => trivial, ?_, ?_, callsIn_wide.2 ?_⟩
  · rw [← hW1, hrec]; exact run_enterLoop_outer _ _ _ _ _
  · simp only [resolve, hg]
    simp [go_sem]
  · simp [invoke, go_sem, eg]
  · intro h; simp [Fence.wide] at h
  · refine (hseq (w.heap.size + 1)
      (fun k W => I k W ∧ w.heap.size ≤ W.heap.size ∧ W.heap[w.heap.size + 1]? = some (.loop (rec .ready none)) ∧ W.heap[w.heap.size]? = some (.deferred (some [])))
      (fun W => ∃ c, Ix c W ∧ w.heap.size ≤ W.heap.size ∧ W.heap[w.heap.size + 1]? = some (.loop (rec .done (some c))) ∧ W.heap[w.heap.size]? = some (.deferred (some [])))
      W1 hb1 ?_ ?_ ?_ ⟨hI1, hs1, hL1, hK1⟩).mono ?_
    · rintro k A B hA ⟨hi, hs, hl, hk⟩ hm
      have hkf := hMv _ _ hm
      exact ⟨hIM _ _ _ hs hi hm, Nat.le_trans hs hkf.size, hkf.same _ _ (by omega) hl rfl, hkf.same _ _ (by omega) hk rfl⟩
    · rintro A B hA ⟨c, hi, hs, hl, hk⟩ hm
      have hkf := hMv _ _ hm
      exact ⟨c, hIxM _ _ _ hs hi hm, Nat.le_trans hs hkf.size, hkf.same _ _ (by omega) hl rfl, hkf.same _ _ (by omega) hk rfl⟩
    · rintro k args W hkN ⟨hi, hs, hl, hk⟩ hen
      have hy := run_yield (P := P) (args := args) hl (by rw [hrec]; exact hps k args W hen)
      rw [hrec] at hy
      refine ⟨fn, _, assign, body, hy, roundIn_of_wpIn hfn (hassign _ k args W _ hkN hi hen ?_)⟩
      clear hy
      intro a' Wa hkfa hkpa hia hax
      have hl' := hkfa.same _ _ (by omega) hl rfl
      have hk' := hkfa.same _ _ (by omega) hk rfl
      have hsa : w.heap.size ≤ Wa.heap.size := Nat.le_trans hs hkfa.size
      have hlt : w.heap.size + 1 < Wa.heap.size := (Array.getElem?_eq_some_iff.1 hl').1
      refine ⟨_, run_beginRound hl' (by rw [hrec]), ?_⟩
      obtain ⟨Wb, hWb⟩ : ∃ Wb, Wa.putObj (w.heap.size + 1) (.loop { rec .ready none with state := .busy }) = Wb := ⟨_, rfl⟩
      have hlb : Wb.heap[w.heap.size + 1]? = some (.loop { rec .ready none with state := .busy }) := by rw [← hWb]; exact World.putObj_heap_same hlt
      have hkb : Wb.heap[w.heap.size]? = some (.deferred (some [])) := by rw [← hWb]; exact (World.putObj_heap_other (by omega)).trans hk'
      have hkpb : Kp Wa Wb := by rw [← hWb]; exact hKb _ _ _ _ (by omega) hl' rfl
      have hib : I k Wb := by rw [← hWb]; exact hI.putObj _ hia (by omega) hl' rfl
      have haxb : Ax k a' Wb := by rw [← hWb]; exact (hAx k a').putObj (s := ()) _ hax (by omega) hl' rfl
      have hsb : Wb.heap.size = Wa.heap.size := by rw [← hWb]; simp
      rw [hWb]
      refine wpIn_mono (hbody _ k a' Wb (by omega) ⟨_, hlb⟩ hkN hib haxb) ?_
      have fin : ∀ (jump : Option Code) (W3 : World), KeepsFrom w.heap.size Wb W3 →
          (Instr.endRound (w.heap.size + 1) jump).run P W3 = .ok (.bool jump.isNone) (W3.putObj (w.heap.size + 1) (.loop (rec (if jump.isNone then .ready else .done) jump))) ∧
          W3.heap[w.heap.size + 1]? = some (.loop { rec .ready none with state := .busy }) ∧
          w.heap.size ≤ (W3.putObj (w.heap.size + 1) (.loop (rec (if jump.isNone then .ready else .done) jump))).heap.size ∧
          (W3.putObj (w.heap.size + 1) (.loop (rec (if jump.isNone then .ready else .done) jump))).heap[w.heap.size + 1]? = some (.loop (rec (if jump.isNone then .ready else .done) jump)) ∧
          (W3.putObj (w.heap.size + 1) (.loop (rec (if jump.isNone then .ready else .done) jump))).heap[w.heap.size]? = some (.deferred (some [])) := fun jump W3 hk3 => by
        have hl3 := hk3.same _ _ (by omega) hlb rfl
        have hsz := hk3.size
        have := run_endRound (P := P) jump hl3
        rw [hrec] at this ⊢
        refine ⟨this, by rw [hrec] at hl3; exact hl3, by simp; omega, World.putObj_heap_same (Array.getElem?_eq_some_iff.1 hl3).1, (World.putObj_heap_other (by omega)).trans (hk3.same _ _ (Nat.le_refl _) hkb rfl)⟩
      rintro e a3 W3 hp
      cases e with
      | normal =>
        obtain ⟨hk3, hkp3, hi3⟩ := hp
        obtain ⟨hr, hl3, hs3, hl4, hk4⟩ := fin none W3 hk3
        exact ⟨_, _, hr, .inl ⟨rfl, ⟨hI.putObj _ hi3 (by omega) hl3 rfl, hs3, hl4, hk4⟩, hKt _ _ _ (hKt _ _ _ (hKt _ _ _ hkpa hkpb) hkp3) (hKb _ _ _ _ (by omega) hl3 rfl)⟩⟩
      | ret =>
        obtain ⟨hk3, hi3⟩ := hp
        obtain ⟨hr, hl3, hs3, hl4, hk4⟩ := fin (some .ret) W3 hk3
        exact ⟨_, _, hr, .inr ⟨rfl, .ret, hIx.putObj _ hi3 (by omega) hl3 rfl, hs3, hl4, hk4⟩⟩
      | exit id =>
        obtain ⟨hk3, hi3⟩ := hp
        obtain ⟨hr, hl3, hs3, hl4, hk4⟩ := fin (some (.exit id)) W3 hk3
        exact ⟨_, _, hr, .inr ⟨rfl, .exit id, hIx.putObj _ hi3 (by omega) hl3 rfl, hs3, hl4, hk4⟩⟩
      | goto t =>
        obtain ⟨hk3, hi3⟩ := hp
        obtain ⟨hr, hl3, hs3, hl4, hk4⟩ := fin (some (.goto t)) W3 hk3
        exact ⟨_, _, hr, .inr ⟨rfl, .goto t, hIx.putObj _ hi3 (by omega) hl3 rfl, hs3, hl4, hk4⟩⟩
      | panic ch => exact hp.elim
      | outgrown => exact hp.elim
    · rintro e W2 ⟨⟨v, rfl⟩, (⟨⟨hi, hs, hl, hk⟩, hfin⟩ | ⟨c, hi, hs, hl, hk⟩)⟩
      · exact ⟨none, _, by have := run_endLoop (P := P) hl (by rw [hrec]; simp); rw [hrec] at this; exact this, hdone _ _ (Nat.le_refl _) (hI.putObj _ hi (by omega) hl rfl) (hFin.putObj (s := ()) _ hfin (by omega) hl rfl) ((World.putObj_heap_other (by omega)).trans hk)⟩
      · exact ⟨some c, _, by have := run_endLoop (P := P) hl (by rw [hrec]; simp); rw [hrec] at this; exact this, wpIn_wide.2 <| hstop _ c _ (Nat.le_refl _) (hIx.putObj _ hi (by omega) hl rfl) ((World.putObj_heap_other (by omega)).trans hk)⟩

end Go.Proofs.YthlingdlehdlhaaGreatDoor

namespace Go.Proofs.YthlingdlehdlhaaGreatDoor
open Go.RowKit Go.Shelf
set_option linter.unusedVariables false

theorem wp_round {P : Program} {o : Oper} {a : Act} {w : World} {l : Nat} {K K' : Act → World → Prop} {Q : Exit → Act → World → Prop} (hd : ∀ c, o.op ≠ .defer c) (hK : ∀ a w, K a w → K' a w)
    (h : o.wp P a w K Q) : o.wpIn (Fence.wide.inRound l) 0 P a w K' Q := by
  unfold Oper.wp at h
  unfold Oper.wpIn
  refine ⟨fun _ _ => trivial, ?_⟩
  rw [Oper.semAt_eq _ _ _ hd]
  generalize (execOp a.eval o).run P w = r at h
  cases r with
  | ok x w' =>
    cases x <;> simp only [Oper.upon, Oper.uponIn] at h ⊢ <;> first
      | exact hK _ _ h
      | exact ⟨by intro h; simp [Fence.inRound, Fence.wide] at h, round_calls l (h.mono fun e w'' he => by cases e <;> first | exact hK _ _ he | exact he)⟩
      | exact ⟨by intro h; simp [Fence.inRound, Fence.wide] at h, fun c cs _ => let ⟨v, w2, hr, hs⟩ := h c cs; ⟨v, w2, hK _ _ hr, stepsIn_wide.2 hs⟩⟩
      | exact h.elim
  | halt x w' => cases x <;> simp only [Oper.upon, Oper.uponIn] at h ⊢ <;> exact h

theorem wpAny_round {P : Program} {md : Region.Mode} {ops : Array Oper} {Q : Exit → Act → World → Prop} {l : Nat} (hd : ∀ (i : Nat) (o : Oper), ops[i]? = some o → ∀ c, o.op ≠ .defer c) (hQ : ¬ LetsOut Q) :
    ∀ (fuel : Nat) (listed : Array Bool) (a : Act) (w : World), wpAny P md ops Q fuel listed a w → wpAnyIn (Fence.wide.inRound l) 0 P md ops Q fuel listed a w := by
  intro fuel
  induction fuel with
  | zero => exact fun listed a w h => h
  | succ fuel ih =>
    intro listed a w h
    refine ⟨h.1, fun i hi => ?_⟩
    have h2 := h.2 i hi
    unfold wpOp at h2
    unfold wpOpIn
    cases ho : ops[i]? with
    | none => simp only [ho] at h2 ⊢; exact ih _ _ _ h2
    | some o =>
      simp only [ho] at h2 ⊢
      by_cases hw : Region.wanted o (yielded ops a.tmps) = true
      · simp only [hw, if_true] at h2 ⊢
        rcases h2 with h2 | ⟨_, h2⟩
        · exact wp_round (hd i o ho) (fun a w h => ih _ a w h) h2
        · exact absurd h2 hQ
      · simp only [hw, if_false, Bool.false_eq_true] at h2 ⊢
        exact ⟨fun _ _ => trivial, ih _ _ _ h2⟩

/-- No operation defers. -/
def noDefer (ops : Array Oper) : Bool := ops.all fun o => match o.op with | .defer _ => false | _ => true

theorem noDefer_spec {ops : Array Oper} (h : noDefer ops = true) (i : Nat) (o : Oper) (ho : ops[i]? = some o) (c : Call) : o.op ≠ .defer c := by
  intro e
  obtain ⟨hi, rfl⟩ := Array.getElem?_eq_some_iff.1 ho
  have := (Array.all_eq_true.1 h) i hi
  rw [e] at this
  cases this

theorem round_any {P : Program} {id : Nat} {ops : Array Oper} {Q : Exit → Act → World → Prop} {a : Act} {w : World} {l : Nat} (hm : P.follows .mixedOrders = true) (hd : noDefer ops = true) (hQ : ¬ LetsOut Q)
    (h : wpAny P .any ops Q ops.size (Array.replicate ops.size false) a { w with drawn := w.drawn + 1 }) : (Code.region id ops true).wpIn (Fence.wide.inRound l) 0 P Q a w :=
  wpIn_region_any hm (wpAny_round (noDefer_spec hd) hQ _ _ _ _ h)

end Go.Proofs.YthlingdlehdlhaaGreatDoor

namespace Go.Proofs.YthlingdlehdlhaaGreatDoor
open Go.RowKit
set_option linter.unusedVariables false

/-- The byte at a place. -/
def bt (s : ByteArray) (i : Nat) : UInt8 := s.data.toList[i]?.getD 0

theorem bt_get (s : ByteArray) (i : Nat) (h : i < s.size) : s[i] = bt s i := by
  have h' : i < s.data.toList.length := by simpa using h
  unfold bt
  rw [List.getElem?_eq_getElem h']
  simp
  rfl

end Go.Proofs.YthlingdlehdlhaaGreatDoor
