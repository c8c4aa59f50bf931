/- parse: more fuel, and names that are not said, make no difference. Plain.
   parse: trees of new memory; what a reader answers.
   parse: an expression's cells; all blocks but one.
   parse: its functions of one token, or of one function's number.
   parse: expressions, walked. -/
import Derived.Test.YthlingdlehdlhaaGreatDoorPB
import Derived.Test.YthlingdlehdlhaaGreatDoorPA
namespace Go.Proofs.YthlingdlehdlhaaGreatDoor.Par
open Go.RowKit Go.Shelf
set_option linter.unusedVariables false
set_option linter.unusedSimpArgs false

/-- Lengths: parts are no longer than the whole. -/
theorem part_le {s : List UInt8} {l a : List Tok} (h : a ∈ partsF l s) : a.length ≤ l.length := by
  have := parts_len s l
  have h2 : ∀ (ls : List (List Tok)), a ∈ ls → a.length + 1 ≤ (ls.map fun a => a.length + 1).sum := by
    intro ls
    induction ls with
    | nil => intro h; cases h
    | cons b r ih =>
      intro h
      simp only [List.map_cons, List.sum_cons]
      rcases List.mem_cons.1 h with rfl | h
      · omega
      · have := ih h; omega
  have := h2 _ h; omega
theorem part_sub {s : List UInt8} {l a : List Tok} (h : a ∈ partsF l s) : a ⊆ l := by
  rw [parts_cut, List.mem_reverse, List.mem_map] at h
  obtain ⟨p, -, rfl⟩ := h
  unfold seg
  exact ((List.drop_sublist _ _).trans (List.take_sublist _ _)).subset
def need (ls : List (List Tok)) : Nat := (ls.map fun a => a.length + 1).sum
theorem need_nil : need [] = 0 := rfl
theorem need_cons (a : List Tok) (r : List (List Tok)) : need (a :: r) = a.length + 1 + need r := rfl
theorem need_filter (ls : List (List Tok)) : need (ls.filter (· ≠ [])) ≤ need ls := by
  induction ls with
  | nil => exact Nat.le_refl _
  | cons a r ih =>
    rw [List.filter_cons]
    split
    · rw [need_cons, need_cons]; omega
    · rw [need_cons]; omega
theorem need_parts (s : List UInt8) (l : List Tok) : need (partsF l s) = l.length + 1 := parts_len s l
/-- Of the names in a text both lists say the same. -/
def Agree (F F' : List (List UInt8)) (l : List Tok) : Prop := ∀ t ∈ l, t.kind = 2 → (t.txt ∈ F ↔ t.txt ∈ F')
theorem Pre.sub {l r : List Tok} (h : Pre l r) : r ⊆ l := by rw [h.2.2]; exact (List.take_sublist _ _).subset
theorem inner_sub (l : List Tok) (k : Nat) : l.dropLast.drop k ⊆ l := ((List.drop_sublist _ _).trans (List.dropLast_sublist _)).subset
theorem inner_len (l : List Tok) (k : Nat) : (l.dropLast.drop (k + 1)).length ≤ l.length - 2 := by
  rw [List.length_drop, List.length_dropLast]; omega
theorem set_head {l r : List Tok} {s : List UInt8} (h : setF l = some (s, r)) : ∃ t ∈ l, t.kind = 2 ∧ t.txt = s ∧ s ≠ [] := by
  unfold setF at h
  split at h
  · split at h
    · rename_i t u r' hc
      injection h with h; injection h with h1 h2; subst h1
      exact ⟨t, List.mem_cons_self, hc.1, rfl, hc.2.1⟩
    · cases h
  · cases h
theorem Agree.snoc {F F' : List (List UInt8)} {l : List Tok} (h : Agree F F' l) (s : List UInt8) : Agree (F ++ [s]) (F' ++ [s]) l := by
  intro t ht hk
  have := h t ht hk
  simp only [List.mem_append, List.mem_singleton, this]
end Go.Proofs.YthlingdlehdlhaaGreatDoor.Par

namespace Go.Proofs.YthlingdlehdlhaaGreatDoor.Par
open Go.RowKit Go.Shelf
set_option linter.unusedVariables false
set_option linter.unusedSimpArgs false

/-- All that lies in such blocks, and is no truth value, stays. -/
def SoftF (base : Nat → Prop) (w w' : World) : Prop := ∀ p v, base p.block → w.cell? p = some v → (∀ b, v ≠ .bool b) → w'.cell? p = some v
def Up (n k : Nat) : Prop := n ≤ k
theorem SoftF.refl (base : Nat → Prop) (w : World) : SoftF base w w := fun _ _ _ h _ => h
theorem SoftF.trans {base : Nat → Prop} {a b c : World} (h : SoftF base a b) (k : SoftF base b c) : SoftF base a c := fun p v hp hc hv => k p v hp (h p v hp hc hv) hv
theorem SoftF.put {base : Nat → Prop} {a w : World} (h : SoftF base a w) (R i : Nat) (v : Value) (hR : ¬ base R) : SoftF base a (w.setCell ⟨R, i, none⟩ v) := fun p u hp hc hv => by
  have h1 := h p u hp hc hv
  have hne : p.block ≠ R := fun e => hR (e ▸ hp)
  rw [World.cell?_of_block (w := w) (Below.heap_setCell w ⟨R, i, none⟩ v p.block hne)]; exact h1
/-- So it is, whatever becomes of what lies ahead of a block. -/
def Fresh (base : Nat → Prop) (w : World) (P : World → Prop) : Prop := ∀ w', SoftF base w w' → P w'
theorem Fresh.self {base : Nat → Prop} {w : World} {P : World → Prop} (h : Fresh base w P) : P w := h w (SoftF.refl _ _)
theorem Fresh.soft {base : Nat → Prop} {w w1 : World} {P : World → Prop} (h : Fresh base w P) (hs : Soft w w1) : Fresh base w1 P := fun w' h' => h w' fun p v hp hc hv => h' p v hp (hs p v hc hv) hv
theorem Fresh.softF {base : Nat → Prop} {w w1 : World} {P : World → Prop} (h : Fresh base w P) (hs : SoftF base w w1) : Fresh base w1 P := fun w' h' => h w' (hs.trans h')
theorem Fresh.weak {base base' : Nat → Prop} {w : World} {P : World → Prop} (h : Fresh base w P) (hb : ∀ k, base k → base' k) : Fresh base' w P := fun w' h' => h w' fun p v hp => h' p v (hb _ hp)
/-- Of blocks that were not there. -/
theorem Fresh.young {base base' : Nat → Prop} {w w1 : World} {P : World → Prop} (h : Fresh base w P) (hs : Soft w w1) (hb : ∀ k, base k → k < w.heap.size → base' k) : Fresh base' w1 P :=
  fun w' h' => h w' fun p v hp hc hv => h' p v (hb _ hp (World.block_lt_of_cell? w _ hc)) (hs p v hc hv) hv
theorem Fresh.ints {base : Nat → Prop} {m : Nat} {w : World} {v : Value} {xs : List Int} {T : TypeId} (h : w.ownsRow m T 1 v xs.length (xs.map (.int .i64))) (hm : ∀ k, m ≤ k → base k) (hi : ∀ w', w'.ownsRow m T 1 v xs.length (xs.map (.int .i64)) → Ints w' v xs) : Fresh base w (Ints · v xs) := by
  intro w' h'
  have h0 := hi w h
  obtain ⟨a, cap, e, h1, h2, h3, h4⟩ := h0
  refine ⟨a, cap, e, h1, h2, h3, fun i hi => ?_⟩
  obtain ⟨b, o, e2, hc⟩ := h4 i hi
  refine ⟨b, o, e2, h' _ _ ?_ hc fun q hq => ?_⟩
  · subst e2 e
    exact hm _ (h.lt b rfl).1
  · rw [List.getElem_map] at hq; cases hq
theorem Fresh.nil (base : Nat → Prop) (w : World) : Fresh base w (IsTs · (.slice none 0 0) .nil) := fun w' _ => IsTs.nil w'
theorem Fresh.ints0 (base : Nat → Prop) (w : World) : Fresh base w (Ints · (.slice none 0 0) []) := fun w' _ => ⟨none, 0, rfl, Nat.le_refl _, by omega, fun _ => rfl, fun i hi => by simp at hi⟩
/-- An expression's parts. -/
theorem Fresh.ex {base : Nat → Prop} {w : World} {v : Value} {x : Ex} (h : Fresh base w (IsE · v x)) :
    ∃ vs ve vb vc, v = .agg #[.int .i64 x.kind, .string (bs x.name), .int .i64 x.val.kind, vs, ve, .int .i64 x.fn.kind, .int .i64 x.fn.f, .int .i64 x.fn.g, .string (bs x.fn.name), vb, vc] ∧
      Fresh base w (Ints · vs x.val.shape) ∧ Fresh base w (Ints · ve x.val.elems) ∧ Rng x.val.elems ∧ Fresh base w (IsTs · vb x.fn.body) ∧ Fresh base w (IsTs · vc x.kids) := by
  obtain ⟨vs, ve, vb, vc, e, i1, i2, i3, j1, j2⟩ := h.self
  have key : ∀ w', SoftF base w w' → Ints w' vs x.val.shape ∧ Ints w' ve x.val.elems ∧ IsTs w' vb x.fn.body ∧ IsTs w' vc x.kids := fun w' h' => by
    obtain ⟨vs', ve', vb', vc', e', k1, k2, k3, l1, l2⟩ := h w' h'
    rw [e] at e'
    simp only [Value.agg.injEq, Array.mk.injEq, List.cons.injEq, true_and, and_true] at e'
    obtain ⟨rfl, rfl, rfl, rfl⟩ := e'
    exact ⟨k1, k2, l1, l2⟩
  exact ⟨vs, ve, vb, vc, e, fun w' h' => (key w' h').1, fun w' h' => (key w' h').2.1, i3, fun w' h' => (key w' h').2.2.1, fun w' h' => (key w' h').2.2.2⟩
theorem Fresh.mkEx {base : Nat → Prop} {w : World} {x : Ex} {vs ve vb vc : Value} (i1 : Fresh base w (Ints · vs x.val.shape)) (i2 : Fresh base w (Ints · ve x.val.elems)) (i3 : Rng x.val.elems) (j1 : Fresh base w (IsTs · vb x.fn.body)) (j2 : Fresh base w (IsTs · vc x.kids)) :
    Fresh base w (IsE · (.agg #[.int .i64 x.kind, .string (bs x.name), .int .i64 x.val.kind, vs, ve, .int .i64 x.fn.kind, .int .i64 x.fn.f, .int .i64 x.fn.g, .string (bs x.fn.name), vb, vc]) x) :=
  fun w' h' => ⟨vs, ve, vb, vc, rfl, i1 w' h', i2 w' h', i3, j1 w' h', j2 w' h'⟩
theorem Fresh.fn {base : Nat → Prop} {w : World} {v : Value} {f : Fn} (h : Fresh base w (IsF · v f)) :
    ∃ vb, v = .agg #[.int .i64 f.kind, .int .i64 f.f, .int .i64 f.g, .string (bs f.name), vb] ∧ Fresh base w (IsTs · vb f.body) := by
  obtain ⟨vb, e, j1⟩ := h.self
  refine ⟨vb, e, fun w' h' => ?_⟩
  obtain ⟨vb', e', k1⟩ := h w' h'
  rw [e] at e'
  simp only [Value.agg.injEq, Array.mk.injEq, List.cons.injEq, true_and, and_true] at e'
  subst e'; exact k1
theorem Fresh.mkFn {base : Nat → Prop} {w : World} {f : Fn} {vb : Value} (h : Fresh base w (IsTs · vb f.body)) : Fresh base w (IsF · (.agg #[.int .i64 f.kind, .int .i64 f.f, .int .i64 f.g, .string (bs f.name), vb]) f) :=
  fun w' h' => ⟨vb, rfl, h w' h'⟩
theorem Fresh.ln {base : Nat → Prop} {w : World} {v : Value} {y : Ln} (h : Fresh base w (IsLn · v y)) :
    ∃ vc, v = .agg #[.int .i64 y.kind, .string (bs y.name), vc] ∧ Fresh base w (IsTs · vc y.kids) := by
  obtain ⟨vb, e, j1⟩ := h.self
  refine ⟨vb, e, fun w' h' => ?_⟩
  obtain ⟨vb', e', k1⟩ := h w' h'
  rw [e] at e'
  simp only [Value.agg.injEq, Array.mk.injEq, List.cons.injEq, true_and, and_true] at e'
  subst e'; exact k1
theorem Fresh.mkLn {base : Nat → Prop} {w : World} {y : Ln} {vc : Value} (h : Fresh base w (IsTs · vc y.kids)) : Fresh base w (IsLn · (.agg #[.int .i64 y.kind, .string (bs y.name), vc]) y) :=
  fun w' h' => ⟨vc, rfl, h w' h'⟩
/-- The cells of an expression, as a list. -/
def exL (x : Ex) (vs ve vb vc : Value) : List Value := [.int .i64 x.kind, .string (bs x.name), .int .i64 x.val.kind, vs, ve, .int .i64 x.fn.kind, .int .i64 x.fn.f, .int .i64 x.fn.g, .string (bs x.fn.name), vb, vc]
def lnL (y : Ln) (vc : Value) : List Value := [.int .i64 y.kind, .string (bs y.name), vc]
/-- Trees that were put one behind the other, in a row: their cells. -/
inductive Cells (base : Nat → Prop) (w : World) : Tr → List (List Value) → Prop where
  | nil : Cells base w .nil []
  | ex (x : Ex) (vs ve vb vc : Value) (r : Tr) (us : List (List Value)) : Fresh base w (Ints · vs x.val.shape) → Fresh base w (Ints · ve x.val.elems) → Rng x.val.elems → Fresh base w (IsTs · vb x.fn.body) → Fresh base w (IsTs · vc x.kids) → Cells base w r us → Cells base w (x.cons r) (exL x vs ve vb vc :: us)
  | ln (y : Ln) (vc : Value) (r : Tr) (us : List (List Value)) : Fresh base w (IsTs · vc y.kids) → Cells base w r us → Cells base w (y.cons r) (lnL y vc :: us)
theorem Cells.soft {base : Nat → Prop} {w w1 : World} {t : Tr} {us : List (List Value)} (h : Cells base w t us) (hs : Soft w w1) : Cells base w1 t us := by
  induction h with
  | nil => exact .nil
  | ex x vs ve vb vc r us i1 i2 i3 j1 j2 _ ih => exact .ex x vs ve vb vc r us (i1.soft hs) (i2.soft hs) i3 (j1.soft hs) (j2.soft hs) ih
  | ln y vc r us j _ ih => exact .ln y vc r us (j.soft hs) ih
theorem Cells.weak {base base' : Nat → Prop} {w : World} {t : Tr} {us : List (List Value)} (h : Cells base w t us) (hb : ∀ k, base k → base' k) : Cells base' w t us := by
  induction h with
  | nil => exact .nil
  | ex x vs ve vb vc r us i1 i2 i3 j1 j2 _ ih => exact .ex x vs ve vb vc r us (i1.weak hb) (i2.weak hb) i3 (j1.weak hb) (j2.weak hb) ih
  | ln y vc r us j _ ih => exact .ln y vc r us (j.weak hb) ih
theorem Cells.len {base : Nat → Prop} {w : World} {t : Tr} {us : List (List Value)} (h : Cells base w t us) : us.length = t.len := by
  induction h with
  | nil => rfl
  | ex x vs ve vb vc r us i1 i2 i3 j1 j2 _ ih => show us.length + 1 = r.len + 1; rw [ih]
  | ln y vc r us j _ ih => show us.length + 1 = r.len + 1; rw [ih]
theorem Fresh.noBoolI {base : Nat → Prop} {w : World} {v : Value} {xs : List Int} (h : Fresh base w (Ints · v xs)) : ∀ b, v ≠ .bool b := Ints.noBool h.self
theorem Fresh.noBoolT {base : Nat → Prop} {w : World} {v : Value} {t : Tr} (h : Fresh base w (IsTs · v t)) : ∀ b, v ≠ .bool b := SlT.noBool h.self
/-- So they lie in memory. -/
theorem Cells.at {base : Nat → Prop} {w : World} {t : Tr} {us : List (List Value)} (h : Cells base w t us) : ∀ (b o : Nat), base b → (∀ i u, us.flatten[i]? = some u → w.cell? ⟨b, o + i, none⟩ = some u) → Fresh base w (fun w' => AtT w' t b o) := by
  induction h with
  | nil => intro b o _ _ w' _; trivial
  | ex x vs ve vb vc r us i1 i2 i3 j1 j2 _ ih =>
    intro b o hb hc w' h'
    rw [List.flatten_cons] at hc
    have hg : ∀ i u, (exL x vs ve vb vc)[i]? = some u → w.cell? ⟨b, o + i, none⟩ = some u := fun i u hu => hc i u (by rw [List.getElem?_append_left (List.getElem?_eq_some_iff.1 hu).1]; exact hu)
    have hr := ih b (o + 11) hb (fun i u hu => by
      have := hc (11 + i) u (by rw [List.getElem?_append_right (by simp [exL])]; simpa [exL] using hu)
      rw [← Nat.add_assoc] at this; exact this) w' h'
    have h1 : ∀ i u, (exL x vs ve vb vc)[i]? = some u → (∀ c, u ≠ .bool c) → w'.cell? ⟨b, o + i, none⟩ = some u := fun i u hu hn => h' _ _ hb (hg i u hu) hn
    exact ⟨⟨vs, ve, vb, vc, ⟨h1 0 _ rfl (by intro b e; cases e), h1 1 _ rfl (by intro b e; cases e), h1 2 _ rfl (by intro b e; cases e), h1 3 _ rfl i1.noBoolI, h1 4 _ rfl i2.noBoolI, h1 5 _ rfl (by intro b e; cases e), h1 6 _ rfl (by intro b e; cases e), h1 7 _ rfl (by intro b e; cases e), h1 8 _ rfl (by intro b e; cases e), h1 9 _ rfl j1.noBoolT, h1 10 _ rfl j2.noBoolT⟩,
      i1 w' h', i2 w' h', i3, j1 w' h', j2 w' h'⟩, hr⟩
  | ln y vc r us j _ ih =>
    intro b o hb hc w' h'
    rw [List.flatten_cons] at hc
    have hg : ∀ i u, (lnL y vc)[i]? = some u → w.cell? ⟨b, o + i, none⟩ = some u := fun i u hu => hc i u (by rw [List.getElem?_append_left (List.getElem?_eq_some_iff.1 hu).1]; exact hu)
    have hr := ih b (o + 3) hb (fun i u hu => by
      have := hc (3 + i) u (by rw [List.getElem?_append_right (by simp [lnL])]; simpa [lnL] using hu)
      rw [← Nat.add_assoc] at this; exact this) w' h'
    have h1 : ∀ i u, (lnL y vc)[i]? = some u → (∀ c, u ≠ .bool c) → w'.cell? ⟨b, o + i, none⟩ = some u := fun i u hu hn => h' _ _ hb (hg i u hu) hn
    exact ⟨⟨vc, ⟨h1 0 _ rfl (by intro b e; cases e), h1 1 _ rfl (by intro b e; cases e), h1 2 _ rfl j.noBoolT⟩, j w' h'⟩, hr⟩
/-- A row that holds them. -/
theorem Cells.row {base : Nat → Prop} {w : World} {t : Tr} {us : List (List Value)} (h : Cells base w t us) {b n c : Nat} {cur : Array Value} {T : TypeId} {fz : Nat × Nat} (hb : base b) (hrow : w.heap[b]? = some (.cells cur T fz)) (hn : n = t.len) (hc : n ≤ c) (hc2 : c ≤ 9223372036854775807)
    (ht : ∀ (i : Nat) (u : Value), us.flatten[i]? = some u → cur[i]? = some u) : Fresh base w (IsTs · (.slice (some ⟨b, 0, none⟩) n c) t) := by
  subst hn
  intro w' h'
  refine ⟨_, _, rfl, hc, hc2, by simp, fun _ => ⟨b, 0, rfl, ?_⟩⟩
  exact h.at b 0 hb (fun i u hu => (Lib.cell_of_heap hrow (0 + i)).trans (by rw [Nat.zero_add]; exact ht i u hu)) w' h'

/-- What a reading does to whether something is none. -/
def Res {α : Type} (bad bad' : Bool) (law : Option α) (x : α) : Prop := bad' = (bad || law.isNone) ∧ (bad' = false → law = some x)
theorem Res.none {α : Type} {law : Option α} (h : law = none) (bad : Bool) (x : α) : Res bad true law x := ⟨by rw [h]; simp, fun h => by cases h⟩
theorem Res.some {α : Type} {law : Option α} {x : α} (h : law = some x) (bad : Bool) : Res bad bad law x := ⟨by rw [h]; simp, fun _ => h⟩
theorem Res.good {α : Type} {bad : Bool} {law : Option α} {x : α} (h : Res bad false law x) : bad = false ∧ law = .some x := by
  have := h.1
  refine ⟨?_, h.2 rfl⟩
  cases bad with
  | false => rfl
  | true => simp at this
theorem Res.bad {α : Type} {bad : Bool} {law : Option α} {x : α} (h : Res bad true law x) : bad = true ∨ law = Option.none := by
  have := h.1
  cases bad
  · right; simpa using this.symm
  · left; rfl
theorem Res.map {α β : Type} {bad bad' : Bool} {law : Option α} {law2 : Option β} {x : α} {f : α → β} (h : Res bad bad' law x) (e : law2 = law.map f) : Res bad bad' law2 (f x) := by
  subst e
  refine ⟨by rw [h.1]; simp, fun hb => by rw [h.2 hb]; rfl⟩
theorem Res.two {α β γ : Type} {bad b1 b2 : Bool} {la : Option α} {lb : Option β} {law : Option γ} {x : α} {y : β} (h1 : Res bad b1 la x) (h2 : Res b1 b2 lb y) (f : α → β → γ) (e : law = la.bind fun x => lb.map fun y => f x y) : Res bad b2 law (f x y) := by
  subst e
  refine ⟨?_, fun hb => ?_⟩
  · rw [h2.1, h1.1]
    cases la <;> cases lb <;> simp
  · subst hb
    obtain ⟨rfl, e2⟩ := h2.good
    obtain ⟨rfl, e1⟩ := h1.good
    rw [e1, e2]; rfl
/-- Values of tokens are not too great to be copied. -/
def Small (l : List Tok) : Prop := ∀ t ∈ l, t.val.shape.length ≤ 8000000 ∧ t.val.elems.length ≤ 8000000
theorem Small.sub {l r : List Tok} (h : Small l) (hs : r ⊆ l) : Small r := fun t ht => h t (hs ht)
/-- What is left of a text. -/
structure Rest (l r : List Tok) : Prop where
  dy : Dyck r
  le : r.length ≤ l.length - 1
  sub : r ⊆ l
theorem Rest.of_pre {l r : List Tok} (h : Pre l r) : Rest l r := ⟨h.1, by have := h.2.1; omega, h.sub⟩
theorem Rest.nil (l : List Tok) : Rest l [] := ⟨Dyck.nil, Nat.zero_le _, by simp⟩
/-- All that a reading is given. -/
structure Giv (F : List (List UInt8)) (w : World) (rb : Nat) (fv : Value) (ins bad : Bool) (v : Value) (l : List Tok) : Prop where
  pr : PR w rb fv ins bad
  fs : Strs w fv (F.map bs)
  tk : IsToks w v l
  dy : Dyck l
  sm : Small l
  le : l.length ≤ 8000000
  gy : Gly w
/-- What is answered: the reader's block, and all else stays. -/
structure Ans (w w' : World) (rb : Nat) (fv : Value) (ins bad' : Bool) : Prop where
  pr : PR w' rb fv ins bad'
  fr : Fr rb w w'
/-- Wherever a text reads, what is left of it reads. -/
def Sub (v : Value) (l : List Tok) (rv : Value) (r : List Tok) : Prop := ∀ V, IsToks V v l → IsToks V rv r
theorem Sub.trans {v : Value} {l : List Tok} {rv : Value} {r : List Tok} {qv : Value} {q : List Tok} (h : Sub v l rv r) (k : Sub rv r qv q) : Sub v l qv q := fun V hV => k V (h V hV)
theorem Sub.nil (v : Value) (l : List Tok) : Sub v l (.slice none 0 0) [] := fun V _ => IsToks.nil V
theorem Sub.seg {a : Option Addr} {c : Nat} {l : List Tok} {p : Nat × Nat} (h1 : p.1 ≤ p.2) (h2 : p.2 ≤ l.length) : Sub (.slice a l.length c) l (segV a c p) (seg l p) := fun V hV => segV_toks hV h1 h2
/-- The rows of parts, each of which reads wherever the whole reads; the row is of the call's own. -/
theorem parts_rows3 (v : Value) (l : List Tok) (g : List UInt8) (s : ByteArray) (hs : s = bs g) (w : World) (hl : IsToks w v l) (hlen : l.length ≤ 8000000) :
    Calls Tryz.prog 133 #[v, .string s] w fun e w' => (∃ a c, e = .returned (.slice a (partsF l g).length c) ∧ (∀ k p, (partsF l g)[k]? = some p → ∃ b x, a = some ⟨b, 0, none⟩ ∧ w.heap.size ≤ b ∧ w'.cell? ⟨b, k, none⟩ = some x ∧ Sub v l x p)) ∧ Below w.heap.size w w' := by
  refine (parts_any v l g s hs w hl hlen).mono ?_
  rintro e w' ⟨⟨a, c, Ce, CL, ov, rfl, rfl, hC, hr⟩, hB⟩
  refine ⟨?_, hB⟩
  have hb : ∀ p ∈ CL ++ [(0, Ce)], p.1 ≤ p.2 ∧ p.2 ≤ l.length := by
    have b1 := cut_bounds l g l.length (Nat.le_refl _)
    have b2 := (cut_inv l g l.length (Nat.le_refl _)).2.1
    unfold freeL at hC
    rw [hC] at b1 b2
    intro p hp
    simp only [List.mem_append, List.mem_singleton] at hp
    rcases hp with hp | rfl
    · exact b1 p hp
    · exact ⟨Nat.zero_le _, b2⟩
  have hP : partsF l g = ((CL ++ [(0, Ce)]).map (seg l)).reverse := by rw [parts_cut, hC]
  have hlen2 : (partsF l g).length = CL.length + 1 := by rw [hP]; simp
  obtain ⟨h1, ⟨rfl, h2⟩ | ⟨gb, cap, cur, rfl, h3, h4, h5, h6, h7, h8⟩⟩ := hr
  · omega
  · refine ⟨some ⟨gb, 0, none⟩, cap, by rw [hlen2], fun k p hk => ?_⟩
    rw [hP, ← List.map_reverse, List.getElem?_map, Option.map_eq_some_iff] at hk
    obtain ⟨q, hk, rfl⟩ := hk
    obtain ⟨q1, q2⟩ := hb q (List.mem_reverse.1 (List.mem_of_getElem? hk))
    refine ⟨gb, segV a c q, rfl, h3, ?_, Sub.seg q1 q2⟩
    rw [Lib.cell_of_heap h4]
    have hx : (((CL ++ [(0, Ce)]).map (segV a c)).reverse)[k]? = some (segV a c q) := by rw [← List.map_reverse, List.getElem?_map, hk]; rfl
    rw [← h8, List.getElem?_take] at hx
    split at hx
    · simpa using hx
    · cases hx
/-- What is answered of an operand, a function, an expression, lines, a line. -/
def OperA (w w' : World) (rb : Nat) (fv : Value) (ins bad : Bool) (v : Value) (l : List Tok) (law : Option (Ex × List Tok)) (e : Ending) : Prop :=
  ∃ bad' xv rv x r, e = .returned (.tuple #[xv, rv]) ∧ Ans w w' rb fv ins bad' ∧ Fresh (Up w.heap.size) w' (IsE · xv x) ∧ Sub v l rv r ∧ Rest l r ∧ Res bad bad' law (x, r)
def FunA (w w' : World) (rb : Nat) (fv : Value) (ins bad : Bool) (v : Value) (l : List Tok) (law : Option (Fn × List Tok)) (e : Ending) : Prop :=
  ∃ bad' xv rv x r, e = .returned (.tuple #[xv, rv]) ∧ Ans w w' rb fv ins bad' ∧ Fresh (Up w.heap.size) w' (IsF · xv x) ∧ Sub v l rv r ∧ Rest l r ∧ Res bad bad' law (x, r)
def ExprA (w w' : World) (rb : Nat) (fv : Value) (ins bad : Bool) (law : Option Ex) (e : Ending) : Prop :=
  ∃ bad' xv x, e = .returned xv ∧ Ans w w' rb fv ins bad' ∧ Fresh (Up w.heap.size) w' (IsE · xv x) ∧ Res bad bad' law x
def LinesA (w w' : World) (rb : Nat) (fv : Value) (ins bad : Bool) (law : Option Tr) (e : Ending) : Prop :=
  ∃ bad' xv x, e = .returned xv ∧ Ans w w' rb fv ins bad' ∧ Fresh (Up w.heap.size) w' (IsTs · xv x) ∧ Res bad bad' law x
def LineA (w w' : World) (rb : Nat) (fv : Value) (ins bad : Bool) (law : Option Ln) (e : Ending) : Prop :=
  ∃ bad' xv x, e = .returned xv ∧ Ans w w' rb fv ins bad' ∧ Fresh (Up w.heap.size) w' (IsLn · xv x) ∧ Res bad bad' law x
section
variable (F : List (List UInt8)) (n : Nat)
def OperC : Prop := ∀ (w : World) (rb : Nat) (fv : Value) (ins bad : Bool) (v : Value) (l : List Tok), Giv F w rb fv ins bad v l → 8 * l.length + 1 ≤ n →
  Calls Tryz.prog 127 #[.pointer (some ⟨rb, 0, none⟩), v] w fun e w' => OperA w w' rb fv ins bad v l (operandF F n ins l) e
def FunC : Prop := ∀ (w : World) (rb : Nat) (fv : Value) (ins bad : Bool) (v : Value) (l : List Tok), Giv F w rb fv ins bad v l → l ≠ [] → 8 * l.length + 1 ≤ n →
  Calls Tryz.prog 128 #[.pointer (some ⟨rb, 0, none⟩), v] w fun e w' => FunA w w' rb fv ins bad v l (functionF F n ins l) e
def ExprC : Prop := ∀ (w : World) (rb : Nat) (fv : Value) (ins bad : Bool) (v : Value) (l : List Tok), Giv F w rb fv ins bad v l → 8 * l.length + 3 ≤ n →
  Calls Tryz.prog 82 #[.pointer (some ⟨rb, 0, none⟩), v] w fun e w' => ExprA w w' rb fv ins bad (exprF F n ins l) e
def LinesC : Prop := ∀ (w : World) (rb : Nat) (fv : Value) (ins bad : Bool) (v : Value) (l : List Tok), Giv F w rb fv ins bad v l → 8 * l.length + 8 ≤ n →
  Calls Tryz.prog 86 #[.pointer (some ⟨rb, 0, none⟩), v] w fun e w' => LinesA w w' rb fv ins bad (linesF F n l) e
def LineC : Prop := ∀ (w : World) (rb : Nat) (fv : Value) (bad : Bool) (v : Value) (l : List Tok), Giv F w rb fv true bad v l → 8 * l.length + 4 ≤ n →
  Calls Tryz.prog 132 #[.pointer (some ⟨rb, 0, none⟩), v] w fun e w' => LineA w w' rb fv true bad (lineF F n l) e
end
end Go.Proofs.YthlingdlehdlhaaGreatDoor.Par

namespace Go.Proofs.YthlingdlehdlhaaGreatDoor.Par
open Go.RowKit Go.Shelf
set_option linter.unusedVariables false
set_option linter.unusedSimpArgs false

theorem ex_facts {w : World} {b : Nat} {a0 a1 a2 a3 a4 a5 a6 a7 a8 a9 a10 : Value} {T : TypeId} (z : w.heap[b]? = some (.cells #[a0, a1, a2, a3, a4, a5, a6, a7, a8, a9, a10] T)) : (w.cell? ⟨b, 0, none⟩ = some a0 ∧ w.cell? ⟨b, 1, none⟩ = some a1 ∧ w.cell? ⟨b, 2, none⟩ = some a2 ∧ w.cell? ⟨b, 3, none⟩ = some a3 ∧ w.cell? ⟨b, 4, none⟩ = some a4 ∧ w.cell? ⟨b, 5, none⟩ = some a5 ∧ w.cell? ⟨b, 6, none⟩ = some a6 ∧ w.cell? ⟨b, 7, none⟩ = some a7 ∧ w.cell? ⟨b, 8, none⟩ = some a8 ∧ w.cell? ⟨b, 9, none⟩ = some a9 ∧ w.cell? ⟨b, 10, none⟩ = some a10) ∧ (w.frozen? ⟨b, 0, none⟩ = false ∧ w.frozen? ⟨b, 1, none⟩ = false ∧ w.frozen? ⟨b, 2, none⟩ = false ∧ w.frozen? ⟨b, 3, none⟩ = false ∧ w.frozen? ⟨b, 4, none⟩ = false ∧ w.frozen? ⟨b, 5, none⟩ = false ∧ w.frozen? ⟨b, 6, none⟩ = false ∧ w.frozen? ⟨b, 7, none⟩ = false ∧ w.frozen? ⟨b, 8, none⟩ = false ∧ w.frozen? ⟨b, 9, none⟩ = false ∧ w.frozen? ⟨b, 10, none⟩ = false) := by
  refine ⟨⟨?_, ?_, ?_, ?_, ?_, ?_, ?_, ?_, ?_, ?_, ?_⟩, ⟨?_, ?_, ?_, ?_, ?_, ?_, ?_, ?_, ?_, ?_, ?_⟩⟩
  all_goals first | exact Lib.frozen_of_heap z _ | (rw [Lib.cell_of_heap z]; rfl)
theorem fn_facts {w : World} {b : Nat} {a0 a1 a2 a3 a4 : Value} {T : TypeId} (z : w.heap[b]? = some (.cells #[a0, a1, a2, a3, a4] T)) : (w.cell? ⟨b, 0, none⟩ = some a0 ∧ w.cell? ⟨b, 1, none⟩ = some a1 ∧ w.cell? ⟨b, 2, none⟩ = some a2 ∧ w.cell? ⟨b, 3, none⟩ = some a3 ∧ w.cell? ⟨b, 4, none⟩ = some a4) ∧ (w.frozen? ⟨b, 0, none⟩ = false ∧ w.frozen? ⟨b, 1, none⟩ = false ∧ w.frozen? ⟨b, 2, none⟩ = false ∧ w.frozen? ⟨b, 3, none⟩ = false ∧ w.frozen? ⟨b, 4, none⟩ = false) := by
  refine ⟨⟨?_, ?_, ?_, ?_, ?_⟩, ⟨?_, ?_, ?_, ?_, ?_⟩⟩
  all_goals first | exact Lib.frozen_of_heap z _ | (rw [Lib.cell_of_heap z]; rfl)
theorem ln_facts {w : World} {b : Nat} {a0 a1 a2 : Value} {T : TypeId} (z : w.heap[b]? = some (.cells #[a0, a1, a2] T)) : (w.cell? ⟨b, 0, none⟩ = some a0 ∧ w.cell? ⟨b, 1, none⟩ = some a1 ∧ w.cell? ⟨b, 2, none⟩ = some a2) ∧ (w.frozen? ⟨b, 0, none⟩ = false ∧ w.frozen? ⟨b, 1, none⟩ = false ∧ w.frozen? ⟨b, 2, none⟩ = false) := by
  refine ⟨⟨?_, ?_, ?_⟩, ⟨?_, ?_, ?_⟩⟩
  all_goals first | exact Lib.frozen_of_heap z _ | (rw [Lib.cell_of_heap z]; rfl)
theorem ex_set {w : World} {b : Nat} {a0 a1 a2 a3 a4 a5 a6 a7 a8 a9 a10 : Value} {T : TypeId} (z : w.heap[b]? = some (.cells #[a0, a1, a2, a3, a4, a5, a6, a7, a8, a9, a10] T)) (b0 b1 b2 b3 b4 b5 b6 b7 b8 b9 b10 : Value) : (((((((((((w.setCell ⟨b, 0, none⟩ b0).setCell ⟨b, 1, none⟩ b1).setCell ⟨b, 2, none⟩ b2).setCell ⟨b, 3, none⟩ b3).setCell ⟨b, 4, none⟩ b4).setCell ⟨b, 5, none⟩ b5).setCell ⟨b, 6, none⟩ b6).setCell ⟨b, 7, none⟩ b7).setCell ⟨b, 8, none⟩ b8).setCell ⟨b, 9, none⟩ b9).setCell ⟨b, 10, none⟩ b10).heap[b]? = some (.cells #[b0, b1, b2, b3, b4, b5, b6, b7, b8, b9, b10] T) :=
  (heap_set1 (i := 10) (heap_set1 (i := 9) (heap_set1 (i := 8) (heap_set1 (i := 7) (heap_set1 (i := 6) (heap_set1 (i := 5) (heap_set1 (i := 4) (heap_set1 (i := 3) (heap_set1 (i := 2) (heap_set1 (i := 1) (heap_set1 (i := 0) z b0) b1) b2) b3) b4) b5) b6) b7) b8) b9) b10).trans (by kernel_rfl)
theorem fn_set {w : World} {b : Nat} {a0 a1 a2 a3 a4 : Value} {T : TypeId} (z : w.heap[b]? = some (.cells #[a0, a1, a2, a3, a4] T)) (b0 b1 b2 b3 b4 : Value) : (((((w.setCell ⟨b, 0, none⟩ b0).setCell ⟨b, 1, none⟩ b1).setCell ⟨b, 2, none⟩ b2).setCell ⟨b, 3, none⟩ b3).setCell ⟨b, 4, none⟩ b4).heap[b]? = some (.cells #[b0, b1, b2, b3, b4] T) :=
  (heap_set1 (i := 4) (heap_set1 (i := 3) (heap_set1 (i := 2) (heap_set1 (i := 1) (heap_set1 (i := 0) z b0) b1) b2) b3) b4).trans (by kernel_rfl)
theorem ln_set {w : World} {b : Nat} {a0 a1 a2 : Value} {T : TypeId} (z : w.heap[b]? = some (.cells #[a0, a1, a2] T)) (b0 b1 b2 : Value) : (((w.setCell ⟨b, 0, none⟩ b0).setCell ⟨b, 1, none⟩ b1).setCell ⟨b, 2, none⟩ b2).heap[b]? = some (.cells #[b0, b1, b2] T) :=
  (heap_set1 (i := 2) (heap_set1 (i := 1) (heap_set1 (i := 0) z b0) b1) b2).trans (by kernel_rfl)

/-- All blocks but one lie as they lay. -/
structure Oth (R : Nat) (w w' : World) : Prop where
  os : w'.os = w.os
  tape : w'.tape = w.tape
  output : w'.output = w.output
  size : w'.heap.size = w.heap.size
  block : ∀ k, k ≠ R → w'.heap[k]? = w.heap[k]?
theorem Oth.refl (R : Nat) (w : World) : Oth R w w := ⟨rfl, rfl, rfl, rfl, fun _ _ => rfl⟩
theorem Oth.put {R : Nat} {a w : World} (h : Oth R a w) (i : Nat) (v : Value) : Oth R a (w.setCell ⟨R, i, none⟩ v) :=
  ⟨h.os, h.tape, h.output, by rw [← h.size]; simp [World.setCell], fun k hk => by rw [Below.heap_setCell _ _ _ _ hk]; exact h.block k hk⟩
theorem Oth.drew {R : Nat} {a w : World} (h : Oth R a w) : Oth R a w.drew := ⟨h.os, h.tape, h.output, h.size, h.block⟩
theorem Oth.pr {R rb : Nat} {w w' : World} {fv : Value} {i b : Bool} (h : Oth R w w') (hp : PR w rb fv i b) (hR : rb ≠ R) : PR w' rb fv i b := (h.block rb hR).trans hp
theorem Oth.fr {R rb : Nat} {a w w' : World} (h : Oth R w w') (hf : Fr rb a w) (hR : a.heap.size ≤ R) : Fr rb a w' :=
  ⟨h.os.trans hf.os, h.tape.trans hf.tape, h.output.trans hf.output, by rw [h.size]; exact hf.size, fun k hk hn => (h.block k (by omega)).trans (hf.block k hk hn)⟩
theorem Oth.below {R B : Nat} {a w w' : World} (h : Oth R w w') (hf : Below B a w) (hR : B ≤ R) : Below B a w' :=
  ⟨h.os.trans hf.os, h.tape.trans hf.tape, h.output.trans hf.output, by rw [h.size]; exact hf.size, fun k hk => (h.block k (by omega)).trans (hf.block k hk)⟩
theorem Oth.soft {R : Nat} {w w' : World} {base : Nat → Prop} (h : Oth R w w') (hR : ¬ base R) : SoftF base w w' := fun p v hp hc _ => by
  rw [World.cell?_of_block (w := w) (h.block p.block (fun e => hR (e ▸ hp)))]; exact hc
theorem Soft.alloc (w : World) (o : Obj) : Soft w (w.alloc o) := Soft.of_below ((Below.refl _ w).alloc (Nat.le_refl _) o)
theorem Giv.soft {F : List (List UInt8)} {w w1 : World} {rb : Nat} {fv : Value} {ins bad bad' : Bool} {v : Value} {l : List Tok} (h : Giv F w rb fv ins bad v l) (hp : PR w1 rb fv ins bad') (hs : Soft w w1) : Giv F w1 rb fv ins bad' v l :=
  ⟨hp, Strs.soft h.fs hs, toks_soft h.tk hs, h.dy, h.sm, h.le, h.gy.soft hs⟩
theorem toks_parts {w : World} {v : Value} {l : List Tok} (h : IsToks w v l) : ∃ a c, v = .slice a l.length c := by
  obtain ⟨a, c, e, -⟩ := h; exact ⟨a, c, e⟩

theorem Oth.row {R : Nat} {a w : World} (h : Oth R a w) (cs : Array Value) : Oth R a (w.setRow R cs) :=
  ⟨h.os, h.tape, h.output, by rw [setRow_size]; exact h.size, fun k hk => (setRow_other w R k cs hk).trans (h.block k hk)⟩
theorem wpList_load_rowE {P : Program} {ops : Array Oper} {rest : List Oper} {o : Oper} {a : Act} {w : World} {Q : Exit → Act → World → Prop} (hgd : o.guard = none) (ty : TypeId) (x : Operand) (ho : o.op = .load ty x)
    (g : Nat) (hx : a.eval x = .pointer (some ⟨g, 0, none⟩)) (t : TypeId) (cs : Array Value) (fr : Nat × Nat) (d : TypeDesc) (hg : w.heap[g]? = some (.cells cs t fr))
    (hu : P.underlying ty = some d) (hd : (match d with | .struct _ | .array _ _ => true | _ => false) = true) (hi : (P.info? ty).map (·.size) = some cs.size)
    (h : wpList P ops Q rest (a.put o.dst (.agg cs)) w) : wpList P ops Q (o :: rest) a w :=
  wpList_plain hgd fun _ hK => wp_load_row ty x ho g hx t cs fr d hg hu hd hi (hK _ _ h)

end Go.Proofs.YthlingdlehdlhaaGreatDoor.Par

namespace Go.Proofs.YthlingdlehdlhaaGreatDoor.Par
open Go.RowKit Go.Shelf
set_option linter.unusedVariables false
set_option linter.unusedSimpArgs false

theorem named_idx (t : List UInt8) : max 0 (idxS (([] : List UInt8) :: glyph12) t) = namedF t := by
  unfold idxS namedF
  by_cases h0 : t = []
  · subst h0
    decide
  · by_cases h : t ∈ glyph12
    · rw [if_pos (List.mem_cons_of_mem _ h), if_pos h, List.idxOf_cons, show (([] : List UInt8) == t) = false from by simpa using h0]
      simp only [cond_false]
      omega
    · rw [if_neg (by simp [h0, h]), if_neg h]
      rfl
set_option maxRecDepth 100000 in
theorem named_of (t : List UInt8) (s : ByteArray) (i n : Int) (hn : max 0 i = n) (w : World) (hi : Calls Tryz.prog 185 #[.slice (some ⟨2, 0, none⟩) 18 18, .string s] w fun e w' => e = .returned (.int .i64 i) ∧ Quiet w w') :
    Calls Tryz.prog 183 #[.string s] w fun e w' => e = .returned (.int .i64 n) ∧ Quiet w w' := by
  have hn := hid hn
  go_enter Tryz.func183, Tryz.ntmps183
  go_wp2_with fail
  refine hi.mono ?_
  rintro e w' ⟨rfl, nq, rfl⟩
  go_wp2_with fail
  go_ret
  exact ⟨by rw [← hn.out]; rfl, ⟨_, rfl⟩⟩
theorem named_any (t : List UInt8) (s : ByteArray) (hs : s = bs t) (w : World) (hG : Gly w) :
    Calls Tryz.prog 183 #[.string s] w fun e w' => e = .returned (.int .i64 (namedF t)) ∧ Quiet w w' := by
  exact named_of t s _ (namedF t) (named_idx t) w (index_any _ (([] : List UInt8) :: glyph12) t s hs w hG.a)

set_option maxRecDepth 100000 in
set_option maxHeartbeats 2000000 in
theorem logic_any (f : Int) (w : World) : Calls Tryz.prog 210 #[.int .i64 f] w fun e w' => w' = w ∧ ∃ v, e = .returned v ∧ ((9 ≤ f ∧ f ≤ 16 ∧ ∃ g a b, v = .func g a b) ∨ (¬ (9 ≤ f ∧ f ≤ 16) ∧ v = .nilFunc)) := by
  by_cases h9 : f = 9
  · subst h9
    go_enter Tryz.func210, Tryz.ntmps210
    go_wp2_with fail
    go_ret
    exact ⟨rfl, _, rfl, .inl ⟨by decide, by decide, _, _, _, rfl⟩⟩
  have t9 : (f == 9) = false := by simpa using h9
  by_cases h10 : f = 10
  · subst h10
    go_enter Tryz.func210, Tryz.ntmps210
    go_wp2_with fail
    go_ret
    exact ⟨rfl, _, rfl, .inl ⟨by decide, by decide, _, _, _, rfl⟩⟩
  have t10 : (f == 10) = false := by simpa using h10
  by_cases h11 : f = 11
  · subst h11
    go_enter Tryz.func210, Tryz.ntmps210
    go_wp2_with fail
    go_ret
    exact ⟨rfl, _, rfl, .inl ⟨by decide, by decide, _, _, _, rfl⟩⟩
  have t11 : (f == 11) = false := by simpa using h11
  by_cases h12 : f = 12
  · subst h12
    go_enter Tryz.func210, Tryz.ntmps210
    go_wp2_with fail
    go_ret
    exact ⟨rfl, _, rfl, .inl ⟨by decide, by decide, _, _, _, rfl⟩⟩
  have t12 : (f == 12) = false := by simpa using h12
  by_cases h13 : f = 13
  · subst h13
    go_enter Tryz.func210, Tryz.ntmps210
    go_wp2_with fail
    go_ret
    exact ⟨rfl, _, rfl, .inl ⟨by decide, by decide, _, _, _, rfl⟩⟩
  have t13 : (f == 13) = false := by simpa using h13
  by_cases h14 : f = 14
  · subst h14
    go_enter Tryz.func210, Tryz.ntmps210
    go_wp2_with fail
    go_ret
    exact ⟨rfl, _, rfl, .inl ⟨by decide, by decide, _, _, _, rfl⟩⟩
  have t14 : (f == 14) = false := by simpa using h14
  by_cases h15 : f = 15
  · subst h15
    go_enter Tryz.func210, Tryz.ntmps210
    go_wp2_with fail
    go_ret
    exact ⟨rfl, _, rfl, .inl ⟨by decide, by decide, _, _, _, rfl⟩⟩
  have t15 : (f == 15) = false := by simpa using h15
  by_cases h16 : f = 16
  · subst h16
    go_enter Tryz.func210, Tryz.ntmps210
    go_wp2_with fail
    go_ret
    exact ⟨rfl, _, rfl, .inl ⟨by decide, by decide, _, _, _, rfl⟩⟩
  have t16 : (f == 16) = false := by simpa using h16
  have hn : ¬ (9 ≤ f ∧ f ≤ 16) := by omega
  clear h9 h10 h11 h12 h13 h14 h15 h16
  go_enter Tryz.func210, Tryz.ntmps210
  go_wp2_with fail
  go_ret
  exact ⟨rfl, _, rfl, .inr ⟨hn, rfl⟩⟩
set_option maxRecDepth 100000 in
set_option maxHeartbeats 2000000 in
theorem bfn_any (f : Int) (w : World) : Calls Tryz.prog 196 #[.int .i64 f] w fun e w' => w' = w ∧ ∃ v, e = .returned v ∧ ((bin12 f = true ∧ ∃ g a b, v = .func g a b) ∨ (bin12 f = false ∧ v = .nilFunc)) := by
  by_cases h1 : f = 1
  · subst h1
    go_enter Tryz.func196, Tryz.ntmps196
    go_wp2_with fail
    go_ret
    exact ⟨rfl, _, rfl, .inl ⟨by decide, _, _, _, rfl⟩⟩
  have t1 : (f == 1) = false := by simpa using h1
  by_cases h2 : f = 2
  · subst h2
    go_enter Tryz.func196, Tryz.ntmps196
    go_wp2_with fail
    go_ret
    exact ⟨rfl, _, rfl, .inl ⟨by decide, _, _, _, rfl⟩⟩
  have t2 : (f == 2) = false := by simpa using h2
  by_cases h3 : f = 3
  · subst h3
    go_enter Tryz.func196, Tryz.ntmps196
    go_wp2_with fail
    go_ret
    exact ⟨rfl, _, rfl, .inl ⟨by decide, _, _, _, rfl⟩⟩
  have t3 : (f == 3) = false := by simpa using h3
  by_cases h4 : f = 4
  · subst h4
    go_enter Tryz.func196, Tryz.ntmps196
    go_wp2_with fail
    go_ret
    exact ⟨rfl, _, rfl, .inl ⟨by decide, _, _, _, rfl⟩⟩
  have t4 : (f == 4) = false := by simpa using h4
  by_cases h5 : f = 5
  · subst h5
    go_enter Tryz.func196, Tryz.ntmps196
    go_wp2_with fail
    go_ret
    exact ⟨rfl, _, rfl, .inl ⟨by decide, _, _, _, rfl⟩⟩
  have t5 : (f == 5) = false := by simpa using h5
  by_cases h6 : f = 6
  · subst h6
    go_enter Tryz.func196, Tryz.ntmps196
    go_wp2_with fail
    go_ret
    exact ⟨rfl, _, rfl, .inl ⟨by decide, _, _, _, rfl⟩⟩
  have t6 : (f == 6) = false := by simpa using h6
  by_cases h7 : f = 7
  · subst h7
    go_enter Tryz.func196, Tryz.ntmps196
    go_wp2_with fail
    go_ret
    exact ⟨rfl, _, rfl, .inl ⟨by decide, _, _, _, rfl⟩⟩
  have t7 : (f == 7) = false := by simpa using h7
  by_cases h8 : f = 8
  · subst h8
    go_enter Tryz.func196, Tryz.ntmps196
    go_wp2_with fail
    go_ret
    exact ⟨rfl, _, rfl, .inl ⟨by decide, _, _, _, rfl⟩⟩
  have t8 : (f == 8) = false := by simpa using h8
  have hb : bin12 f = decide (9 ≤ f ∧ f ≤ 16) := by unfold bin12; rw [Bool.eq_iff_iff]; simp; omega
  have hl := logic_any f w
  clear h1 h2 h3 h4 h5 h6 h7 h8
  go_enter Tryz.func196, Tryz.ntmps196
  go_wp2_with fail
  refine hl.mono ?_
  rintro e w' ⟨hw, v, rfl, h⟩
  obtain rfl := hw.symm
  clear hl
  rcases h with ⟨a1, a2, g, a, b, rfl⟩ | ⟨a1, rfl⟩
  · have hb2 := hid (show bin12 f = true by rw [hb]; simp [a1, a2])
    clear hb a1 a2
    go_wp2_with fail
    go_ret
    exact ⟨rfl, _, rfl, .inl ⟨hb2.out, _, _, _, rfl⟩⟩
  · have hb2 := hid (show bin12 f = false by rw [hb]; simp; omega)
    clear hb a1
    go_wp2_with fail
    go_ret
    exact ⟨rfl, _, rfl, .inr ⟨hb2.out, rfl⟩⟩
theorem run_equalIn_func (d : Nat) (P : Program) (w : World) (t : TypeId) (D : TypeDesc) (g : Go.Fn) (a b : Array Value) (h : P.underlying t = some D) (hD : ∃ ps rs vd, D = .func ps rs vd) : (Op.equalIn (d + 1) t (.func g a b) .nilFunc).run P w = .ok false w := by
  obtain ⟨ps, rs, vd, rfl⟩ := hD
  simp [Op.equalIn, run_underlying h]
theorem run_equalIn_nilFunc (d : Nat) (P : Program) (w : World) (t : TypeId) (D : TypeDesc) (h : P.underlying t = some D) (hD : ∃ ps rs vd, D = .func ps rs vd) : (Op.equalIn (d + 1) t .nilFunc .nilFunc).run P w = .ok true w := by
  obtain ⟨ps, rs, vd, rfl⟩ := hD
  simp [Op.equalIn, run_underlying h]
theorem run_equal_func (w : World) (g : Go.Fn) (a b : Array Value) : (Op.equal 221 (.func g a b) .nilFunc).run Tryz.prog w = .ok false w :=
  run_equalIn_func 9999 _ w _ _ g a b Tryz.underlying221 ⟨_, _, _, rfl⟩
theorem run_equal_nilFunc (w : World) : (Op.equal 221 .nilFunc .nilFunc).run Tryz.prog w = .ok true w :=
  run_equalIn_nilFunc 9999 _ w _ _ Tryz.underlying221 ⟨_, _, _, rfl⟩
theorem run_neq_func (w : World) (g : Go.Fn) (a b : Array Value) : (binOp .neq 221 (.func g a b) .nilFunc).run Tryz.prog w = .ok (.bool true) w := by
  simp only [binOp]
  simp [run_equal_func]
theorem run_neq_nilFunc (w : World) : (binOp .neq 221 .nilFunc .nilFunc).run Tryz.prog w = .ok (.bool false) w := by
  simp only [binOp]
  simp [run_equal_nilFunc]
attribute [local go_sem] run_neq_func run_neq_nilFunc
set_option maxRecDepth 100000 in
theorem sbin_any (f : Int) (w : World) : Calls Tryz.prog 184 #[.int .i64 f] w fun e w' => e = .returned (.bool (bin12 f)) ∧ w' = w := by
  have hl := bfn_any f w
  generalize bin12 f = B at *
  go_enter Tryz.func184, Tryz.ntmps184
  go_wp2_with fail
  refine hl.mono ?_
  rintro e w' ⟨hw, v, rfl, h⟩
  obtain rfl := hw.symm
  clear hl
  rcases h with ⟨rfl, g, a, b, rfl⟩ | ⟨rfl, rfl⟩
  · go_wp2_with fail
    go_ret
    exact ⟨rfl, rfl⟩
  · go_wp2_with fail
    go_ret
    exact ⟨rfl, rfl⟩
/-- Where a number stands in a list; -1: nowhere. -/
def idxI (xs : List Int) (s : Int) : Int := if s ∈ xs then (xs.idxOf s : Int) else -1
theorem idxOfI_le (s : Int) : ∀ (ys : List Int) (k : Nat), ys[k]? = some s → ys.idxOf s ≤ k := by
  intro ys
  induction ys with
  | nil => intro k h; simp at h
  | cons y ys ih =>
    intro k h
    rw [List.idxOf_cons]
    cases k with
    | zero => simp at h; simp [h]
    | succ k =>
      cases hy : (y == s)
      · have := ih k (by simpa using h); simp; omega
      · simp
theorem idxI_at (xs : List Int) (s : Int) (k : Nat) (h : xs[k]? = some s) (hn : ∀ j, j < k → xs[j]? ≠ some s) : idxI xs s = k := by
  have hm : s ∈ xs := List.mem_of_getElem? h
  have hlt := List.idxOf_lt_length_of_mem hm
  have hg : xs[xs.idxOf s]? = some s := by rw [List.getElem?_eq_getElem hlt, List.getElem_idxOf hlt]
  unfold idxI; rw [if_pos hm]
  congr 1
  have h2 := idxOfI_le s xs k h
  rcases Nat.lt_or_ge (xs.idxOf s) k with h1 | h1
  · exact absurd hg (hn _ h1)
  · omega
set_option maxRecDepth 100000 in
set_option maxHeartbeats 400000 in
theorem indexI_any (v : Value) (xs : List Int) (t : Int) (w : World) (hx : Ints w v xs) :
    Calls Tryz.prog 211 #[v, .int .i64 t] w fun e w' => e = .returned (.int .i64 (idxI xs t)) ∧ Quiet w w' := by
  obtain ⟨a, cap, rfl, h1, h2, h3, h4⟩ := hx.parts
  have hc := fun i hi => hx.cell i hi
  clear hx
  go_enter Tryz.func211, Tryz.ntmps211
  go_wp2
  go_loopw [5, 8] (fun _ i wr => ∃ k : Nat, k ≤ xs.length ∧ i = .int .i64 k ∧ (∀ j, j < k → xs[j]? ≠ some t) ∧ Quiet w wr) (fun _ i _ => xs.length - (intOf i).toNat)
  case atStart => exact ⟨0, by omega, rfl, fun j hj => by omega, Quiet.refl _⟩
  case round =>
    obtain ⟨k, hk, rfl, ht, ⟨nq0, rfl⟩⟩ := hrel
    by_cases hlt : k < xs.length
    · obtain ⟨b, o, rfl, hcell⟩ := hc k hlt
      have hg : xs[k]? = some (xs[k]?.getD 0) := by rw [List.getElem?_eq_getElem hlt]; rfl
      have hki : (k : Int) < (xs.length : Int) := by omega
      generalize xs[k]?.getD 0 = l at hcell hg
      by_cases he : t = l
      · subst he
        have H : Hid (idxI xs t = k) := hid (idxI_at xs t k hg ht)
        clear ht hc hg h4
        go_wp2
        go_ret
        exact ⟨by rw [H.out]; rfl, ⟨_, rfl⟩⟩
      · have H : Hid (∀ j, j < k + 1 → xs[j]? ≠ some t) := hid (fun j hj => by
          rcases Nat.lt_or_ge j k with h | h
          · exact ht j h
          · have : j = k := by omega
            subst this; rw [hg]; intro e; cases e; exact he rfl)
        have hbe : (t == l) = false := by simpa using he
        clear ht hc hg he h4
        go_wp2
        go_roundw
        case rel => exact ⟨k + 1, by omega, by go_num, H.out, ⟨_, rfl⟩⟩
        case measure => simp [intOf]; omega
    · have H : Hid (idxI xs t = -1) := hid (by
        unfold idxI; rw [if_neg]
        intro hm
        obtain ⟨j, hj, e⟩ := List.getElem_of_mem hm
        exact ht j (by omega) (by rw [List.getElem?_eq_getElem hj, e]))
      clear ht hc h4
      go_wp2
      go_ret
      exact ⟨by rw [H.out]; rfl, ⟨_, rfl⟩⟩
theorem idxI_pos (xs : List Int) (s : Int) : decide (0 ≤ idxI xs s) = decide (s ∈ xs) := by
  unfold idxI; split
  · rename_i h; simp [h]
  · rename_i h; simp [h]
set_option maxRecDepth 100000 in
theorem containsI_of (a : Option Addr) (n c : Nat) (s i : Int) (w : World) (h : Calls Tryz.prog 211 #[.slice a n c, .int .i64 s] w fun e w' => e = .returned (.int .i64 i) ∧ Quiet w w') :
    Calls Tryz.prog 197 #[.slice a n c, .int .i64 s] w fun e w' => e = .returned (.bool (decide (0 ≤ i))) ∧ Quiet w w' := by
  go_enter Tryz.func197, Tryz.ntmps197
  go_wp2_with fail
  refine h.mono ?_
  rintro e w1 ⟨rfl, nq, rfl⟩
  go_wp2_with fail
  go_ret
  exact ⟨rfl, ⟨_, rfl⟩⟩
theorem containsI_any (v : Value) (xs : List Int) (t : Int) (w : World) (hx : Ints w v xs) :
    Calls Tryz.prog 197 #[v, .int .i64 t] w fun e w' => e = .returned (.bool (decide (t ∈ xs))) ∧ Quiet w w' := by
  have h := indexI_any v xs t w hx
  obtain ⟨a, cap, rfl, -⟩ := hx.parts
  rw [← idxI_pos]
  exact containsI_of a _ cap t _ w h
theorem intsL {w : World} {b n : Nat} {T : TypeId} (xs : List Int) (h : w.heap[b]? = some (.cells (xs.map (Value.int .i64)).toArray T)) (hn : n = xs.length) (hb : xs.length ≤ maxLen) : Ints w (.slice (some ⟨b, 0, none⟩) n n) xs := by
  subst hn
  have := Ints.of_owns (w := w) (base := 0) (e := T) (v := .slice (some ⟨b, 0, none⟩) xs.length xs.length) (xs := xs) ⟨by simp, .inr ⟨b, xs.length, _, rfl, Nat.zero_le _, h, Nat.le_refl _, hb, by simp, by simp [List.take_of_length_le]⟩⟩
  exact this
theorem un_eq (f : Int) : decide (f ∈ ([1, 2, 3, 5, 17] : List Int)) = un12 f := by
  unfold un12; rw [Bool.eq_iff_iff]; simp; omega
set_option maxRecDepth 100000 in
theorem sun_any (f : Int) (w : World) : Calls Tryz.prog 186 #[.int .i64 f] w fun e w' => e = .returned (.bool (un12 f)) ∧ Below w.heap.size w w' := by
  have hc := fun (O : Obj) (hO : O = .cells #[.int .i64 1, .int .i64 2, .int .i64 3, .int .i64 5, .int .i64 17] 3) =>
    containsI_any (.slice (some ⟨w.heap.size, 0, none⟩) 5 5) [1, 2, 3, 5, 17] f (w.alloc O) (by subst hO; exact intsL [1, 2, 3, 5, 17] (heap_alloc_new _ _) rfl (by simp [maxLen]))
  rw [un_eq] at hc
  generalize un12 f = B at *
  go_enter Tryz.func186, Tryz.ntmps186
  go_wp2_with fail
  refine (hc _ rfl).mono ?_
  rintro e w' ⟨rfl, hq⟩
  clear hc
  go_wp2_with fail
  go_ret
  exact ⟨rfl, ((Below.refl _ w).alloc (Nat.le_refl _) _).trans (hq.below _)⟩
theorem fn_idx (t : List UInt8) : fnF t = if 0 ≤ idxS mixedG t then idxS mixedG t + 20 else namedF t := by
  unfold fnF idxS
  by_cases h : t ∈ mixedG
  · rw [if_pos h, if_pos h, if_pos (by omega)]
  · rw [if_neg h, if_neg h, if_neg (by omega)]
theorem idxS_le (xs : List (List UInt8)) (t : List UInt8) : -1 ≤ idxS xs t ∧ idxS xs t ≤ xs.length := by
  unfold idxS
  split
  · rename_i h; have := List.idxOf_lt_length_of_mem h; omega
  · omega
set_option maxRecDepth 100000 in
theorem fn_of (s : ByteArray) (i n r : Int) (hr : -1 ≤ i ∧ i ≤ 12) (hf : r = if 0 ≤ i then i + 20 else n) (w : World)
    (hi : Calls Tryz.prog 185 #[.slice (some ⟨1, 0, none⟩) 12 12, .string s] w fun e w' => e = .returned (.int .i64 i) ∧ Quiet w w')
    (hN : ∀ nq, Calls Tryz.prog 183 #[.string s] (w.drewN nq) fun e w' => e = .returned (.int .i64 n) ∧ Quiet (w.drewN nq) w') :
    Calls Tryz.prog 159 #[.string s] w fun e w' => e = .returned (.int .i64 r) ∧ Quiet w w' := by
  have hf := hid hf
  go_enter Tryz.func159, Tryz.ntmps159
  go_wp2_with fail
  refine hi.mono ?_
  rintro e w' ⟨rfl, nq, rfl⟩
  by_cases h0 : 0 ≤ i
  · have hd : decide (0 ≤ i) = true := by simpa using h0
    have hf2 := hid (hf.out.trans (if_pos h0))
    have hi20 : IntKind.i64.wrap (20 + i) = 20 + i := IntWalk.i64_in _ (by omega)
    clear hf h0
    go_wp2_with fail
    go_ret
    exact ⟨by rw [hf2.out, Int.add_comm]; rfl, ⟨_, rfl⟩⟩
  · have hd : decide (0 ≤ i) = false := by simpa using h0
    have hf2 := hid (hf.out.trans (if_neg h0))
    clear hf h0
    go_wp2_with fail
    refine (hN nq).mono ?_
    rintro e w' ⟨rfl, hq⟩
    go_wp2_with fail
    go_ret
    exact ⟨by rw [hf2.out]; rfl, Quiet.trans ⟨nq, rfl⟩ hq⟩
theorem fn_any (t : List UInt8) (s : ByteArray) (hs : s = bs t) (w : World) (hG : Gly w) :
    Calls Tryz.prog 159 #[.string s] w fun e w' => e = .returned (.int .i64 (fnF t)) ∧ Quiet w w' :=
  fn_of s _ (namedF t) _ (idxS_le mixedG t) (fn_idx t) w (index_any _ mixedG t s hs w hG.b) (fun nq => named_any t s hs _ (hG.below (Quiet.below ⟨nq, rfl⟩ _)))
set_option maxRecDepth 100000 in
set_option maxHeartbeats 2000000 in
theorem val_any (f : Int) (w : World) : Calls Tryz.prog 160 #[.int .i64 f] w fun e w' => e = .returned (.tuple #[.bool (valF f).1, .bool (valF f).2]) ∧ Below w.heap.size w w' := by
  by_cases h20 : f = 20
  · subst h20
    go_enter Tryz.func160, Tryz.ntmps160
    go_wp2_with fail
    refine bodyPost_ret (results_tmp2 rfl _ _ _) rfl ?_
    exact ⟨by kernel_rfl, Below.refl _ _⟩
  have t20 : (f == 20) = false := by simpa using h20
  by_cases h21 : f = 21
  · subst h21
    go_enter Tryz.func160, Tryz.ntmps160
    go_wp2_with fail
    refine bodyPost_ret (results_tmp2 rfl _ _ _) rfl ?_
    exact ⟨by kernel_rfl, Below.refl _ _⟩
  have t21 : (f == 21) = false := by simpa using h21
  by_cases h22 : f = 22
  · subst h22
    go_enter Tryz.func160, Tryz.ntmps160
    go_wp2_with fail
    refine bodyPost_ret (results_tmp2 rfl _ _ _) rfl ?_
    exact ⟨by kernel_rfl, Below.refl _ _⟩
  have t22 : (f == 22) = false := by simpa using h22
  by_cases h23 : f = 23
  · subst h23
    go_enter Tryz.func160, Tryz.ntmps160
    go_wp2_with fail
    refine bodyPost_ret (results_tmp2 rfl _ _ _) rfl ?_
    exact ⟨by kernel_rfl, Below.refl _ _⟩
  have t23 : (f == 23) = false := by simpa using h23
  by_cases h24 : f = 24
  · subst h24
    go_enter Tryz.func160, Tryz.ntmps160
    go_wp2_with fail
    refine bodyPost_ret (results_tmp2 rfl _ _ _) rfl ?_
    exact ⟨by kernel_rfl, Below.refl _ _⟩
  have t24 : (f == 24) = false := by simpa using h24
  by_cases h25 : f = 25
  · subst h25
    go_enter Tryz.func160, Tryz.ntmps160
    go_wp2_with fail
    refine bodyPost_ret (results_tmp2 rfl _ _ _) rfl ?_
    exact ⟨by kernel_rfl, Below.refl _ _⟩
  have t25 : (f == 25) = false := by simpa using h25
  by_cases h26 : f = 26
  · subst h26
    go_enter Tryz.func160, Tryz.ntmps160
    go_wp2_with fail
    refine bodyPost_ret (results_tmp2 rfl _ _ _) rfl ?_
    exact ⟨by kernel_rfl, Below.refl _ _⟩
  have t26 : (f == 26) = false := by simpa using h26
  by_cases h27 : f = 27
  · subst h27
    go_enter Tryz.func160, Tryz.ntmps160
    go_wp2_with fail
    refine bodyPost_ret (results_tmp2 rfl _ _ _) rfl ?_
    exact ⟨by kernel_rfl, Below.refl _ _⟩
  have t27 : (f == 27) = false := by simpa using h27
  by_cases h28 : f = 28
  · subst h28
    go_enter Tryz.func160, Tryz.ntmps160
    go_wp2_with fail
    refine bodyPost_ret (results_tmp2 rfl _ _ _) rfl ?_
    exact ⟨by kernel_rfl, Below.refl _ _⟩
  have t28 : (f == 28) = false := by simpa using h28
  by_cases h29 : f = 29
  · subst h29
    go_enter Tryz.func160, Tryz.ntmps160
    go_wp2_with fail
    refine bodyPost_ret (results_tmp2 rfl _ _ _) rfl ?_
    exact ⟨by kernel_rfl, Below.refl _ _⟩
  have t29 : (f == 29) = false := by simpa using h29
  by_cases h30 : f = 30
  · subst h30
    go_enter Tryz.func160, Tryz.ntmps160
    go_wp2_with fail
    refine bodyPost_ret (results_tmp2 rfl _ _ _) rfl ?_
    exact ⟨by kernel_rfl, Below.refl _ _⟩
  have t30 : (f == 30) = false := by simpa using h30
  by_cases h31 : f = 31
  · subst h31
    go_enter Tryz.func160, Tryz.ntmps160
    go_wp2_with fail
    refine bodyPost_ret (results_tmp2 rfl _ _ _) rfl ?_
    exact ⟨by kernel_rfl, Below.refl _ _⟩
  have t31 : (f == 31) = false := by simpa using h31
  have hv := hid (show valF f = (un12 f, bin12 f) by unfold valF; rw [if_neg (by omega)])
  have hu := sun_any f w
  have hb := fun V => sbin_any f V
  clear h20 h21 h22 h23 h24 h25 h26 h27 h28 h29 h30 h31
  generalize valF f = V at *
  generalize un12 f = U at *
  generalize bin12 f = B at *
  go_enter Tryz.func160, Tryz.ntmps160
  go_wp2_with fail
  refine hu.mono ?_
  rintro e w1 ⟨rfl, b1⟩
  go_wp2_with fail
  refine (hb _).mono ?_
  rintro e w2 ⟨rfl, hw⟩
  obtain rfl := hw.symm
  go_wp2_with fail
  refine bodyPost_ret (results_tmp2 rfl _ _ _) rfl ?_
  exact ⟨by rw [hv.out]; rfl, b1⟩
set_option maxRecDepth 100000 in
set_option maxHeartbeats 2000000 in
theorem takes_any (f : Fn) (vb v : Value) (hb : ∃ a n c, vb = .slice a n c) (hv : v = .agg #[.int .i64 f.kind, .int .i64 f.f, .int .i64 f.g, .string (bs f.name), vb]) (w : World) :
    Calls Tryz.prog 129 #[v] w fun e w' => e = .returned (.tuple #[.bool (takesF f).1, .bool (takesF f).2]) ∧ Below w.heap.size w w' := by
  obtain ⟨a, n, c, rfl⟩ := hb
  subst hv
  obtain ⟨k, f, g, nm, bd⟩ := f
  simp only
  have hB := (Below.refl _ w).alloc (Nat.le_refl _) (.cells #[.int .i64 k, .int .i64 f, .int .i64 g, .string (bs nm), .slice a n c] 33)
  by_cases h1 : k = 1
  · subst h1
    have ht := hid (show takesF ⟨1, f, g, nm, bd⟩ = valF f by unfold takesF; simp)
    have hva := fun V => val_any f V
    generalize takesF ⟨1, f, g, nm, bd⟩ = T at *
    generalize valF f = V at *
    go_enter Tryz.func129, Tryz.ntmps129
    go_wp2_with fail
    refine (hva _).mono ?_
    rintro e w1 ⟨rfl, b1⟩
    go_wp2_with fail
    refine bodyPost_ret (results_tmp2 rfl _ _ _) rfl ?_
    exact ⟨by rw [ht.out]; rfl, hB.trans (b1.mono hB.size)⟩
  have t1 : (k == 1) = false := by simpa using h1

  by_cases h2 : k = 2
  · subst h2
    have ht := hid (show takesF ⟨2, f, g, nm, bd⟩ = (true, false) by unfold takesF; simp)
    generalize takesF ⟨2, f, g, nm, bd⟩ = T at *
    go_enter Tryz.func129, Tryz.ntmps129
    go_wp2_with fail
    refine bodyPost_ret (results_tmp2 rfl _ _ _) rfl ?_
    exact ⟨by rw [ht.out]; rfl, hB⟩
  have t2 : (k == 2) = false := by simpa using h2
  by_cases h3 : k = 3
  · subst h3
    have ht := hid (show takesF ⟨3, f, g, nm, bd⟩ = (true, false) by unfold takesF; simp)
    generalize takesF ⟨3, f, g, nm, bd⟩ = T at *
    go_enter Tryz.func129, Tryz.ntmps129
    go_wp2_with fail
    refine bodyPost_ret (results_tmp2 rfl _ _ _) rfl ?_
    exact ⟨by rw [ht.out]; rfl, hB⟩
  have t3 : (k == 3) = false := by simpa using h3
  by_cases h4 : k = 4
  · subst h4
    have ht := hid (show takesF ⟨4, f, g, nm, bd⟩ = (false, true) by unfold takesF; simp)
    generalize takesF ⟨4, f, g, nm, bd⟩ = T at *
    go_enter Tryz.func129, Tryz.ntmps129
    go_wp2_with fail
    refine bodyPost_ret (results_tmp2 rfl _ _ _) rfl ?_
    exact ⟨by rw [ht.out]; rfl, hB⟩
  have t4 : (k == 4) = false := by simpa using h4
  by_cases h5 : k = 5
  · subst h5
    have ht := hid (show takesF ⟨5, f, g, nm, bd⟩ = (false, true) by unfold takesF; simp)
    generalize takesF ⟨5, f, g, nm, bd⟩ = T at *
    go_enter Tryz.func129, Tryz.ntmps129
    go_wp2_with fail
    refine bodyPost_ret (results_tmp2 rfl _ _ _) rfl ?_
    exact ⟨by rw [ht.out]; rfl, hB⟩
  have t5 : (k == 5) = false := by simpa using h5
  have ht := hid (show takesF ⟨k, f, g, nm, bd⟩ = (true, true) by unfold takesF; simp [h1, h2, h3, h4, h5])
  generalize takesF ⟨k, f, g, nm, bd⟩ = T at *
  clear h1 h2 h3 h4 h5
  go_enter Tryz.func129, Tryz.ntmps129
  go_wp2_with fail
  refine bodyPost_ret (results_tmp2 rfl _ _ _) rfl ?_
  exact ⟨by rw [ht.out]; rfl, hB⟩
set_option maxRecDepth 100000 in
set_option maxHeartbeats 1000000 in
theorem pbin_any (t : Tok) (vs ve : Value) (w : World) (hG : Gly w) :
    Calls Tryz.prog 158 #[.agg #[.int .i64 t.kind, .string (bs t.txt), .int .i64 t.val.kind, vs, ve]] w fun e w' => e = .returned (.int .i64 (binT t)) ∧ Below w.heap.size w w' := by
  obtain ⟨k, tx, va⟩ := t
  simp only
  have hB := (Below.refl _ w).alloc (Nat.le_refl _) (.cells #[.int .i64 k, .string (bs tx), .int .i64 va.kind, vs, ve] 48)
  have hN := fun V hV => named_any tx _ rfl V hV
  have hb := fun n V => sbin_any n V
  have hT := hid (show binT ⟨k, tx, va⟩ = if k = 3 ∧ bin12 (namedF tx) = true then namedF tx else 0 from rfl)
  have hG1 := hG.below hB
  generalize binT ⟨k, tx, va⟩ = R at *
  generalize namedF tx = n at *
  have hb1 := fun V => hb n V
  generalize bin12 n = B at *
  clear hb hG
  by_cases hk : k = 3
  · subst hk
    cases B
    · have hT2 := hid (hT.out.trans (if_neg (by simp)))
      clear hT
      go_enter Tryz.func158, Tryz.ntmps158
      go_wp2_with fail
      refine (hN _ hG1).mono ?_
      rintro e w1 ⟨rfl, nq, rfl⟩
      go_wp2_with fail
      refine (hb1 _).mono ?_
      rintro e w2 ⟨rfl, hw⟩
      obtain rfl := hw.symm
      go_wp2_with fail
      go_ret
      exact ⟨by rw [hT2.out]; rfl, below_drewN hB _⟩
    · have hT2 := hid (hT.out.trans (if_pos ⟨rfl, rfl⟩))
      clear hT
      go_enter Tryz.func158, Tryz.ntmps158
      go_wp2_with fail
      refine (hN _ hG1).mono ?_
      rintro e w1 ⟨rfl, nq, rfl⟩
      go_wp2_with fail
      refine (hb1 _).mono ?_
      rintro e w2 ⟨rfl, hw⟩
      obtain rfl := hw.symm
      go_wp2_with fail
      go_ret
      exact ⟨by rw [hT2.out]; rfl, below_drewN hB _⟩
  · have hk3 : (k == 3) = false := by simpa using hk
    have hT2 := hid (hT.out.trans (if_neg (fun h => hk h.1)))
    clear hT hk
    go_enter Tryz.func158, Tryz.ntmps158
    go_wp2_with fail
    refine (hN _ hG1).mono ?_
    rintro e w1 ⟨rfl, nq, rfl⟩
    go_wp2_with fail
    go_ret
    exact ⟨by rw [hT2.out]; rfl, below_drewN hB _⟩
end Go.Proofs.YthlingdlehdlhaaGreatDoor.Par

namespace Go.Proofs.YthlingdlehdlhaaGreatDoor.Par
open Go.RowKit Go.Shelf
set_option linter.unusedVariables false
set_option linter.unusedSimpArgs false

/-- A block that holds an expression, whose parts lie in such blocks. -/
structure XB (Sb : Nat → Prop) (w : World) (X : Nat) (x : Ex) (vs ve vb vc : Value) : Prop where
  hp : w.heap[X]? = some (.cells #[.int .i64 x.kind, .string (bs x.name), .int .i64 x.val.kind, vs, ve, .int .i64 x.fn.kind, .int .i64 x.fn.f, .int .i64 x.fn.g, .string (bs x.fn.name), vb, vc] 36)
  i1 : Fresh Sb w (Ints · vs x.val.shape)
  i2 : Fresh Sb w (Ints · ve x.val.elems)
  i3 : Rng x.val.elems
  j1 : Fresh Sb w (IsTs · vb x.fn.body)
  j2 : Fresh Sb w (IsTs · vc x.kids)
theorem XB.lt {Sb : Nat → Prop} {w : World} {X : Nat} {x : Ex} {vs ve vb vc : Value} (h : XB Sb w X x vs ve vb vc) : X < w.heap.size := (Array.getElem?_eq_some_iff.1 h.hp).1
theorem XB.soft {Sb : Nat → Prop} {w w1 : World} {X : Nat} {x : Ex} {vs ve vb vc : Value} (h : XB Sb w X x vs ve vb vc) (hs : Soft w w1) (hb : w1.heap[X]? = w.heap[X]?) : XB Sb w1 X x vs ve vb vc :=
  ⟨hb.trans h.hp, h.i1.soft hs, h.i2.soft hs, h.i3, h.j1.soft hs, h.j2.soft hs⟩
theorem XB.forms {Sb : Nat → Prop} {w : World} {X : Nat} {x : Ex} {vs ve vb vc : Value} (h : XB Sb w X x vs ve vb vc) :
    (∃ a c, vs = .slice a x.val.shape.length c) ∧ (∃ a c, ve = .slice a x.val.elems.length c) ∧ (∃ a c, vb = .slice a x.fn.body.len c) ∧ (∃ a c, vc = .slice a x.kids.len c) := by
  obtain ⟨a1, c1, e1, -⟩ := h.i1.self.parts
  obtain ⟨a2, c2, e2, -⟩ := h.i2.self.parts
  obtain ⟨a3, c3, e3, -⟩ := h.j1.self.parts
  obtain ⟨a4, c4, e4, -⟩ := h.j2.self.parts
  exact ⟨⟨a1, c1, e1⟩, ⟨a2, c2, e2⟩, ⟨a3, c3, e3⟩, ⟨a4, c4, e4⟩⟩
theorem XB.isE {Sb : Nat → Prop} {w : World} {X : Nat} {x : Ex} {vs ve vb vc : Value} (h : XB Sb w X x vs ve vb vc) : Fresh Sb w (IsE · (.agg #[.int .i64 x.kind, .string (bs x.name), .int .i64 x.val.kind, vs, ve, .int .i64 x.fn.kind, .int .i64 x.fn.f, .int .i64 x.fn.g, .string (bs x.fn.name), vb, vc]) x) := Fresh.mkEx h.i1 h.i2 h.i3 h.j1 h.j2
/-- Where the reading of an expression stands. -/
def LawSt (F : List (List UInt8)) (n : Nat) (ins bad : Bool) (law : Option Ex) (bd : Bool) (x : Ex) (r : List Tok) : Prop :=
  (bd = true ∧ (bad = true ∨ law = none)) ∨ (bd = false ∧ bad = false ∧ ∃ k, 8 * r.length + 2 ≤ k ∧ k ≤ n ∧ law = loopF F k ins x r)
theorem LawSt.res {F : List (List UInt8)} {n : Nat} {ins bad : Bool} {law : Option Ex} {bd : Bool} {x : Ex} {r : List Tok} (h : LawSt F n ins bad law bd x r) (he : r = [] ∨ bd = true) : Res bad bd law x := by
  rcases h with ⟨rfl, h | h⟩ | ⟨rfl, rfl, k, h1, h2, h3⟩
  · subst h; exact ⟨by simp, fun h => by cases h⟩
  · exact Res.none h bad x
  · rcases he with rfl | he
    · obtain ⟨k, rfl⟩ : ∃ j, k = j + 1 := ⟨k - 1, by simp at h1; omega⟩
      rw [loopF, if_pos rfl] at h3
      exact Res.some h3 false
    · cases he
theorem LawSt.start {F : List (List UInt8)} {n : Nat} {ins bad bd : Bool} {l r : List Tok} {x : Ex} (h : Res bad bd (operandF F n ins l) (x, r)) (hr : Rest l r) (hf : 8 * l.length + 2 ≤ n) (hne : operandF F n ins l = some (x, r) → l ≠ []) : LawSt F n ins bad (exprF F (n + 1) ins l) bd x r := by
  cases bd with
  | true =>
    rcases h.bad with h | h
    · exact .inl ⟨rfl, .inl h⟩
    · exact .inl ⟨rfl, .inr (by rw [exprF, h])⟩
  | false =>
    obtain ⟨rfl, e⟩ := h.good
    have := hr.le
    have := List.length_pos_iff.2 (hne e)
    exact .inr ⟨rfl, rfl, n, by omega, Nat.le_refl _, by rw [exprF, e]⟩
theorem op_ne {F : List (List UInt8)} {n : Nat} {ins : Bool} {l r : List Tok} {x : Ex} (h : operandF F n ins l = some (x, r)) : l ≠ [] := by
  rintro rfl
  cases n with
  | zero => rw [operandF] at h; cases h
  | succ n => rw [operandF] at h; cases h
/-- A function was read, and no operand stands ahead of it. -/
theorem LawSt.one {F : List (List UInt8)} {n k : Nat} {ins bad bd2 : Bool} {law : Option Ex} {r r1 : List Tok} {x : Ex} {f : Fn} (h : bad = false ∧ 8 * r.length + 2 ≤ k + 1 ∧ k + 1 ≤ n ∧ law = loopF F (k + 1) ins x r) (hne : r ≠ [])
    (hR : Res false bd2 (functionF F k ins r) (f, r1)) (hr : Rest r r1) (he : endsF F r1 = false) : LawSt F n ins bad law (bd2 || !(takesF f).1) ⟨5, [], noArr, f, x.cons .nil⟩ r1 := by
  obtain ⟨rfl, h1, h2, h3⟩ := h
  rw [loopF, if_neg hne] at h3
  have hp := List.length_pos_iff.2 hne
  have hle := hr.le
  cases bd2 with
  | true =>
    rcases hR.bad with h | h
    · cases h
    · exact .inl ⟨rfl, .inr (by rw [h3, h])⟩
  | false =>
    rw [hR.good.2] at h3
    simp only [he, Bool.false_eq_true, if_false] at h3
    cases ht : (takesF f).1 with
    | true => rw [ht, if_pos rfl] at h3; exact .inr ⟨rfl, rfl, k, by omega, by omega, h3⟩
    | false => rw [ht, if_neg (by simp)] at h3; exact .inl ⟨rfl, .inr h3⟩
/-- .. and an operand stands ahead of it. -/
theorem LawSt.two {F : List (List UInt8)} {n k : Nat} {ins bad bd2 bd3 : Bool} {law : Option Ex} {r r1 r2 : List Tok} {x y : Ex} {f : Fn} (h : bad = false ∧ 8 * r.length + 2 ≤ k + 1 ∧ k + 1 ≤ n ∧ law = loopF F (k + 1) ins x r) (hne : r ≠ [])
    (hR : Res false bd2 (functionF F k ins r) (f, r1)) (hr : Rest r r1) (he : endsF F r1 = true) (hR2 : Res bd2 bd3 (operandF F k ins r1) (y, r2)) (hr2 : Rest r1 r2) : LawSt F n ins bad law (bd3 || !(takesF f).2) ⟨6, [], noArr, f, y.cons (x.cons .nil)⟩ r2 := by
  obtain ⟨rfl, h1, h2, h3⟩ := h
  rw [loopF, if_neg hne] at h3
  have hp := List.length_pos_iff.2 hne
  have hle := hr.le
  have hle2 := hr2.le
  cases bd3 with
  | true =>
    cases bd2 with
    | true =>
      rcases hR.bad with h | h
      · cases h
      · exact .inl ⟨rfl, .inr (by rw [h3, h])⟩
    | false =>
      rw [hR.good.2] at h3
      simp only [he, if_true] at h3
      rcases hR2.bad with h | h
      · cases h
      · rw [h] at h3; exact .inl ⟨rfl, .inr h3⟩
  | false =>
    obtain ⟨rfl, e2⟩ := hR2.good
    rw [hR.good.2] at h3
    simp only [he, if_true, e2] at h3
    cases ht : (takesF f).2 with
    | true => rw [ht, if_pos rfl] at h3; exact .inr ⟨rfl, rfl, k, by omega, by omega, h3⟩
    | false => rw [ht, if_neg (by simp)] at h3; exact .inl ⟨rfl, .inr h3⟩
theorem XB.cells {Sb : Nat → Prop} {w : World} {X : Nat} {x : Ex} {vs ve vb vc : Value} (h : XB Sb w X x vs ve vb vc) {t : Tr} {us : List (List Value)} (k : Cells Sb w t us) : Cells Sb w (x.cons t) (exL x vs ve vb vc :: us) := .ex x vs ve vb vc t us h.i1 h.i2 h.i3 h.j1 h.j2 k
/-- A function, and an expression put together. -/
theorem XB.make {Sb : Nat → Prop} {w : World} {X : Nat} {k : Int} {f : Fn} {vb vc : Value} {ks : Tr}
    (hp : w.heap[X]? = some (.cells #[.int .i64 k, .string ⟨#[]⟩, .int .i64 0, .slice none 0 0, .slice none 0 0, .int .i64 f.kind, .int .i64 f.f, .int .i64 f.g, .string (bs f.name), vb, vc] 36)) (j1 : Fresh Sb w (IsTs · vb f.body)) (j2 : Fresh Sb w (IsTs · vc ks)) :
    XB Sb w X ⟨k, [], noArr, f, ks⟩ (.slice none 0 0) (.slice none 0 0) vb vc :=
  ⟨hp, Fresh.ints0 _ _, Fresh.ints0 _ _, fun i hi => by simp [noArr] at hi, j1, j2⟩
end Go.Proofs.YthlingdlehdlhaaGreatDoor.Par
