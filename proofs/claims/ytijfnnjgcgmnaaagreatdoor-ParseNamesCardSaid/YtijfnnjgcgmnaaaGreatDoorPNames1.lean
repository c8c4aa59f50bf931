/- The law ParseNames: what is so of the values that its regions make. -/
import Derived.Test.YtijfnnjgcgmnaaaGreatDoorPInv2
import Derived.Test.YtijfnnjgcgmnaaaGreatDoorPNames0
namespace Go.Proofs.YtijfnnjgcgmnaaaGreatDoor.Par
open Go.RowKit Go.Shelf
set_option linter.unusedVariables false
set_option linter.unusedSimpArgs false

/-- What is so of a value. -/
inductive Fact where
  | any
  | lit (v : Value)
  | ex (x : Ex)
  | fn (f : Fn)
  | strs (l : List (List UInt8))
  | exs (n : Nat) (t : Tr)
  | lnv (k : Int) (nm : List UInt8) (n : Nat) (t : Tr)
  | fnv (n : Nat) (t : Tr)
  | exv (n : Nat) (t : Tr)
def Fact.holds (b : Nat → Prop) (w : World) (v : Value) : Fact → Prop
  | .any => True
  | .lit u => v = u
  | .ex x => Fresh b w (IsE · v x)
  | .fn f => Fresh b w (IsF · v f)
  | .strs l => Fresh b w (Strs · v (l.map bs))
  | .exs n t => ∃ g, v = .slice (some ⟨g, 0, none⟩) n n ∧ Fresh b w (IsTs · (.slice (some ⟨g, 0, none⟩) n n) t)
  | .lnv k nm n t => ∃ g, v = .agg #[.int .i64 k, .string (bs nm), .slice (some ⟨g, 0, none⟩) n n] ∧ Fresh b w (IsTs · (.slice (some ⟨g, 0, none⟩) n n) t)
  | .fnv n t => ∃ g, v = .agg #[.int .i64 7, .int .i64 0, .int .i64 0, .string ⟨#[]⟩, .slice (some ⟨g, 0, none⟩) n n] ∧ Fresh b w (IsTs · (.slice (some ⟨g, 0, none⟩) n n) t)
  | .exv n t => ∃ g, v = .agg #[.int .i64 7, .string ⟨#[]⟩, .int .i64 0, .slice none 0 0, .slice none 0 0, .int .i64 0, .int .i64 0, .int .i64 0, .string ⟨#[]⟩, .slice none 0 0, .slice (some ⟨g, 0, none⟩) n n] ∧ Fresh b w (IsTs · (.slice (some ⟨g, 0, none⟩) n n) t)
theorem Fact.mono {b b' : Nat → Prop} {w w' : World} {v : Value} {f : Fact} (h : f.holds b w v) (hm : ∀ P : World → Prop, Fresh b w P → Fresh b' w' P) : f.holds b' w' v := by
  cases f with
  | any => trivial
  | lit u => exact h
  | ex x => exact hm _ h
  | fn f => exact hm _ h
  | strs l => exact hm _ h
  | exs n t => obtain ⟨g, e, h⟩ := h; exact ⟨g, e, hm _ h⟩
  | lnv k nm n t => obtain ⟨g, e, h⟩ := h; exact ⟨g, e, hm _ h⟩
  | fnv n t => obtain ⟨g, e, h⟩ := h; exact ⟨g, e, hm _ h⟩
  | exv n t => obtain ⟨g, e, h⟩ := h; exact ⟨g, e, hm _ h⟩
/-- Where a region stands that only makes memory. -/
structure RS0 (W : World) (sl : Nat → Nat) (tab : List Fact) (vs : Nat → Value) (w : World) (d : Nat → Bool) : Prop where
  gr : Below W.heap.size W w
  val : ∀ k f, tab[k]? = some f → d k = true → f.holds (fun _ => True) w (vs (sl k))
theorem RS0.step {W : World} {sl : Nat → Nat} {tab : List Fact} {vs : Nat → Value} {w w' : World} {d : Nat → Bool} (h : RS0 W sl tab vs w d) (hsl : ∀ i j, sl i = sl j → i = j) (k : Nat) (f : Fact) (hf : tab[k]? = some f) (hb : Below w.heap.size w w') (v : Value) (hv : f.holds (fun _ => True) w' v) :
    RS0 W sl tab (upd vs (sl k) v) w' (fun j => decide (j = k) || d j) := by
  refine ⟨h.gr.trans (hb.mono h.gr.size), fun j g hg hd => ?_⟩
  by_cases hj : j = k
  · subst hj
    rw [hf] at hg; injection hg with hg; subst hg
    rw [upd_same]; exact hv
  · rw [upd_other v (fun e => hj (hsl _ _ e))]
    rw [decide_eq_false hj, Bool.false_or] at hd
    exact Fact.mono (h.val j g hg hd) fun P hP => hP.soft (Soft.of_below hb)
theorem fn_lit (b : Nat → Prop) (w : World) (k f g : Int) (nm : List UInt8) : Fresh b w (IsF · (.agg #[.int .i64 k, .int .i64 f, .int .i64 g, .string (bs nm), .slice none 0 0]) ⟨k, f, g, nm, .nil⟩) := Fresh.mkFn (f := ⟨k, f, g, nm, .nil⟩) (Fresh.nil _ _)
theorem ex_lit (b : Nat → Prop) (w : World) (k : Int) (nm : List UInt8) : Fresh b w (IsE · (.agg #[.int .i64 k, .string (bs nm), .int .i64 0, .slice none 0 0, .slice none 0 0, .int .i64 0, .int .i64 0, .int .i64 0, .string ⟨#[]⟩, .slice none 0 0, .slice none 0 0]) ⟨k, nm, noArr, noFn, .nil⟩) :=
  Fresh.mkEx (x := ⟨k, nm, noArr, noFn, .nil⟩) (Fresh.ints0 _ _) (Fresh.ints0 _ _) (fun i hi => by simp [noArr] at hi) (Fresh.nil _ _) (Fresh.nil _ _)
theorem Fresh.strs {b : Nat → Prop} {w : World} {v : Value} {l : List (List UInt8)} (h : Strs w v (l.map bs)) (hb : ∀ g o, (∃ n c, v = .slice (some ⟨g, o, none⟩) n c) → b g) : Fresh b w (Strs · v (l.map bs)) := by
  obtain ⟨a, c, e, h1, h2, h3, h4⟩ := h
  intro w' hw
  refine ⟨a, c, e, h1, h2, h3, fun i hi => ?_⟩
  obtain ⟨g, o, e2, hc⟩ := h4 i hi
  exact ⟨g, o, e2, hw _ _ (hb g o ⟨_, _, by rw [e, e2]⟩) hc (by rw [List.getElem_map]; intro b e; cases e)⟩
theorem fresh_e {w : World} {v : Value} {x : Ex} (h : IsE w v x) : Fresh (fun _ => True) w (IsE · v x) := fun w' h' => h.soft (fun p v hc hv => h' p v trivial hc hv)
theorem fresh_ts {w : World} {v : Value} {t : Tr} (h : IsTs w v t) : Fresh (fun _ => True) w (IsTs · v t) := fun w' h' => h.soft (fun p v hc hv => h' p v trivial hc hv)
/-- All blocks but the one that this slot points to. -/
def baseA (vs : Nat → Value) (A : Nat) (k : Nat) : Prop := vs A ≠ .pointer (some ⟨k, 0, none⟩)
/-- Where a region stands that makes memory, and last stores into a block of its own. -/
structure RSA (W : World) (n : Nat) (sl : Nat → Nat) (tab : List Fact) (A ia is : Nat) (Z : Array Value) (T : TypeId) (Dn : (Nat → Value) → World → Prop) (vs : Nat → Value) (w : World) (d : Nat → Bool) : Prop where
  gr : Below W.heap.size W w
  nal : d ia = false → vs A = undef
  al : d ia = true → d is = false → ∃ b, vs A = .pointer (some ⟨b, 0, none⟩) ∧ W.heap.size ≤ b ∧ w.heap[b]? = some (.cells Z T)
  val : ∀ k f, tab[k]? = some f → d k = true → d is = false → f.holds (baseA vs A) w (vs (sl k))
  dn : d is = true → Dn vs w
  cl : d is = true → ∀ k, k < n → d k = true
theorem RSA.start {W w : World} (n : Nat) (sl : Nat → Nat) (tab : List Fact) (A ia is : Nat) (Z : Array Value) (T : TypeId) (Dn : (Nat → Value) → World → Prop) (h : Below W.heap.size W w) : RSA W n sl tab A ia is Z T Dn (fun _ => undef) w (fun _ => false) :=
  ⟨h, fun _ => rfl, fun h _ => Bool.noConfusion h, fun _ _ _ h _ => Bool.noConfusion h, fun h => Bool.noConfusion h, fun h => Bool.noConfusion h⟩
theorem RSA.step {W : World} {n : Nat} {sl : Nat → Nat} {tab : List Fact} {A ia is : Nat} {Z : Array Value} {T : TypeId} {Dn : (Nat → Value) → World → Prop} {vs : Nat → Value} {w w' : World} {d : Nat → Bool} (h : RSA W n sl tab A ia is Z T Dn vs w d)
    (hsl : ∀ i j, sl i = sl j → i = j) (k : Nat) (hk : k < n) (hd : d k = false) (h1 : k ≠ ia) (h2 : k ≠ is) (h3 : sl k ≠ A) (f : Fact) (hf : tab[k]? = some f) (hb : Below w.heap.size w w') (v : Value) (hv : f.holds (baseA vs A) w' v) :
    RSA W n sl tab A ia is Z T Dn (upd vs (sl k) v) w' (fun j => decide (j = k) || d j) := by
  have hs : d is = false := by
    cases hh : d is with
    | false => rfl
    | true => have := h.cl hh k hk; rw [hd] at this; cases this
  have e1 : ∀ j, j ≠ k → (decide (j = k) || d j) = d j := fun j hj => by rw [decide_eq_false hj, Bool.false_or]
  have eA : upd vs (sl k) v A = vs A := upd_other v (Ne.symm h3)
  have eB : baseA (upd vs (sl k) v) A = baseA vs A := by funext j; unfold baseA; rw [eA]
  refine ⟨h.gr.trans (hb.mono h.gr.size), fun hh => ?_, fun hh hi => ?_, fun j g hg hj hi => ?_, fun hh => ?_, fun hh => ?_⟩
  · rw [e1 _ (Ne.symm h1)] at hh; rw [eA]; exact h.nal hh
  · rw [e1 _ (Ne.symm h1)] at hh
    obtain ⟨b, e, q1, q2⟩ := h.al hh hs
    exact ⟨b, by rw [eA]; exact e, q1, (hb.block b (Array.getElem?_eq_some_iff.1 q2).1).trans q2⟩
  · rw [eB]
    by_cases hjk : j = k
    · subst hjk
      rw [hf] at hg; injection hg with hg; subst hg
      rw [upd_same]; exact hv
    · rw [upd_other v (fun e => hjk (hsl _ _ e))]
      rw [e1 j hjk] at hj
      exact Fact.mono (h.val j g hg hj hs) fun P hP => hP.soft (Soft.of_below hb)
  · rw [e1 _ (Ne.symm h2), hs] at hh; cases hh
  · rw [e1 _ (Ne.symm h2), hs] at hh; cases hh
theorem RSA.alloc {W : World} {n : Nat} {sl : Nat → Nat} {tab : List Fact} {A ia is : Nat} {Z : Array Value} {T : TypeId} {Dn : (Nat → Value) → World → Prop} {vs : Nat → Value} {w : World} {d : Nat → Bool} (h : RSA W n sl tab A ia is Z T Dn vs w d)
    (hk : ia < n) (hd : d ia = false) (h2 : ia ≠ is) (hA : ∀ k, k ≠ ia → sl k ≠ A) (hia : tab[ia]? = some .any) :
    RSA W n sl tab A ia is Z T Dn (upd vs A (.pointer (some ⟨w.heap.size, 0, none⟩))) (w.alloc (.cells Z T)) (fun j => decide (j = ia) || d j) := by
  have hs : d is = false := by
    cases hh : d is with
    | false => rfl
    | true => have := h.cl hh ia hk; rw [hd] at this; cases this
  have e1 : ∀ j, j ≠ ia → (decide (j = ia) || d j) = d j := fun j hj => by rw [decide_eq_false hj, Bool.false_or]
  have hb := (Below.refl _ w).alloc (Nat.le_refl _) (.cells Z T)
  refine ⟨h.gr.trans (hb.mono h.gr.size), fun hh => ?_, fun _ _ => ⟨w.heap.size, upd_same _ _ _, h.gr.size, heap_alloc_new _ _⟩, fun j g hg hj hi => ?_, fun hh => ?_, fun hh => ?_⟩
  · simp at hh
  · by_cases hji : j = ia
    · subst hji
      rw [hia] at hg; injection hg with hg; subst hg; trivial
    · rw [upd_other _ (hA j hji)]
      rw [e1 j hji] at hj
      refine Fact.mono (h.val j g hg hj hs) fun P hP => hP.young (Soft.of_below hb) fun k h1 h2 => ?_
      unfold baseA
      rw [upd_same]
      intro e
      injection e with e; injection e with e; injection e with e
      omega
  · rw [e1 _ (Ne.symm h2), hs] at hh; cases hh
  · rw [e1 _ (Ne.symm h2), hs] at hh; cases hh
/-- The store: what is so behind it. -/
theorem RSA.store {W : World} {n : Nat} {sl : Nat → Nat} {tab : List Fact} {A ia is : Nat} {Z : Array Value} {T : TypeId} {Dn : (Nat → Value) → World → Prop} {vs : Nat → Value} {w w' : World} {d : Nat → Bool} (h : RSA W n sl tab A ia is Z T Dn vs w d)
    (hia : ia ≠ is) (hall : ∀ k, k < n → k ≠ is → d k = true) (hal : d ia = true) (hgr : Below W.heap.size W w') (hdn : Dn vs w') : RSA W n sl tab A ia is Z T Dn vs w' (fun j => decide (j = is) || d j) := by
  refine ⟨hgr, fun hh => ?_, fun _ hi => ?_, fun j g hg hj hi => ?_, fun _ => hdn, fun _ k hk => ?_⟩
  · rw [hal] at hh; simp at hh
  · simp at hi
  · simp at hi
  · by_cases hks : k = is
    · subst hks; simp
    · rw [hall k hk hks]; simp
/-- New blocks are none that the slot points to. -/
theorem RSA.new {W : World} {n : Nat} {sl : Nat → Nat} {tab : List Fact} {A ia is : Nat} {Z : Array Value} {T : TypeId} {Dn : (Nat → Value) → World → Prop} {vs : Nat → Value} {w : World} {d : Nat → Bool} (h : RSA W n sl tab A ia is Z T Dn vs w d) {k : Nat} (hk : k < n) (hd : d k = false) : ∀ j, w.heap.size ≤ j → baseA vs A j := by
  intro j hj e
  have hs : d is = false := by
    cases hh : d is with
    | false => rfl
    | true => have := h.cl hh k hk; rw [hd] at this; cases this
  cases hia : d ia with
  | false => rw [h.nal hia] at e; cases e
  | true =>
    obtain ⟨b, e2, q1, q2⟩ := h.al hia hs
    rw [e2] at e
    injection e with e; injection e with e; injection e with e
    have := (Array.getElem?_eq_some_iff.1 q2).1
    omega
theorem prim18_new (f : Int) (w : World) : Calls Tryz.prog 16 #[.int .i64 f] w fun e w' => (∃ v, e = .returned v ∧ ∀ b, Fresh b w' (IsF · v (primF f))) ∧ Below w.heap.size w w' := by
  refine (prim18_any f w).mono ?_
  rintro e w' ⟨⟨v, rfl, h⟩, b⟩
  refine ⟨⟨v, rfl, fun B W' _ => ?_⟩, b⟩
  obtain ⟨vb, e, h⟩ := h
  obtain ⟨a, c, e2, q1, q2, q3, -⟩ := h
  exact ⟨vb, e, a, c, e2, q1, q2, q3, fun hn => by cases hn⟩
end Go.Proofs.YtijfnnjgcgmnaaaGreatDoor.Par
