/- parse: a tree's text: what is answered, what is put together of such; a region's values, whatever its order. -/
import Derived.Test.YtijfnnjgcgmnaaaGreatDoorPShowA
import Derived.Test.YtijfnnjgcgmnaaaGreatDoorPFine
import Derived.Test.YtijfnnjgcgmnaaaGreatDoorPInv2
namespace Go.Proofs.YtijfnnjgcgmnaaaGreatDoor.Par
open Go.RowKit Go.Shelf
set_option linter.unusedVariables false
set_option linter.unusedSimpArgs false

theorem ToksOwn.app {w : World} {base : Nat} {us us' : List (List Value)} {ts ts' : List Tok} (h : ToksOwn w base us ts) (h' : ToksOwn w base us' ts') : ToksOwn w base (us ++ us') (ts ++ ts') := by
  induction us generalizing ts with
  | nil =>
    cases ts with
    | nil => exact h'
    | cons t ts => exact h.elim
  | cons u us ih =>
    cases ts with
    | nil => exact h.elim
    | cons t ts => exact ⟨h.1, ih h.2⟩
theorem toks_one {w : World} {base : Nat} {us : List (List Value)} {ts : List Tok} (h : ToksOwn w base us ts) : ∀ u ∈ us, u.length = 5 ∧ ∀ x ∈ u, x.oneCell' = true := by
  induction us generalizing ts with
  | nil => intro u hu; cases hu
  | cons v us ih =>
    cases ts with
    | nil => exact h.elim
    | cons t ts =>
      intro u hu
      rcases List.mem_cons.1 hu with rfl | hu
      · refine ⟨tok_five h.1, ?_⟩
        obtain ⟨vs, ve, e, o1, o2, -⟩ := h.1
        obtain ⟨a, c, rfl⟩ := own_slice o1
        obtain ⟨a', c', rfl⟩ := own_slice o2
        have : u = [.int .i64 t.kind, .string (bs t.txt), .int .i64 t.val.kind, .slice a t.val.shape.length c, .slice a' t.val.elems.length c'] := by
          have e2 : u.toArray = #[.int .i64 t.kind, .string (bs t.txt), .int .i64 t.val.kind, .slice a t.val.shape.length c, .slice a' t.val.elems.length c'] := by simpa using e
          simpa using congrArg Array.toList e2
        subst this
        intro x hx
        simp only [List.mem_cons, List.not_mem_nil, or_false] at hx
        rcases hx with rfl | rfl | rfl | rfl | rfl <;> rfl
      · exact ih h.2 u hu
/-- A slice that has its row, of such tokens. -/
def Row (w : World) (base : Nat) (v : Value) (T : List Tok) : Prop := ∃ us, w.ownsRow base 88 5 v T.length us.flatten ∧ ToksOwn w base us T
theorem Row.below {w w' : World} {base : Nat} {v : Value} {T : List Tok} (h : Row w base v T) (hb : Below w.heap.size w w') : Row w' base v T := by
  obtain ⟨us, h1, h2⟩ := h
  exact ⟨us, own_below h1 hb, h2.map fun v t h => h.below hb⟩
theorem Row.mono {w : World} {base base' : Nat} {v : Value} {T : List Tok} (h : Row w base v T) (hb : base' ≤ base) : Row w base' v T := by
  obtain ⟨us, h1, h2⟩ := h
  exact ⟨us, own_weak h1 hb, h2.map fun v t h => h.mono hb⟩
theorem Row.nil (w : World) (base : Nat) : Row w base (.slice none 0 0) [] := ⟨[], World.ownsRow_nil _ _ _ _, trivial⟩
theorem Row.toks {w : World} {base : Nat} {v : Value} {T : List Tok} (h : Row w base v T) : IsToks w v T := by
  obtain ⟨us, h1, h2⟩ := h
  exact IsToks.of_own h1 h2
theorem Row.src {w : World} {base : Nat} {v : Value} {T : List Tok} (h : Row w base v T) : ∃ us, Src w v us ∧ ToksOwn w base us T := by
  obtain ⟨us, h1, h2⟩ := h
  refine ⟨us, ?_, h2⟩
  have hl := h2.len.1
  have h3 := fun g => h1.cells (g := g)
  rcases h1.2 with ⟨rfl, h0⟩ | ⟨g, cap, cur, rfl, -⟩
  · have : us = [] := List.eq_nil_of_length_eq_zero (by omega)
    subst this
    exact ⟨none, 0, rfl, (fun _ => ⟨rfl, rfl⟩), (fun ad e => by cases e), (fun u hu => by cases hu)⟩
  · exact ⟨some ⟨g, 0, none⟩, cap, by rw [hl], (fun e => by cases e), (fun ad e j u hu => by injection e with e; subst e; exact h3 g rfl j u hu), toks_one h2⟩
/-- A row that was written as it stands. -/
theorem Row.lit {w : World} {b base : Nat} {us : List (List Value)} {T : List Tok} (h : w.heap[b]? = some (.cells us.flatten.toArray 88)) (hb : base ≤ b) (ht : ToksOwn w base us T) (n : Nat) (hn : n = T.length) (hm : T.length ≤ 1000) : Row w base (.slice (some ⟨b, 0, none⟩) n n) T := by
  subst hn
  have hl := ht.len.2
  exact ⟨us, ⟨hl, .inr ⟨b, T.length, _, rfl, hb, h, Nat.le_refl _, by unfold maxLen; omega, by simpa using hl, List.take_of_length_le (Nat.le_of_eq hl)⟩⟩, ht⟩
theorem own_gl (w : World) (base : Nat) (s : List UInt8) : TokOwn w base (.agg (glC 3 (bs s)).toArray) (gl s) := tok_plain (k := 3) (t := s)
theorem own_nm (w : World) (base : Nat) (s : List UInt8) : TokOwn w base (.agg (glC 2 (bs s)).toArray) (nm s) := tok_plain (k := 2) (t := s)
theorem Row.gl1 {w : World} {b base : Nat} (s : List UInt8) (h : w.heap[b]? = some (.cells #[.int .i64 3, .string (bs s), .int .i64 0, .slice none 0 0, .slice none 0 0] 88)) (hb : base ≤ b) : Row w base (.slice (some ⟨b, 0, none⟩) 1 1) [gl s] :=
  Row.lit (us := [glC 3 (bs s)]) (T := [gl s]) h hb ⟨own_gl _ _ _, trivial⟩ 1 rfl (by simp)
theorem Row.nm1 {w : World} {b base : Nat} (s : List UInt8) (h : w.heap[b]? = some (.cells #[.int .i64 2, .string (bs s), .int .i64 0, .slice none 0 0, .slice none 0 0] 88)) (hb : base ≤ b) : Row w base (.slice (some ⟨b, 0, none⟩) 1 1) [nm s] :=
  Row.lit (us := [glC 2 (bs s)]) (T := [nm s]) h hb ⟨own_nm _ _ _, trivial⟩ 1 rfl (by simp)
theorem Row.lt {w : World} {base : Nat} {v : Value} {T : List Tok} (h : Row w base v T) : ∀ q, v.ownBlock = some q → base ≤ q ∧ q < w.heap.size := by
  obtain ⟨us, h1, -⟩ := h
  exact h1.lt
theorem Row.grown {w w' : World} {base : Nat} {v : Value} {T : List Tok} (h : Row w base v T) (hg : w.grownBy w' v.ownBlock) (hb : base ≤ w.heap.size) : Below base w w' := (Below.refl base w).grown hg hb (fun q e => (h.lt q e).1)
theorem Row.slice {w : World} {base : Nat} {v : Value} {T : List Tok} (h : Row w base v T) : ∃ a c, v = .slice a T.length c := by
  obtain ⟨us, h1, -⟩ := h
  exact own_slice h1
/-- What a function answers that tells a text. -/
def SayA (w : World) (T : List Tok) (e : Ending) (w' : World) : Prop := (∃ v, e = .returned v ∧ Row w' w.heap.size v T) ∧ Below w.heap.size w w'
/-- 'append(v, u...)' of two such. -/
theorem append_row_wp {w : World} {o : Oper} {a : Act} {K : Act → World → Prop} {Q : Exit → Act → World → Prop} (s x : Operand)
    (ho : o.op = .call { callee := .builtin .append, args := #[s, x], argTypes := #[58, 58] })
    (base : Nat) (v u : Value) (T U : List Tok) (hs : a.eval s = v) (hx : a.eval x = u) (hv : Row w base v T) (hu : Row w base u U) (hN : T.length + U.length ≤ 1000000) (hb : base ≤ w.heap.size)
    (h : ∀ v' w', Row w' base v' (T ++ U) → w.grownBy w' v.ownBlock → K (a.put o.dst v') w') : o.wp Tryz.prog a w K Q := by
  obtain ⟨i0, hi, hz0, hz1, hz2⟩ := info_parts (show (Tryz.prog.info? 88).map (fun i => (i.zero, i.size, i.bytes)) = some (some (.agg zeroTok), 5, 80) by kernel_rfl)
  obtain ⟨us, h1, h2⟩ := hv
  obtain ⟨us', ⟨va, vc, e, hn, hc, hone⟩, h3⟩ := hu.src
  subst e
  have hl := h3.len.1
  cases va with
  | none =>
    obtain ⟨rfl, rfl⟩ := hn rfl
    have hU : U = [] := List.eq_nil_of_length_eq_zero hl.symm
    subst hU
    have hrun := run_append_owned_none (P := Tryz.prog) (w := w) base 58 o.type 88 i0 5 Tryz.underlying58 hi _ _ _ h1
    unfold Oper.wp
    simp [execOp, ho, resolve, invoke, builtin, hs, hx, hrun, Result.andThen]
    refine h _ _ ⟨us, ?_, ?_⟩ ⟨rfl, rfl, rfl, Nat.le_refl _, fun _ _ _ => rfl⟩
    · simpa using h1
    · simpa using h2
  | some ad =>
    refine wp_append_own w s x _ ho base 88 i0 (.agg zeroTok) 5 80 Tryz.underlying58 hi hz0 hz1 hz2 rfl (by decide) _ _ _ hs h1 ad us'.length vc us'.flatten hx (flat5 hone) (hc ad rfl) (fun y hy => ?_) (by unfold maxLen; omega) (by omega) hb ?_
    · obtain ⟨u, hu1, hu2⟩ := List.mem_flatten.1 hy
      exact (hone u hu1).2 y hu2
    · intro v' w' hown hgrow _
      refine h v' w' ⟨us ++ us', ?_, ?_⟩ hgrow
      · rw [List.length_append, List.flatten_append, ← hl]; exact hown
      · exact ToksOwn.app (h2.map fun v t hh => hh.apart hgrow h1) (h3.map fun v t hh => hh.apart hgrow h1)
theorem append_row {w : World} {ops : Array Oper} {rest : List Oper} {o : Oper} {a : Act} {Q : Exit → Act → World → Prop} (hgd : o.guard = none) (s x : Operand)
    (ho : o.op = .call { callee := .builtin .append, args := #[s, x], argTypes := #[58, 58] })
    (base : Nat) (v u : Value) (T U : List Tok) (hs : a.eval s = v) (hx : a.eval x = u) (hv : Row w base v T) (hu : Row w base u U) (hN : T.length + U.length ≤ 1000000) (hb : base ≤ w.heap.size)
    (h : ∀ v' w', Row w' base v' (T ++ U) → w.grownBy w' v.ownBlock → wpList Tryz.prog ops Q rest (a.put o.dst v') w') : wpList Tryz.prog ops Q (o :: rest) a w :=
  wpList_plain hgd fun K hK => append_row_wp s x ho base v u T U hs hx hv hu hN hb fun v' w' h1 h2 => hK _ _ (h v' w' h1 h2)
/-- A row of such slices. -/
def IsRowsT (base : Nat) (Ts : List (List Tok)) (v : Value) (w : World) : Prop :=
  ∃ (g : Nat) (vs : List Value), v = .slice (some ⟨g, 0, none⟩) Ts.length Ts.length ∧ w.heap[g]? = some (.cells (List.toArray vs) 58) ∧ vs.length = Ts.length ∧ ∀ (k : Nat) (v : Value) (T : List Tok), vs[k]? = some v → Ts[k]? = some T → Row w base v T
theorem IsRowsT.below {base : Nat} {Ts : List (List Tok)} {v : Value} {w w' : World} (h : IsRowsT base Ts v w) (hb : Below w.heap.size w w') : IsRowsT base Ts v w' := by
  obtain ⟨g, vs, e, h1, h2, h3⟩ := h
  exact ⟨g, vs, e, (hb.block g (Array.getElem?_eq_some_iff.1 h1).1).trans h1, h2, fun k v T hk hT => (h3 k v T hk hT).below hb⟩
theorem flat_own {w : World} {base : Nat} : ∀ (uss : List (List (List Value))) (Ts : List (List Tok)), uss.length = Ts.length → (∀ (k : Nat) (us : List (List Value)) (T : List Tok), uss[k]? = some us → Ts[k]? = some T → ToksOwn w base us T) → ToksOwn w base uss.flatten Ts.flatten
  | [], [], _, _ => trivial
  | us :: r, T :: s, hl, h => ToksOwn.app (h 0 us T rfl rfl) (flat_own r s (by simpa using hl) fun k us T hk hT => h (k + 1) us T hk hT)
  | [], _ :: _, hl, _ => by simp at hl
  | _ :: _, [], hl, _ => by simp at hl
theorem flatL_flat (uss : List (List (List Value))) : flatL uss = uss.flatten.flatten := by
  induction uss with
  | nil => rfl
  | cons a r ih => rw [List.flatten_cons, List.flatten_append, ← ih]; rfl
theorem sumL_flat (uss : List (List (List Value))) : sumL uss = uss.flatten.length := by
  induction uss with
  | nil => rfl
  | cons a r ih => rw [List.flatten_cons, List.length_append, ← ih]; rfl
/-- Sources of rows. -/
theorem rows_src {w : World} {base : Nat} : ∀ (vs : List Value) (Ts : List (List Tok)), vs.length = Ts.length → (∀ (k : Nat) (v : Value) (T : List Tok), vs[k]? = some v → Ts[k]? = some T → Row w base v T) →
    ∃ uss : List (List (List Value)), uss.length = Ts.length ∧ (∀ (k : Nat) (v : Value) (us : List (List Value)), vs[k]? = some v → uss[k]? = some us → Src w v us) ∧ (∀ (k : Nat) (us : List (List Value)) (T : List Tok), uss[k]? = some us → Ts[k]? = some T → ToksOwn w base us T)
  | [], [], _, _ => ⟨[], rfl, (fun k v us hk => by cases hk), (fun k us T hk => by cases hk)⟩
  | v :: r, T :: s, hl, h => by
    obtain ⟨us, h1, h2⟩ := (h 0 v T rfl rfl).src
    obtain ⟨uss, h3, h4, h5⟩ := rows_src r s (by simpa using hl) fun k v T hk hT => h (k + 1) v T hk hT
    refine ⟨us :: uss, by simp [h3], fun k v' us' hk hu => ?_, fun k us' T' hk hT => ?_⟩
    · cases k with
      | zero => injection hk with hk; injection hu with hu; subst hk hu; exact h1
      | succ k => exact h4 k v' us' hk hu
    · cases k with
      | zero => injection hk with hk; injection hT with hT; subst hk hT; exact h2
      | succ k => exact h5 k us' T' hk hT
  | [], _ :: _, hl, _ => by simp at hl
  | _ :: _, [], hl, _ => by simp at hl
theorem tconcat_row (base : Nat) (Ts : List (List Tok)) (v : Value) (w : World) (hv : IsRowsT base Ts v w) (hN : Ts.flatten.length ≤ 1000000) (hm : Ts.length ≤ 1000) (hb : base ≤ w.heap.size) :
    Calls Tryz.prog 70 #[v] w fun e w' => (∃ v', e = .returned v' ∧ Row w' base v' Ts.flatten) ∧ Below w.heap.size w w' := by
  obtain ⟨g, vs, rfl, h1, h2, h3⟩ := hv
  obtain ⟨uss, h4, h5, h6⟩ := rows_src vs Ts h2 h3
  have hown := flat_own uss Ts h4 h6
  have hl := hown.len.1
  refine (tconcat_any g vs uss w _ h1 Ts.length h2 h4 h5 (by rw [sumL_flat, hl]; exact hN) hm).mono ?_
  rintro e w' ⟨⟨v', rfl, ho⟩, b⟩
  rw [sumL_flat, flatL_flat, hl] at ho
  exact ⟨⟨v', rfl, _, own_weak ho hb, hown.map fun v t h => h.below b⟩, b⟩
theorem pwithin_row (base : Nat) (s1 s2 : List UInt8) (S1 S2 : ByteArray) (e1 : S1 = bs s1) (e2 : S2 = bs s2) (v : Value) (T : List Tok) (w : World) (hv : Row w base v T) (hN : T.length ≤ 999998) (hb : base ≤ w.heap.size) :
    Calls Tryz.prog 46 #[.string S1, v, .string S2] w fun e w' => (∃ v', e = .returned v' ∧ Row w' base v' (encl (gl s1) (gl s2) T)) ∧ Below w.heap.size w w' := by
  subst e1 e2
  obtain ⟨us, h1, h2⟩ := hv.src
  have hl := h2.len.1
  refine (pwithin_any (bs s1) (bs s2) v us w h1 (by omega)).mono ?_
  rintro e w' ⟨⟨v', rfl, ho⟩, b⟩
  refine ⟨⟨v', rfl, glC 3 (bs s1) :: (us ++ [glC 3 (bs s2)]), ?_, ?_⟩, b⟩
  · rw [encl_len, ← hl]
    have : (glC 3 (bs s1) :: (us ++ [glC 3 (bs s2)])).flatten = glC 3 (bs s1) ++ us.flatten ++ glC 3 (bs s2) := by simp
    rw [this]
    exact own_weak ho hb
  · exact ⟨own_gl _ _ _, ToksOwn.app (h2.map fun v t h => h.below b) ⟨own_gl _ _ _, trivial⟩⟩

/-- What is so of a value in a world. -/
def VP := Value → World → Prop
def Steady (f : VP) : Prop := ∀ v w w', f v w → Below w.heap.size w w' → f v w'
/-- Where a region stands that only makes memory; its last operation puts what it answers. -/
structure RP (W : World) (n : Nat) (z : Value) (sl : Nat → Nat) (tab : List VP) (vs : Nat → Value) (w : World) (d : Nat → Bool) : Prop where
  gr : Below W.heap.size W w
  val : ∀ k f, tab[k]? = some f → d k = true → f (vs (sl k)) w
  keep : d n = false → vs (sl n) = z
  ord : d n = true → d 0 = true
theorem RP.start {W : World} {n : Nat} {z : Value} {sl : Nat → Nat} {tab : List VP} {vs : Nat → Value} (h : vs (sl n) = z) : RP W n z sl tab vs W.drew (fun _ => false) :=
  ⟨(Below.refl _ _).drew, (fun k f _ hd => by cases hd), (fun _ => h), (fun h => by cases h)⟩
theorem RP.first {W : World} {n : Nat} {z : Value} {sl : Nat → Nat} {tab : List VP} {vs : Nat → Value} {w : World} {d : Nat → Bool} (h : RP W n z sl tab vs w d) (h0 : d 0 = false) : vs (sl n) = z := by
  refine h.keep ?_
  cases hh : d n with
  | false => rfl
  | true => have := h.ord hh; rw [h0] at this; cases this
theorem RP.step {W : World} {n : Nat} {z : Value} {sl : Nat → Nat} {tab : List VP} {vs : Nat → Value} {w w' : World} {d : Nat → Bool} (h : RP W n z sl tab vs w d) (hst : ∀ f ∈ tab, Steady f) (hsl : ∀ i j, sl i = sl j → i = j) (k : Nat) (f : VP) (hf : tab[k]? = some f) (h0 : k = n → d 0 = true ∨ n = 0) (hb : Below w.heap.size w w') (v : Value) (hv : f v w') :
    RP W n z sl tab (upd vs (sl k) v) w' (fun j => decide (j = k) || d j) := by
  refine ⟨h.gr.trans (hb.mono h.gr.size), fun j g hg hd => ?_, fun hd => ?_, fun hd => ?_⟩
  · by_cases hj : j = k
    · subst hj
      rw [hf] at hg; injection hg with hg; subst hg
      rw [upd_same]; exact hv
    · rw [upd_other v (fun e => hj (hsl _ _ e))]
      rw [decide_eq_false hj, Bool.false_or] at hd
      exact hst g (List.mem_of_getElem? hg) _ _ _ (h.val j g hg hd) hb
  · by_cases hj : n = k
    · subst hj; simp at hd
    · rw [upd_other v (fun e => hj (hsl _ _ e))]
      rw [decide_eq_false hj, Bool.false_or] at hd
      exact h.keep hd
  · by_cases hj : n = k
    · rcases h0 hj.symm with h1 | h1
      · rw [h1, Bool.or_true]
      · rw [h1] at hj; rw [← hj]; rfl
    · rw [decide_eq_false hj, Bool.false_or] at hd
      rw [h.ord hd, Bool.or_true]
/-- The same with an 'append' last but one, that may write the row that it is given. -/
structure RX (W : World) (base : Nat) (sl : Nat → Nat) (tab tab2 : List VP) (c : Nat) (T : List Tok) (vs : Nat → Value) (w : World) (d : Nat → Bool) : Prop where
  gr : Below W.heap.size W w
  val : ∀ k f, tab[k]? = some f → d k = true → f (vs (sl k)) w
  val2 : d c = false → ∀ k f, tab2[k]? = some f → d k = true → f (vs (sl k)) w
  res : d c = true → Row w base (vs (sl c)) T
  fin : d (c + 1) = true → d c = true ∧ Row w base (vs (sl (c + 1))) T
theorem RX.start {W : World} {base : Nat} {sl : Nat → Nat} {tab tab2 : List VP} {c : Nat} {T : List Tok} {vs : Nat → Value} : RX W base sl tab tab2 c T vs W.drew (fun _ => false) :=
  ⟨(Below.refl _ _).drew, (fun k f _ hd => by cases hd), (fun _ k f _ hd => by cases hd), (fun h => by cases h), (fun h => by cases h)⟩
def Fixed (f : VP) : Prop := ∀ v w w', f v w → f v w'
theorem RX.step {W : World} {base : Nat} {sl : Nat → Nat} {tab tab2 : List VP} {c : Nat} {T : List Tok} {vs : Nat → Value} {w w' : World} {d : Nat → Bool} (h : RX W base sl tab tab2 c T vs w d) (hst : ∀ f ∈ tab, Fixed f) (hst2 : ∀ f ∈ tab2, Steady f) (hsl : ∀ i j, sl i = sl j → i = j) (k : Nat) (hk : k < c)
    (f g : VP) (hf : tab[k]? = some f) (hg : tab2[k]? = some g) (hb : Below w.heap.size w w') (v : Value) (hv : f v w') (hv2 : g v w') : RX W base sl tab tab2 c T (upd vs (sl k) v) w' (fun j => decide (j = k) || d j) := by
  have e1 : ∀ j, j ≠ k → (decide (j = k) || d j) = d j := fun j hj => by rw [decide_eq_false hj, Bool.false_or]
  have e2 : ∀ j, j ≠ k → upd vs (sl k) v (sl j) = vs (sl j) := fun j hj => upd_other v (fun e => hj (hsl _ _ e))
  refine ⟨h.gr.trans (hb.mono h.gr.size), fun j q hq hd => ?_, fun hc j q hq hd => ?_, fun hd => ?_, fun hd => ?_⟩
  · by_cases hj : j = k
    · subst hj
      rw [hf] at hq; injection hq with hq; subst hq
      rw [upd_same]; exact hv
    · rw [e2 j hj]; rw [e1 j hj] at hd
      exact hst q (List.mem_of_getElem? hq) _ _ _ (h.val j q hq hd)
  · rw [e1 c (by omega)] at hc
    by_cases hj : j = k
    · subst hj
      rw [hg] at hq; injection hq with hq; subst hq
      rw [upd_same]; exact hv2
    · rw [e2 j hj]; rw [e1 j hj] at hd
      exact hst2 q (List.mem_of_getElem? hq) _ _ _ (h.val2 hc j q hq hd) hb
  · rw [e1 c (by omega)] at hd; rw [e2 c (by omega)]
    exact (h.res hd).below hb
  · rw [e1 (c + 1) (by omega)] at hd; rw [e2 (c + 1) (by omega), e1 c (by omega)]
    exact ⟨(h.fin hd).1, (h.fin hd).2.below hb⟩
theorem RX.cut {W : World} {base : Nat} {sl : Nat → Nat} {tab tab2 : List VP} {c : Nat} {T : List Tok} {vs : Nat → Value} {w w' : World} {d : Nat → Bool} (h : RX W base sl tab tab2 c T vs w d) (hst : ∀ f ∈ tab, Fixed f) (hsl : ∀ i j, sl i = sl j → i = j) (hlen : tab.length ≤ c) (hd : d c = false)
    (hb : Below W.heap.size W w') (v : Value) (hv : Row w' base v T) : RX W base sl tab tab2 c T (upd vs (sl c) v) w' (fun j => decide (j = c) || d j) := by
  refine ⟨hb, fun j q hq hj => ?_, fun hc => ?_, fun _ => ?_, fun hj => ?_⟩
  · have hlt := (List.getElem?_eq_some_iff.1 hq).1
    rw [decide_eq_false (by omega : ¬ j = c), Bool.false_or] at hj
    rw [upd_other v (fun e => by have := hsl _ _ e; omega)]
    exact hst q (List.mem_of_getElem? hq) _ _ _ (h.val j q hq hj)
  · simp at hc
  · rw [upd_same]; exact hv
  · rw [decide_eq_false (by omega : ¬ c + 1 = c), Bool.false_or] at hj
    have := (h.fin hj).1
    rw [hd] at this; cases this
theorem RX.last {W : World} {base : Nat} {sl : Nat → Nat} {tab tab2 : List VP} {c : Nat} {T : List Tok} {vs : Nat → Value} {w : World} {d : Nat → Bool} (h : RX W base sl tab tab2 c T vs w d) (hsl : ∀ i j, sl i = sl j → i = j) (hlen : tab.length ≤ c) (hd : d c = true) : RX W base sl tab tab2 c T (upd vs (sl (c + 1)) (vs (sl c))) w (fun j => decide (j = c + 1) || d j) := by
  refine ⟨h.gr, fun j q hq hj => ?_, fun hc => ?_, fun _ => ?_, fun _ => ⟨?_, ?_⟩⟩
  · have hlt := (List.getElem?_eq_some_iff.1 hq).1
    rw [decide_eq_false (by omega : ¬ j = c + 1), Bool.false_or] at hj
    rw [upd_other _ (fun e => by have := hsl _ _ e; omega)]
    exact h.val j q hq hj
  · rw [hd, Bool.or_true] at hc; cases hc
  · rw [upd_other _ (fun e => by have := hsl _ _ e; omega)]; exact h.res hd
  · rw [hd, Bool.or_true]
  · rw [upd_same]; exact h.res hd
def isA : VP := fun _ _ => True
def isV (u : Value) : VP := fun v _ => v = u
def isR (base : Nat) (T : List Tok) : VP := fun v w => Row w base v T
def isRs (base : Nat) (Ts : List (List Tok)) : VP := IsRowsT base Ts
theorem steadyA : Steady isA := fun v w w' h _ => h
theorem fixedV (u : Value) : Fixed (isV u) := fun v w w' h => h
theorem fixedA : Fixed isA := fun v w w' h => h
theorem steadyV (u : Value) : Steady (isV u) := fun v w w' h _ => h
theorem steadyR (base : Nat) (T : List Tok) : Steady (isR base T) := fun v w w' h hb => Row.below h hb
theorem steadyRs (base : Nat) (Ts : List (List Tok)) : Steady (isRs base Ts) := fun v w w' h hb => IsRowsT.below h hb
theorem ExAt.below {w w' : World} {b o : Nat} {k : Int} {nm : List UInt8} {vk : Int} {vs ve : Value} {fk ff fg : Int} {fn : List UInt8} {vb vc : Value} (h : ExAt w b o k nm vk vs ve fk ff fg fn vb vc) (hb : Below w.heap.size w w') : ExAt w' b o k nm vk vs ve fk ff fg fn vb vc := by
  obtain ⟨c0, c1, c2, c3, c4, c5, c6, c7, c8, c9, c10⟩ := h
  have m : ∀ {p : Addr} {v : Value}, w.cell? p = some v → w'.cell? p = some v := fun h => (hb.cell (World.block_lt_of_cell? w _ h)).trans h
  exact ⟨m c0, m c1, m c2, m c3, m c4, m c5, m c6, m c7, m c8, m c9, m c10⟩
/-- What a list of expressions is in memory, one by one. -/
theorem kid_at {w : World} {v : Value} {t : Tr} (h : IsTs w v t) (hok : t.ok true = true) (h1 : 1 ≤ t.len) : ∃ b o c, v = .slice (some ⟨b, o, none⟩) t.len c ∧ t.len ≤ c ∧ ∀ k x, (exsOf t)[k]? = some x →
    ∃ xa xc xe xec xb xbc xk xkc, ExAt w b (o + k * 11) x.kind x.name x.val.kind (.slice xa x.val.shape.length xc) (.slice xe x.val.elems.length xec) x.fn.kind x.fn.f x.fn.g x.fn.name (.slice xb x.fn.body.len xbc) (.slice xk x.kids.len xkc) ∧
      IsE w (.agg #[.int .i64 x.kind, .string (bs x.name), .int .i64 x.val.kind, .slice xa x.val.shape.length xc, .slice xe x.val.elems.length xec, .int .i64 x.fn.kind, .int .i64 x.fn.f, .int .i64 x.fn.g, .string (bs x.fn.name), .slice xb x.fn.body.len xbc, .slice xk x.kids.len xkc]) x := by
  obtain ⟨a, c, e, q1, q2, q3, q4⟩ := h
  obtain ⟨b, o, rfl, hat⟩ := q4 (by omega)
  refine ⟨b, o, c, e, q1, fun k x hk => ?_⟩
  obtain ⟨vs, ve, vb, vc, hx, i1, i2, i3, j1, j2⟩ := at_ex w t b o hat k x hk
  obtain ⟨xa, xc, rfl, -⟩ := i1.parts
  obtain ⟨xe, xec, rfl, -⟩ := i2.parts
  obtain ⟨xb, xbc, rfl, -⟩ := j1.parts
  obtain ⟨xk, xkc, rfl, -⟩ := j2.parts
  exact ⟨xa, xc, xe, xec, xb, xbc, xk, xkc, hx, _, _, _, _, rfl, i1, i2, i3, j1, j2⟩
/-- The contracts. -/
def TextC (k : Nat) : Prop := ∀ (x : Ex) (va : Value) (w : World), x.sz ≤ k → x.ok = true → WfE x → IsE w va x → Gly w → (textE x).length ≤ 500000 → Calls Tryz.prog 48 #[va] w fun e w' => SayA w (textE x) e w'
def LinesC18 (k : Nat) : Prop := ∀ (t : Tr) (va : Value) (w : World), t.sz ≤ k → t.ok false = true → WfT t → IsTs w va t → Gly w → (joinG gDia ((showT t).map Prod.fst)).length ≤ 500000 → Calls Tryz.prog 47 #[va] w fun e w' => SayA w (joinG gDia ((showT t).map Prod.fst)) e w'
def FunC18 (k : Nat) : Prop := ∀ (f : Fn) (va : Value) (w : World), f.body.sz ≤ k → f.body.ok false = true → WfT f.body → IsF w va f → Gly w → (textF f).length ≤ 500000 → Calls Tryz.prog 72 #[va] w fun e w' => SayA w (textF f) e w'
end Go.Proofs.YtijfnnjgcgmnaaaGreatDoor.Par
