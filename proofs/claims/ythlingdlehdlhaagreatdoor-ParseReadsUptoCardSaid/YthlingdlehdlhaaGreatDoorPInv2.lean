/- A region that draws its order: its frame told by the values of what it writes. -/
import Derived.Test.YthlingdlehdlhaaGreatDoorPInv
namespace Go.Proofs.YthlingdlehdlhaaGreatDoor.Par
open Go.RowKit Go.Shelf
set_option linter.unusedVariables false
set_option linter.unusedSimpArgs false

/-- A frame with such values in such places. -/
def puts (a : Act) (ds : List Nat) (vs : Nat → Value) : Act := ds.foldl (fun a k => a.put (some k) (vs k)) a
def upd (vs : Nat → Value) (s : Nat) (v : Value) : Nat → Value := fun k => if k = s then v else vs k
theorem upd_same (vs : Nat → Value) (s : Nat) (v : Value) : upd vs s v s = v := by unfold upd; rw [if_pos rfl]
theorem upd_other {vs : Nat → Value} {s k : Nat} (v : Value) (h : k ≠ s) : upd vs s v k = vs k := by unfold upd; rw [if_neg h]
theorem put_comm (a : Act) {i j : Nat} (v u : Value) (h : i ≠ j) : (a.put (some i) v).put (some j) u = (a.put (some j) u).put (some i) v := by
  unfold Act.put
  simp only
  congr 1
  exact Array.setIfInBounds_comm v u h
theorem put_put (a : Act) (i : Nat) (v u : Value) : (a.put (some i) v).put (some i) u = a.put (some i) u := by
  unfold Act.put
  simp only
  congr 1
  exact Array.setIfInBounds_setIfInBounds ..
theorem puts_put (ds : List Nat) (hn : ds.Nodup) : ∀ (a : Act) (vs : Nat → Value) (s : Nat) (v : Value), s ∈ ds → (puts a ds vs).put (some s) v = puts a ds (upd vs s v) := by
  have far : ∀ (es : List Nat) (a : Act) (vs : Nat → Value) (s : Nat) (v : Value), s ∉ es → (puts a es vs).put (some s) v = puts (a.put (some s) v) es (upd vs s v) := by
    intro es
    induction es with
    | nil => intro a vs s v _; rfl
    | cons k r ih =>
      intro a vs s v hs
      have hk : s ≠ k := fun e => hs (by simp [e])
      show (puts (a.put (some k) (vs k)) r vs).put (some s) v = puts ((a.put (some s) v).put (some k) (upd vs s v k)) r (upd vs s v)
      rw [ih _ vs s v (fun h => hs (by simp [h])), upd_other v (Ne.symm hk), put_comm a _ _ hk]
  induction ds with
  | nil => intro a vs s v h; cases h
  | cons k r ih =>
    intro a vs s v hs
    obtain ⟨h1, h2⟩ := List.nodup_cons.1 hn
    show (puts (a.put (some k) (vs k)) r vs).put (some s) v = puts (a.put (some k) (upd vs s v k)) r (upd vs s v)
    by_cases hk : s = k
    · subst hk
      rw [far r _ vs s v h1, put_put, upd_same]
    · rw [upd_other v (Ne.symm hk)]
      exact ih h2 _ vs s v (by rcases List.mem_cons.1 hs with h | h; exact absurd h hk; exact h)
def depsAt (ops : Array Oper) (i : Nat) : List Nat := ((ops[i]?).map fun o => (o.after.toList.filter (fun e => Region.binds .any e)).map (·.on)).getD []
section
variable {P : Program} {ops : Array Oper} {Q : Exit → Act → World → Prop}
theorem region_puts {id : Nat} {a0 : Act} {w0 : World} (ds : List Nat) (tab : List (List Nat)) (J : (Nat → Value) → World → (Nat → Bool) → Prop) (v0 : Nat → Value) (hm : P.follows .mixedOrders = true)
    (hlt : ((List.range ops.size).all fun i => ((ops[i]?).map fun o => o.after.all fun e => decide (e.on < i)).getD true) = true) (htab : (List.range ops.size).map (depsAt ops) = tab) (hv0 : a0 = puts a0 ds v0)
    (start : J v0 w0.drew (fun _ => false))
    (step : ∀ i, i < ops.size → ∀ (d : Nat → Bool) (vs : Nat → Value) (w : World), d i = false → (∀ k ∈ tab.getD i [], d k = true) → J vs w d → wpOp P ops Q i (fun a' w' => ∃ vs', a' = puts a0 ds vs' ∧ J vs' w' (fun k => decide (k = i) || d k)) (puts a0 ds vs) w)
    (fin : ∀ (d : Nat → Bool) (vs : Nat → Value) (w : World), (∀ i, i < ops.size → d i = true) → J vs w d → Q .normal (puts a0 ds vs) w) : (Code.region id ops true).wp P Q a0 w0 := by
  refine region_inv hm (fun d a w => ∃ vs, a = puts a0 ds vs ∧ J vs w d) hlt ⟨v0, hv0, start⟩ ?_ ?_
  · rintro d a w i o ho hd hdep ⟨vs, rfl, hJ⟩
    have hi := (Array.getElem?_eq_some_iff.1 ho).1
    refine step i hi d vs w hd (fun k hk => ?_) hJ
    have e : tab.getD i [] = depsAt ops i := by
      rw [← htab, List.getD_eq_getElem?_getD, List.getElem?_map, List.getElem?_range hi]; rfl
    rw [e] at hk
    unfold depsAt at hk
    rw [ho] at hk
    simp only [Option.map_some, Option.getD_some, List.mem_map, List.mem_filter] at hk
    obtain ⟨x, ⟨h1, h2⟩, rfl⟩ := hk
    exact hdep x (by simpa using h1) h2
  · rintro d a w hall ⟨vs, rfl, hJ⟩
    exact fin d vs w hall hJ
/-- What an operation does to the frame: nothing, or one value put. -/
def Turn (ds : List Nat) (A : Act) (vs : Nat → Value) (a' : Act) (vs' : Nat → Value) : Prop := (a' = A ∧ vs' = vs) ∨ ∃ s v, s ∈ ds ∧ a' = A.put (some s) v ∧ vs' = upd vs s v
theorem puts_far (ds : List Nat) : ∀ (a : Act) (vs : Nat → Value) (s : Nat), s ∉ ds → (puts a ds vs).tmps[s]? = a.tmps[s]? := by
  induction ds with
  | nil => intro a vs s _; rfl
  | cons k r ih =>
    intro a vs s hs
    show (puts (a.put (some k) (vs k)) r vs).tmps[s]? = _
    rw [ih _ vs s (fun h => hs (by simp [h]))]
    unfold Act.put
    simp only
    rw [Array.getElem?_setIfInBounds, if_neg (fun e => hs (by simp [e]))]
theorem puts_at (ds : List Nat) (hn : ds.Nodup) : ∀ (a : Act) (vs : Nat → Value) (s : Nat), s ∈ ds → s < a.tmps.size → (puts a ds vs).tmps[s]? = some (vs s) := by
  induction ds with
  | nil => intro a vs s h; cases h
  | cons k r ih =>
    intro a vs s hs hlt
    obtain ⟨h1, h2⟩ := List.nodup_cons.1 hn
    have hsz : (a.put (some k) (vs k)).tmps.size = a.tmps.size := by unfold Act.put; simp
    show (puts (a.put (some k) (vs k)) r vs).tmps[s]? = _
    by_cases hk : s = k
    · subst hk
      rw [puts_far r _ vs s h1]
      unfold Act.put
      simp only
      rw [Array.getElem?_setIfInBounds, if_pos rfl, if_pos hlt]
    · exact ih h2 _ vs s (by rcases List.mem_cons.1 hs with h | h; exact absurd h hk; exact h) (by rw [hsz]; exact hlt)
theorem region_vals {id : Nat} {a0 : Act} {w0 : World} (ds : List Nat) (hn : ds.Nodup) (tab : List (List Nat)) (J : (Nat → Value) → World → (Nat → Bool) → Prop) (v0 : Nat → Value) (hm : P.follows .mixedOrders = true)
    (hlt : ((List.range ops.size).all fun i => ((ops[i]?).map fun o => o.after.all fun e => decide (e.on < i)).getD true) = true) (htab : (List.range ops.size).map (depsAt ops) = tab) (hv0 : a0 = puts a0 ds v0) (hsz : (ds.all fun s => decide (s < a0.tmps.size)) = true)
    (start : J v0 w0.drew (fun _ => false))
    (step : ∀ i, i < ops.size → ∀ (d : Nat → Bool) (vs : Nat → Value) (w : World) (A : Act), (∀ s, s ∉ ds → A.tmps[s]? = a0.tmps[s]?) → (∀ s, s ∈ ds → A.tmps[s]? = some (vs s)) → d i = false → (∀ k ∈ tab.getD i [], d k = true) → J vs w d →
      wpOp P ops Q i (fun a' w' => ∃ vs', Turn ds A vs a' vs' ∧ J vs' w' (fun k => decide (k = i) || d k)) A w)
    (fin : ∀ (d : Nat → Bool) (vs : Nat → Value) (w : World), (∀ i, i < ops.size → d i = true) → J vs w d → Q .normal (puts a0 ds vs) w) : (Code.region id ops true).wp P Q a0 w0 := by
  refine region_puts ds tab J v0 hm hlt htab hv0 start (fun i hi d vs w hd hdep hJ => ?_) fin
  have hs := step i hi d vs w (puts a0 ds vs) (fun s h => puts_far ds a0 vs s h) (fun s h => puts_at ds hn a0 vs s h (of_decide_eq_true (List.all_eq_true.1 hsz s h))) hd hdep hJ
  refine wpOp_mono (fun a' w' h => ?_) hs
  obtain ⟨vs', ht, hJ'⟩ := h
  refine ⟨vs', ?_, hJ'⟩
  rcases ht with ⟨rfl, rfl⟩ | ⟨s, v, h1, rfl, rfl⟩
  · rfl
  · exact puts_put ds hn a0 vs s v h1
theorem yielded_at {ops : Array Oper} {tmps : Array Value} {j s : Nat} {b : Bool} (h1 : (ops[j]?).bind (·.dst) = some s) (h2 : tmps[s]? = some (.bool b)) : yielded ops tmps j = some b := by
  unfold yielded
  rw [h1]
  simp only [Option.bind_some, h2]
/-- An operation that is wanted. -/
theorem step_free {i : Nat} {o : Oper} {K : Act → World → Prop} {A : Act} {w : World} (ho : ops[i]? = some o) (hg : o.guard = none) (h : ∀ K' : Act → World → Prop, (∀ a w, K a w → K' a w) → Oper.wp P o A w K' Q) : wpOp P ops Q i K A w := by
  refine wpOp_step ho (fun K' hK => ?_)
  rw [if_pos (by unfold Region.wanted; rw [hg])]
  exact h K' hK
theorem step_guard {i j s : Nat} {o : Oper} {b : Bool} {K : Act → World → Prop} {A : Act} {w : World} (ho : ops[i]? = some o) (hg : o.guard = some (j, b)) (h1 : (ops[j]?).bind (·.dst) = some s) (h2 : A.tmps[s]? = some (.bool b)) (h : ∀ K' : Act → World → Prop, (∀ a w, K a w → K' a w) → Oper.wp P o A w K' Q) : wpOp P ops Q i K A w := by
  refine wpOp_step ho (fun K' hK => ?_)
  rw [if_pos (by unfold Region.wanted; rw [hg]; simp only; rw [yielded_at h1 h2]; simp)]
  exact h K' hK
end
end Go.Proofs.YthlingdlehdlhaaGreatDoor.Par
