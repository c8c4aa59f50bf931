/- A region that draws its order, by what is so of each operation's value, whatever the order. -/
import Derived.Test.YthlingdlehdlhaaGreatDoorPTrees
namespace Go.Proofs.YthlingdlehdlhaaGreatDoor.Par
open Go.RowKit Go.Shelf
set_option linter.unusedVariables false
set_option linter.unusedSimpArgs false

/-- Has an operation been carried out? -/
def doneAt (listed : Array Bool) (k : Nat) : Bool := listed.getD k false
theorem done_set (listed : Array Bool) (i : Nat) (hi : i < listed.size) : doneAt (listed.setIfInBounds i true) = fun k => decide (k = i) || doneAt listed k := by
  funext k
  unfold doneAt
  rw [Array.getD_eq_getD_getElem?, Array.getD_eq_getD_getElem?, Array.getElem?_setIfInBounds]
  by_cases h : i = k
  · subst h; simp [hi]
  · rw [if_neg h, decide_eq_false (fun e => h e.symm), Bool.false_or]
def leftN (d : Nat → Bool) : Nat → Nat
  | 0 => 0
  | n + 1 => leftN d n + (if d n = true then 0 else 1)
theorem leftN_zero {d : Nat → Bool} : ∀ n, leftN d n = 0 → ∀ i, i < n → d i = true := by
  intro n
  induction n with
  | zero => intro _ i h; omega
  | succ n ih =>
    intro h i hi
    rw [leftN] at h
    rcases Nat.lt_or_ge i n with h1 | h1
    · exact ih (by omega) i h1
    · have : i = n := by omega
      subst this
      cases hd : d i with
      | true => rfl
      | false => rw [hd] at h; simp at h
theorem leftN_set {d : Nat → Bool} {i : Nat} (hd : d i = false) : ∀ n, i < n → leftN (fun k => decide (k = i) || d k) n + 1 = leftN d n := by
  intro n
  induction n with
  | zero => intro h; omega
  | succ n ih =>
    intro h
    rw [leftN, leftN]
    rcases Nat.lt_or_ge i n with h1 | h1
    · have := ih h1
      have hne : decide (n = i) = false := decide_eq_false (by omega)
      rw [hne, Bool.false_or]; omega
    · have : i = n := by omega
      subst this
      have hsame : ∀ m, m ≤ i → leftN (fun k => decide (k = i) || d k) m = leftN d m := by
        intro m
        induction m with
        | zero => intro _; rfl
        | succ m ihm =>
          intro hm
          rw [leftN, leftN, ihm (by omega)]
          have hne : decide (m = i) = false := decide_eq_false (by omega)
          rw [hne, Bool.false_or]
      rw [hsame i (Nat.le_refl _), hd]
      simp
section
variable {P : Program} {ops : Array Oper} {Q : Exit → Act → World → Prop}
theorem ready_nil {listed : Array Bool} (hs : listed.size = ops.size) (hlt : ∀ (i : Nat) (o : Oper), ops[i]? = some o → ∀ e ∈ o.after, e.on < i) (h : Region.ready .any ops listed = []) : ∀ i, i < ops.size → doneAt listed i = true := by
  intro i
  induction i using Nat.strongRecOn with
  | _ i ih =>
    intro hi
    cases hd : doneAt listed i with
    | true => rfl
    | false =>
      exfalso
      have hm : i ∈ Region.ready .any ops listed := by
        unfold Region.ready
        rw [List.mem_filter]
        refine ⟨List.mem_range.2 hi, ?_⟩
        have ho : ops[i]? = some ops[i] := Array.getElem?_eq_getElem hi
        have h1 : listed.getD i true = false := by
          unfold doneAt at hd
          rw [Array.getD_eq_getD_getElem?, Array.getElem?_eq_getElem (by omega)] at hd ⊢
          exact hd
        rw [h1, ho]
        simp only [Bool.not_false, Bool.true_and, Option.map_some, Option.getD_some]
        rw [Array.all_eq_true_iff_forall_mem]
        intro e he
        have h2 := hlt i _ ho e he
        have h3 : doneAt listed e.on = true := ih e.on h2 (by omega)
        unfold doneAt at h3
        rw [h3]; simp
      rw [h] at hm; cases hm
theorem wpAny_inv (I : (Nat → Bool) → Act → World → Prop) (hlt : ∀ (i : Nat) (o : Oper), ops[i]? = some o → ∀ e ∈ o.after, e.on < i)
    (step : ∀ d a w i o, ops[i]? = some o → d i = false → (∀ e ∈ o.after, Region.binds .any e = true → d e.on = true) → I d a w → wpOp P ops Q i (fun a' w' => I (fun k => decide (k = i) || d k) a' w') a w)
    (fin : ∀ d a w, (∀ i, i < ops.size → d i = true) → I d a w → Q .normal a w) :
    ∀ (fuel : Nat) (listed : Array Bool) (a : Act) (w : World), listed.size = ops.size → leftN (doneAt listed) ops.size ≤ fuel → I (doneAt listed) a w → wpAny P .any ops Q fuel listed a w := by
  intro fuel
  induction fuel with
  | zero =>
    intro listed a w hs hl hI
    have hall := leftN_zero ops.size (by omega : leftN (doneAt listed) ops.size = 0)
    refine ⟨?_, fin _ a w hall hI⟩
    unfold Region.ready
    rw [List.filter_eq_nil_iff]
    intro i hi
    have h1 := hall i (List.mem_range.1 hi)
    have hi2 := List.mem_range.1 hi
    have h2 : listed.getD i true = true := by
      unfold doneAt at h1
      rw [Array.getD_eq_getD_getElem?, Array.getElem?_eq_getElem (by omega)] at h1 ⊢
      exact h1
    rw [h2]; simp
  | succ fuel ih =>
    intro listed a w hs hl hI
    refine ⟨fun h => fin _ a w (ready_nil hs hlt h) hI, fun i hi => ?_⟩
    unfold Region.ready at hi
    rw [List.mem_filter] at hi
    obtain ⟨h1, h2⟩ := hi
    have hi2 := List.mem_range.1 h1
    have ho : ops[i]? = some ops[i] := Array.getElem?_eq_getElem hi2
    rw [ho] at h2
    simp only [Option.map_some, Option.getD_some, Bool.and_eq_true, Bool.not_eq_true'] at h2
    obtain ⟨h3, h4⟩ := h2
    have hd : doneAt listed i = false := by
      unfold doneAt
      rw [Array.getD_eq_getD_getElem?, Array.getElem?_eq_getElem (by omega)] at h3 ⊢
      exact h3
    refine wpOp_mono (fun a' w' hI' => ?_) (step _ a w i _ ho hd (fun e he hb => ?_) hI)
    · rw [← done_set listed i (by omega)] at hI'
      refine ih _ a' w' (by simp [hs]) ?_ hI'
      have := leftN_set hd ops.size hi2
      rw [done_set listed i (by omega)]
      omega
    · rw [Array.all_eq_true_iff_forall_mem] at h4
      have := h4 e he
      rw [hb] at this
      simpa [doneAt] using this
/-- The law. -/
theorem region_inv {id : Nat} {a0 : Act} {w0 : World} (hm : P.follows .mixedOrders = true) (I : (Nat → Bool) → Act → World → Prop)
    (hlt : ((List.range ops.size).all fun i => ((ops[i]?).map fun o => o.after.all fun e => decide (e.on < i)).getD true) = true)
    (start : I (fun _ => false) a0 w0.drew)
    (step : ∀ d a w i o, ops[i]? = some o → d i = false → (∀ e ∈ o.after, Region.binds .any e = true → d e.on = true) → I d a w → wpOp P ops Q i (fun a' w' => I (fun k => decide (k = i) || d k) a' w') a w)
    (fin : ∀ d a w, (∀ i, i < ops.size → d i = true) → I d a w → Q .normal a w) : (Code.region id ops true).wp P Q a0 w0 := by
  refine wp_region_any hm (wpAny_inv I ?_ step fin _ _ _ _ (by simp) ?_ ?_)
  · intro i o ho e he
    have hi := (Array.getElem?_eq_some_iff.1 ho).1
    have := List.all_eq_true.1 hlt i (List.mem_range.2 hi)
    rw [ho] at this
    simp only [Option.map_some, Option.getD_some] at this
    rw [Array.all_eq_true_iff_forall_mem] at this
    exact of_decide_eq_true (this e he)
  · have : ∀ (d : Nat → Bool) (n : Nat), leftN d n ≤ n := fun d n => by
      induction n with
      | zero => exact Nat.le_refl _
      | succ n ih => rw [leftN]; split <;> omega
    exact this _ _
  · have e : doneAt (Array.replicate ops.size false) = fun _ => false := by
      funext k
      unfold doneAt
      rw [Array.getD_eq_getD_getElem?, Array.getElem?_replicate]
      split <;> rfl
    rw [e]; exact start
end
end Go.Proofs.YthlingdlehdlhaaGreatDoor.Par
