/- The law's program: what a function does. -/
import Derived.Test.YthikcbbfnicnlaaGreatDoorProg
import Derived.Test.YthikcbbfnicnlaaGreatDoorEvF
import Derived.Shelf.Slices.Delete
import Derived.Shelf.Spec.SlicesInsert
import Derived.WalkKit
namespace Go.Proofs
open Go.Proofs.YthikcbbfnicnlaaGreatDoor
open Go.Shelf Go.RowKit Go.Lib
set_option linter.unusedVariables false
set_option linter.unusedSimpArgs false
theorem step_append_runD {P : Program} {ops : Array Oper} {o : Oper} {a : Act} {w : World} {K : Act → World → Prop} {Q : Exit → Act → World → Prop} {E : Prop}
    (hg : o.guard = none) (d x : Operand) (dT sT : TypeId) (hop : o.op = Op.call { callee := Callee.builtin Builtin.append, args := #[d, x], argTypes := #[dT, sT] })
    (v u : Value) (hd : a.eval d = v) (hx : a.eval x = u) {v' : Value} {w' : World} (hr : (Builtin.append_ #[dT, sT] o.type #[v, u]).run P w = .ok v' w') (hK : K (a.put o.dst v') w') :
    if Region.wanted o (yielded ops a.tmps) = true then Oper.wp P o a w K Q else E := by
  have hw : Region.wanted o (yielded ops a.tmps) = true := by simp [Region.wanted, hg]
  rw [if_pos hw]
  unfold Oper.wp
  simp [execOp, hop, resolve, invoke, builtin, hd, hx, hr, Result.andThen]
  exact hK
set_option maxHeartbeats 4000000 in
set_option maxRecDepth 100000 in
theorem Tryz.delete_w (b off n c k j : Nat) (w W1 W2 : World) (h1 : k < j) (h2 : j ≤ n) (h3 : n ≤ c) (h4 : n ≤ 9223372036854775807)
    (hap : ∀ ty a2 c2, (n - j = 0 ∨ a2 = ⟨b, off + j, none⟩) → (Builtin.append_ #[224, 224] ty #[.slice (some ⟨b, off, none⟩) k c, .slice (some a2) (n - j) c2]).run Tryz.prog w.drew = .ok (.slice (some ⟨b, off, none⟩) (k + (n - j)) c) W1)
    (hcl : ∀ ty cc, (Builtin.clear_ #[224] ty #[.slice (some ⟨b, off + (k + (n - j)), none⟩) (j - k) cc]).run Tryz.prog W1 = .ok (.tuple #[]) W2) :
    Calls Tryz.prog 222 #[.slice (some ⟨b, off, none⟩) n c, .int .i64 k, .int .i64 j] w fun e w' => e = .returned (.slice (some ⟨b, off, none⟩) (k + (n - j)) c) ∧ w' = W2 := by
  have hkj : (k : Int) ≤ (j : Int) := by omega
  have hjn : (j : Int) ≤ (n : Int) := by omega
  have hne : ¬ ((k : Int) = (j : Int)) := by omega
  have hnc : (n : Int) ≤ (c : Int) := by omega
  have hkc : k ≤ c := by omega
  have hjc : j ≤ c := by omega
  have hkn : k + (n - j) ≤ n := by omega
  have hjk : n - (k + (n - j)) = j - k := by omega
  by_cases hcj : c = j
  · have hz : n - j = 0 := by omega
    have hnj : n = j := by omega
    subst hcj
    subst hnj
    have hap' := fun ty a2 c2 => hap ty a2 c2 (.inl hz)
    simp only [hz, Nat.add_zero] at hap' hcl hkn hjk ⊢
    clear hap hz h2 h3 hjn hnc hjc
    have e0 := Ev.append_room (P := Tryz.prog) (st := 224) (xt := 224) (ty := 224) (e := 282) (g := b) (oo := off) (sLen := k) (sCap := n) (n := 0) (x := .slice (some ⟨b, off, none⟩) 0 0) (new := []) (w := w.drew) (w' := w.drew) Tryz.underlying224 Tryz.underlying224 rfl (i := Tryz.t282) (by kernel_rfl) rfl (by simp only [Builtin.firstCells, Nat.zero_mul]; rfl) (by omega) rfl
    have e1 := hap' 224 ⟨b, off, none⟩ 0
    rw [e0] at e1
    injection e1 with _ e2
    subst e2
    have hkn' : k ≤ n := by omega
    clear hap' e0
    go_enter Tryz.func222, Tryz.ntmps222
    go_wp2_with fail
    go_region
    go_wp2_with fail
    go_ret
    exact ⟨rfl, rfl⟩
  · have hap' := fun ty c2 => hap ty ⟨b, off + j, none⟩ c2 (.inr rfl)
    clear hap
    go_enter Tryz.func222, Tryz.ntmps222
    go_wp2_with fail
    go_region_law (refine step_append_runD rfl _ _ 224 224 rfl _ _ (by simp [Act.eval, Act.put]) (by simp [Act.eval, Act.put, hcj]) (hap' _ (c - j)) ?_)
    go_wp2_with fail
    go_ret
    exact ⟨rfl, rfl⟩
end Go.Proofs
