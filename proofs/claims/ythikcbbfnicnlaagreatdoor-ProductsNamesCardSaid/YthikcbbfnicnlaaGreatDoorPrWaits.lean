/- The law's program: what a function does. -/
import Derived.Test.YthikcbbfnicnlaaGreatDoorProg
import Derived.Test.YthikcbbfnicnlaaGreatDoorEvF
import Derived.Shelf.SlIterI.Nil
import Derived.Shelf.SortM.Plain
import Derived.Shelf.SortM.SortNone
import Derived.Test.YthikcbbfnicnlaaGreatDoorPrLay
namespace Go.Proofs
open Go.Proofs.YthikcbbfnicnlaaGreatDoor
open Go.RowKit Go.Maps Go.Sort Go.Shelf
set_option linter.unusedVariables false
set_option linter.unusedSimpArgs false
theorem Tryz.sortsA (m : Nat) : AnyZI.SortsIn Tryz.prog Tryz.sortedA_ren Fence.wide m :=
  ⟨fun blk off cap ss W hH hblk hsz => callsIn_wide.2 (AnyM.slices_Sort_int Tryz.sortA blk off cap ss W hH hblk hsz),
   fun p cap W => callsIn_wide.2 (AnyM.slices_Sort_int_none Tryz.sortA p cap W)⟩
noncomputable def Ranyw : Value → Option (DataW Unit × List MemPlace) := fun _ => some (.nil, [])
theorem wf64 {k : Int} (h : -9223372036854775808 ≤ k ∧ k ≤ 9223372036854775807) : (Lit.int .i64 k).wf = true := by
  simp [Lit.wf, IntKind.min, IntKind.max, IntKind.bits, IntKind.signed]
  omega
theorem rg_key (P : Program) (hu : P.underlying 3 = some (.int .i64)) (x : MapEntry) (k : Int) (hx : x.key = .int .i64 k) (hk : -9223372036854775808 ≤ k ∧ k ≤ 9223372036854775807) :
    WideElems.rd P 3 Ranyw x = some (.int .i64 k, .nil) := by
  unfold WideElems.rd
  rw [hx, Maps.keyOf_int_mk hu (wf64 hk)]
  rfl
theorem keys_rg (P : Program) (hu : P.underlying 3 = some (.int .i64)) : ∀ (l : List MapEntry) (ks : List Int), l.map (·.key) = ks.map (.int .i64) → (∀ k ∈ ks, -9223372036854775808 ≤ k ∧ k ≤ 9223372036854775807) →
    (l.map (WideElems.rg P 3 Ranyw)).map (fun p => Go.intOf p.1) = ks ∧ ∀ x ∈ l, ∃ y, WideElems.rd P 3 Ranyw x = some y
  | [], [], _, _ => ⟨rfl, (fun _ h => nomatch h)⟩
  | [], k :: ks, h, _ => nomatch h
  | x :: l, [], h, _ => nomatch h
  | x :: l, k :: ks, h, hr => by
    rw [List.map_cons, List.map_cons] at h
    injection h with h1 h2
    obtain ⟨h3, h4⟩ := keys_rg P hu l ks h2 (fun k hk => hr k (List.mem_cons_of_mem _ hk))
    have h5 := rg_key P hu x k h1 (hr k (List.mem_cons_self ..))
    refine ⟨?_, fun y hy => ?_⟩
    · rw [List.map_cons, List.map_cons, h3]
      congr 1
      unfold WideElems.rg
      rw [h5]
      rfl
    · rcases List.mem_cons.1 hy with rfl | hy
      · exact ⟨_, h5⟩
      · exact h4 y hy
theorem Tryz.none_w (g o n cap : Nat) (sa : Option Addr) (w : World) (h1 : w.cell? ⟨g, o, none⟩ = some (.slice sa n cap)) (h2 : 0 < n) :
    CallsIn Fence.wide 5 Tryz.prog 121 #[.pointer (some ⟨g, o, none⟩)] w fun e w' => e = .returned (.bool false) ∧ w' = w := by
  refine callsIn_wide.2 ?_
  have hz : ((n : Int) == 0) = false := by rw [beq_eq_false_iff_ne]; omega
  go_enter Tryz.func121, Tryz.ntmps121
  go_wp2_with fail
  go_ret
  exact ⟨rfl, rfl⟩
set_option maxHeartbeats 1000000 in
theorem Tryz.waits_w (g o mb n cap clk : Nat) (sa : Option Addr) (es : Array MapEntry) (ks : List Int) (w : World) (hA : Ev.WaitsAt w g o mb n cap clk sa es ks) :
    Calls Tryz.prog 225 #[.pointer (some ⟨g, o, none⟩)] w fun e w' => ∃ (v : Value) (ss : List Int), e = .returned v ∧ ss.Perm ks ∧
      w'.ownsRow w.heap.size 3 1 v ss.length ((ss.mergeSort (fun x y => decide (x ≤ y))).map encZ) ∧ (v = .slice none 0 0 ↔ ss = []) ∧ Below w.heap.size w w' := by
  refine (callsIn_wide (n := 6)).1 ?_
  obtain ⟨k1, k2⟩ := keys_rg Tryz.prog Tryz.underlying3 es.toList ks hA.keys hA.rng
  have hlen : es.size = ks.length := by
    have := congrArg List.length hA.keys
    simpa using this
  have hl := hA.len
  have hkn : (es.toList.map (·.key)).Nodup := by
    rw [hA.keys]
    exact List.pairwise_map.2 (hA.knod.imp fun h e => h (by injection e))
  have hown : w.ownsMap Tryz.prog 3 Ranyw mb es.size (.map ((es.toList.map (WideElems.rg Tryz.prog 3 Ranyw)).foldr DataW.insert [])) :=
    ⟨es, clk, hA.blk, ⟨by rw [hlen]; exact Nat.le_trans (Nat.le_of_lt hl) (by decide), ⟨hA.born, hA.bnod, hkn⟩, k2⟩, Nat.le_refl _, rfl⟩
  have hperm : (intKeys (DataW.map ((es.toList.map (WideElems.rg Tryz.prog 3 Ranyw)).foldr DataW.insert []) : DataW Unit)).Perm ks := by
    show (((es.toList.map (WideElems.rg Tryz.prog 3 Ranyw)).foldr DataW.insert []).map fun p => Go.intOf p.1).Perm ks
    exact ((WideShapes.sorted_perm _).map _).trans (by rw [k1])
  have hsize : Maps.size (DataW.map ((es.toList.map (WideElems.rg Tryz.prog 3 Ranyw)).foldr DataW.insert []) : DataW Unit) = ks.length := by
    have := hperm.length_eq
    rw [← this]
    show _ = (List.map _ _).length
    rw [List.length_map]
    rfl
  generalize hD : (DataW.map ((es.toList.map (WideElems.rg Tryz.prog 3 Ranyw)).foldr DataW.insert []) : DataW Unit) = D0 at hown hperm hsize
  have hbl := hown.lt
  have hseq : SeqGives Fence.wide 2 Tryz.prog 271 #[.pointer (some ⟨w.heap.size, 0, none⟩)] encZ (fun ss => ss.Perm (intKeys D0)) (Maps.size D0) (w.alloc (.cells #[.map mb] 121)) :=
    AnyZI.keys_gives (ρ := Tryz.keysA_ren) { Tryz.keysA with } Fence.wide _ trivial rfl (by omega) w.heap.size mb es.size D0 _ (by simp) (by simp) (by
      obtain ⟨es, clock, hb, Ft, hs, hD⟩ := hown
      exact ⟨es, clock, (Below.heap_alloc _ _ mb hbl).trans hb, Ft, hs, hD⟩)
  have cN := Tryz.none_w g o n cap sa w hA.sl hA.pos
  have cK : ∀ mb W, CallsIn Fence.wide 5 Tryz.prog 254 #[.map mb] W fun e w' => e = .returned (.func (.func 271) #[] #[.pointer (some ⟨W.heap.size, 0, none⟩)]) ∧ w' = W.alloc (.cells #[.map mb] 121) := fun mb W => AnyZI.keys_in Tryz.keysA Fence.wide 5 trivial rfl mb W
  have cS := AnyZI.sorted_in Tryz.sortedA Fence.wide 5 trivial trivial trivial trivial rfl (by omega) (Tryz.sortsA _) (enters_of Tryz.func270 (by kernel_rfl) rfl) 271 #[.pointer (some ⟨w.heap.size, 0, none⟩)] trivial (enters_of Tryz.func271 (by kernel_rfl) rfl) _ _ (by rw [hsize]; exact Nat.le_trans (Nat.le_of_lt hl) (by decide)) (by rw [hsize]; omega) _ hseq
  change CallsIn _ _ Tryz.prog 253 _ _ _ at cS
  have hfN : Fence.wide.fn 121 := trivial
  have hfK : Fence.wide.fn 254 := trivial
  have hfS : Fence.wide.fn 253 := trivial
  have hmp := hA.mp
  clear hA hown hseq k1 k2 hkn hD
  refine callsIn_of_wp Tryz.func225 rfl trivial ?_ rfl
  simp only [Tryz.ntmps225, List.size_toArray, List.length_cons, List.length_nil, Nat.reduceAdd, Nat.reduceSub, Array.replicate_succ, Array.replicate_zero, List.push_toArray, List.append_toArray, List.nil_append, List.cons_append]
  gi_wp2_with (first
    | (gi_at_call 121; refine cN.mono ?_; rintro e w' ⟨rfl, rfl⟩)
    | (gi_at_call 254; refine (cK _ _).mono ?_; rintro e w' ⟨rfl, rfl⟩)
    | (gi_at_call 253; refine cS.mono ?_; rintro e w' ⟨v, ss, rfl, hS, hrow, hnil, hb⟩))
  go_ret
  exact ⟨v, ss, rfl, hS.trans hperm, ownsRow_base_a hrow (by simp), hnil, ((Below.refl _ _).alloc (Nat.le_refl _) _).trans (hb.mono (by simp))⟩
/-- As the hook asks. -/
theorem Tryz.waits_h (g o mb n cap clk : Nat) (sa : Option Addr) (es : Array MapEntry) (ks : List Int) (w : World) (hA : Ev.WaitsAt w g o mb n cap clk sa es ks) :
    Calls Tryz.prog 225 #[.pointer (some ⟨g, o, none⟩)] w fun e w' => (ks = [] → e = .returned (.slice none 0 0) ∧ Below w.heap.size w w') ∧ (ks ≠ [] → ∃ v, e = .returned v ∧ Ev.NewRowAt Tryz.prog w w' 3 ((Ev.isort ks).map (.int .i64)) v) := by
  refine (Tryz.waits_w g o mb n cap clk sa es ks w hA).mono ?_
  rintro e w' ⟨v, ss, rfl, hp, hrow, hnil, hB⟩
  have hss := Ev.isort_merge hp
  refine ⟨fun hk => ?_, fun hk => ?_⟩
  · subst hk
    have : ss = [] := List.perm_nil.1 hp
    rw [hnil.2 this]
    exact ⟨rfl, hB⟩
  · refine ⟨v, rfl, hB, ?_⟩
    rw [hss] at hrow
    have hl : (Ev.isort ks).length = ss.length := by rw [← hss]; exact (List.mergeSort_perm ..).length_eq
    obtain ⟨h1, ⟨rfl, h2⟩ | ⟨gg, cap, cur, rfl, h3, h4, h5, h6, h7, h8⟩⟩ := hrow
    · exact absurd (hp.symm.trans (by rw [hnil.1 rfl])).eq_nil hk
    · refine ⟨gg, 0, cap, cur, (0, 0), by rw [List.length_map, hl], h3, h4, by rw [List.length_map, hl]; exact h5, by omega, fun j x hx => ?_, fun j _ _ h => absurd h (Nat.not_lt_zero _)⟩
      have h9 : (cur.toList.take (ss.length * 1))[j]? = some x := by rw [h8]; exact hx
      rw [List.getElem?_take] at h9
      split at h9
      · rw [Nat.zero_add]
        simpa using h9
      · cases h9
end Go.Proofs
