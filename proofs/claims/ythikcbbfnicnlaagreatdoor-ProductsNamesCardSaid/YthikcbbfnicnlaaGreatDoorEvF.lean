/- The evaluator: new rows, what only reads, calls on what they touch, stages of their own. -/
import Derived.Test.YthikcbbfnicnlaaGreatDoorEvE
namespace Go.Proofs.YthikcbbfnicnlaaGreatDoor.Ev
open Go
set_option linter.unusedVariables false
set_option linter.unusedSimpArgs false
/-- b: the row's number in the run from the start. -/
structure Fresh where
  f : FuncId
  args : List Value
  b : Nat
  row : Cs
noncomputable def plainRow (c : Cs) : Bool := belowB (fun i => oc (cellOf c.dflt c.t i) true plain) c.n
noncomputable def hFresh (m : Fresh) : Hook := fun args H => bi (eqAll (veq 6) m.args args) (some (.pointer (some ⟨H.next, 0, none⟩), H.new m.row.all)) none
noncomputable def freshChk (E : En) (n : Nat) (H0 : AH) (m : Fresh) : Bool := ba (ba (allL plain m.args) (ba (plainRow m.row) (ba (not m.row.ro) (Nat.ble H0.next m.b)))) (oc (ev E n (.call (.enter m.f m.args)) H0) false fun r => oc (rVal r) false fun q => ba (veq 6 (.pointer (some ⟨m.b, 0, none⟩)) q.1) (oc (q.2.cells m.b) false fun k => simC k m.row))
theorem hFresh_ok {E1 E2 : En} {ι0 : Ren} {H0 : AH} (hs : StartOk E1 ι0 H0) (hP : E2.P = E1.P) (hw : E2.w0 = E1.w0) (hR : E2.roB = E1.roB) (hmix : E1.P.follows .mixedOrders = true) (hx : HxOk E1) (hxn : HxNN E1) (he : HeOk E1) (hen : HeNN E1) {n : Nat} {m : Fresh} (hchk : freshChk E1 n H0 m = true)
    {N : Nat} {ι : Ren} {H : AH} {w : World} {args : List Value} {args' : Array Value} {v : Value} {H' : AH} (hN : H'.next ≤ N) (hwx : Wx E2 N ι H w) (hargs : VRs ι args args'.toList) (h : hFresh m args H = some (v, H')) : CallsIn Fence.wide 0 E2.P m.f args' w (CallQ E2 N ι H w (.val v H')) := by
  obtain ⟨k1, k2⟩ := bi_none.1 h
  cases k2
  have k1 := eqAll_ok (veq_ok 6) k1
  subst k1
  obtain ⟨q1, q2⟩ := ba_iff.1 hchk
  obtain ⟨q3, q4⟩ := ba_iff.1 q1
  obtain ⟨q5, q6⟩ := ba_iff.1 q4
  obtain ⟨q7, q8⟩ := ba_iff.1 q6
  have q7 : m.row.ro = false := by simpa using q7
  have q8 := ble_iff.1 q8
  obtain ⟨r, hr, q9⟩ := ocB q2
  obtain ⟨q, hq, q10⟩ := ocB q9
  obtain ⟨q11, q12⟩ := ba_iff.1 q10
  obtain ⟨kk, hk, hsim⟩ := ocB q12
  have := rVal_some hq
  subst this
  have q11 := veq_ok 6 _ _ q11
  obtain ⟨qv, Hs'⟩ := q
  have q11 : Value.pointer (some ⟨m.b, 0, none⟩) = qv := q11
  subst q11
  have hself := plainL_eq q3 hargs
  have hargs0 : VRs ι0 m.args args'.toList := by
    rw [← hself]
    have key : ∀ l : List Value, allL plain l = true → VRs ι0 l l := by
      intro l
      induction l with
      | nil => exact fun _ => .nil
      | cons x l ih =>
        intro h
        have h : bi (plain x) (allL plain l) false = true := h
        cases hx : plain x with
        | false => rw [hx] at h; cases h
        | true => rw [hx] at h; exact .cons (plain_self ι0 hx) (ih h)
    exact key m.args q3
  have hw0 := hs.wx w Hs'.next (hR ▸ hwx.base.le) (fun c hc => by rw [hwx.base.same c (hR ▸ hc), hw])
  have hrun := (ev_ok hmix hx hxn he hen n).ok _ _ _ hr Hs'.next (Nat.le_refl _) ι0 w args' hw0 hargs0
  rw [hP]
  refine CallsIn.mono hrun ?_
  rintro e w' ⟨v1, H1, v', e1, rfl, ι1, haft, hvr⟩
  cases e1
  obtain ⟨c, d, rfl, hf⟩ := hvr.ptr_inv (p := (m.b, 0)) rfl
  have hf : ι1.f m.b = some (c, d) := hf
  have hk0 := AH.cells_some hk
  obtain ⟨c', d', hf', hbr⟩ := haft.go.hr.blk _ _ hk0
  rw [hf] at hf'
  cases hf'
  obtain ⟨hbr, -⟩ := simC_ok (k := kk) hsim hbr
  have hge : w.heap.size ≤ c := by
    rcases Nat.lt_or_ge c w.heap.size with hlt | hge
    · exact absurd (haft.go.loc m.b _ c d q8 hk0 hf hlt) (hs.nown c)
    · exact hge
  have hclt := hbr.lt
  obtain ⟨cs, f, b1, b2, b3⟩ := hbr
  have hnone : ι.f H.next = none := hwx.fresh H.next (Nat.le_refl _) (Nat.lt_of_lt_of_le (Nat.lt_succ_self _) hN)
  have hsn : ι.s c = none := by
    cases hx : ι.s c with
    | none => rfl
    | some p => have := hwx.hr.slt c p hx; omega
  obtain ⟨ι2, hι2⟩ : ∃ ι2 : Ren, ι2 = ⟨fun j => if j = H.next then some (c, d) else ι.f j, fun x => if x = c then some (cs.size, m.row.elem) else ι.s x, ι.z⟩ := ⟨_, rfl⟩
  have f1 : ι2.f H.next = some (c, d) := by rw [hι2]; simp
  have f2 : ∀ j, j ≠ H.next → ι2.f j = ι.f j := fun j hj => by rw [hι2]; simp [hj]
  have s1 : ι2.s c = some (cs.size, m.row.elem) := by rw [hι2]; simp
  have s2 : ∀ x, x ≠ c → ι2.s x = ι.s x := fun x hx => by rw [hι2]; simp [hx]
  have hext : Ext ι ι2 := ⟨fun j p hj => by
      by_cases e : j = H.next
      · subst e; rw [hnone] at hj; cases hj
      · rw [f2 j e]; exact hj, fun x p hx => by
      by_cases e : x = c
      · subst e; rw [hsn] at hx; cases hx
      · rw [s2 x e]; exact hx, by rw [hι2]⟩
  have hfr : ∀ x, x < w.heap.size → w'.heap[x]? = w.heap[x]? := fun x hx => haft.go.frame x hx (hs.nown x)
  have hget : ∀ j k, (H.new m.row.all).get j = some k → (j = H.next ∧ k = m.row.all) ∨ (j ≠ H.next ∧ H.get j = some k) := fun j k hj => by
    rw [AH.new_get] at hj
    unfold upd at hj
    split at hj
    · rename_i e; cases hj; exact .inl ⟨e, rfl⟩
    · rename_i e; exact .inr ⟨e, hj⟩
  have hnew : BR ι2 m.row.all c d w' := by
    refine ⟨cs, f, b1, ⟨b2.size, fun i x hi hx => ?_, b2.frz, b2.ex⟩, s1⟩
    obtain ⟨u, h1, h2⟩ := b2.cell i x hi hx
    have hp := belowB_iff q5 i hi
    have hx : cellOf m.row.dflt m.row.t i = some x := hx
    rw [hx] at hp
    have hp : plain x = true := hp
    have := plain_eq hp h2
    subst this
    exact ⟨x, h1, plain_self ι2 hp⟩
  refine ⟨_, H.new m.row.all, .pointer (some ⟨c, 0 + d, none⟩), rfl, rfl, ι2, hwx.aft ?_, .ptr _ _ _ _ f1⟩
  refine ⟨hext, fun j h1 h2 => ?_, ⟨fun j k hj => ?_, fun j1 j2 k1 k2 x d1 d2 h1 h2 i1 i2 => ?_, fun x p hx => ?_⟩, Nat.le_succ _, fun j k hj hk2 => ?_, fun j k hj => ?_, fun j k x dd hj hk2 hι hx => ?_, fun x hx _ => hfr x hx, haft.go.size, haft.go.os, haft.go.tape, haft.go.output⟩
  · rw [f2 j (by
      have : (H.new m.row.all).next = H.next + 1 := rfl
      omega)]; exact h1
  · rcases hget j k hj with ⟨rfl, rfl⟩ | ⟨hne, hj⟩
    · exact ⟨c, d, f1, hnew⟩
    · obtain ⟨x, dd, h1, h2⟩ := hwx.hr.blk j k hj
      exact ⟨x, dd, hext.f _ _ h1, h2.mono hext (hfr x h2.lt)⟩
  · have old : ∀ j k, j ≠ H.next → H.get j = some k → ∀ dd, ι2.f j = some (x, dd) → x < w.heap.size ∧ ι.f j = some (x, dd) := fun j k hne hj dd hi => by
      rw [f2 j hne] at hi
      obtain ⟨x', dd', h1, h2⟩ := hwx.hr.blk j k hj
      rw [hi] at h1
      cases h1
      exact ⟨h2.lt, hi⟩
    rcases hget j1 k1 h1 with ⟨e1, -⟩ | ⟨e1, g1⟩
    · rcases hget j2 k2 h2 with ⟨e2, -⟩ | ⟨e2, g2⟩
      · rw [e1, e2]
      · rw [e1, f1] at i1
        cases i1
        have := (old j2 k2 e2 g2 d2 i2).1
        omega
    · rcases hget j2 k2 h2 with ⟨e2, -⟩ | ⟨e2, g2⟩
      · rw [e2, f1] at i2
        cases i2
        have := (old j1 k1 e1 g1 d1 i1).1
        omega
      · exact hwx.hr.inj _ _ _ _ _ _ _ g1 g2 (old j1 k1 e1 g1 d1 i1).2 (old j2 k2 e2 g2 d2 i2).2
  · by_cases e : x = c
    · rw [e]; exact hclt
    · rw [s2 x e] at hx
      exact Nat.lt_of_lt_of_le (hwx.hr.slt x p hx) haft.go.size
  · rcases hget j k hk2 with ⟨e, -⟩ | ⟨-, hj2⟩
    · omega
    · exact ⟨k, hj2, id⟩
  · rcases hget j k hj with ⟨rfl, -⟩ | ⟨-, hj⟩
    · exact Nat.lt_succ_self _
    · exact Nat.lt_succ_of_lt (hwx.bnd j k hj)
  · rcases hget j k hk2 with ⟨rfl, -⟩ | ⟨-, hj2⟩
    · rw [f1] at hι
      cases hι
      omega
    · have := hwx.bnd j k hj2
      omega
theorem hFresh_nn {m : Fresh} {args : List Value} {H H' : AH} {v : Value} (h : hFresh m args H = some (v, H')) : H.next ≤ H'.next := by
  obtain ⟨-, k2⟩ := bi_none.1 h
  cases k2
  exact Nat.le_succ _
end Go.Proofs.YthikcbbfnicnlaaGreatDoor.Ev
namespace Go.Proofs.YthikcbbfnicnlaaGreatDoor.Ev
open Go
set_option linter.unusedVariables false
set_option linter.unusedSimpArgs false
/-- Two stages over the same program and world. -/
structure Like (E1 E2 : En) : Prop where
  P : E2.P = E1.P
  g : E2.g = E1.g
  w0 : E2.w0 = E1.w0
  roB : E2.roB = E1.roB
theorem Like.symm {E1 E2 : En} (h : Like E1 E2) : Like E2 E1 := ⟨h.P.symm, h.g.symm, h.w0.symm, h.roB.symm⟩
theorem Wx.like {E1 E2 : En} (h : Like E1 E2) {N : Nat} {ι : Ren} {H : AH} {w : World} (a : Wx E1 N ι H w) : Wx E2 N ι H w :=
  ⟨a.hr, a.bnd, fun k hk => a.gl k (by rw [← h.g]; exact hk), fun t i hi => a.z t i (by rw [← h.P]; exact hi), a.fresh, ⟨by rw [h.roB]; exact a.base.le, fun c hc => by rw [h.w0]; exact a.base.same c (by rw [← h.roB]; exact hc), fun c hc => a.base.nown c (by rw [← h.roB]; exact hc)⟩⟩
theorem CallQ.like {E1 E2 : En} (h : Like E1 E2) {N : Nat} {ι : Ren} {H : AH} {w : World} {r : Res} {e : Ending} {w' : World} (q : CallQ E1 N ι H w r e w') : CallQ E2 N ι H w r e w' := by
  obtain ⟨v, H', v', h1, h2, ι', ⟨h3, h4⟩, h5⟩ := q
  exact ⟨v, H', v', h1, h2, ι', ⟨h3, h4.like h⟩, h5⟩
theorem HxOk.like {E1 E2 : En} (hP : E2.P = E1.P) (hg : E2.g = E1.g) (hx : E2.hx = E1.hx) (a : HxOk E1) : HxOk E2 := by
  obtain ⟨P1, g1, he1, hx1, w1, b1⟩ := E1
  obtain ⟨P2, g2, he2, hx2, w2, b2⟩ := E2
  cases hP
  cases hg
  cases hx
  exact ⟨a.ng, fun f h fd h1 h2 h3 ι H w ntm T tmps args args' v H' cx hargs hr => a.ok f h fd h1 h2 h3 ι H w ntm T tmps args args' v H' ⟨cx.hr, cx.bnd, cx.tr, cx.gl, cx.z⟩ hargs hr⟩
theorem StartOk.like {E1 E2 : En} (h : Like E1 E2) {ι0 : Ren} {H0 : AH} (a : StartOk E1 ι0 H0) : StartOk E2 ι0 H0 :=
  ⟨fun w N h1 h2 => (a.wx w N (by rw [← h.roB]; exact h1) fun c hc => by rw [← h.w0]; exact h2 c (by rw [h.roB]; exact hc)).like h, a.nown⟩
noncomputable def freshF (l : List Fresh) (f : FuncId) : Hook := List.rec (motive := fun _ => Hook) (fun _ _ => none) (fun m _ g args H => bi (Nat.beq m.f f) (oc (hFresh m args H) (g args H) fun p => some p) (g args H)) l
noncomputable def Gr.fresh (G : Gr) (F : List Fresh) : Gr := ⟨G.P, G.g, fun f args H => oc (G.bh f args H) (freshF F f args H) fun p => some p, G.hx, G.w⟩
theorem freshF_some : ∀ {l : List Fresh} {f : FuncId} {args : List Value} {H H' : AH} {v : Value}, freshF l f args H = some (v, H') → ∃ m ∈ l, m.f = f ∧ hFresh m args H = some (v, H')
  | [], f, args, H, H', v, h => nomatch (show (none : Option (Value × AH)) = some (v, H') from h)
  | m :: l, f, args, H, H', v, h => by
    rcases bi_or.1 (show bi (Nat.beq m.f f) (oc (hFresh m args H) (freshF l f args H) fun p => some p) (freshF l f args H) = some (v, H') from h) with ⟨h0, h⟩ | ⟨-, h⟩
    · rcases oc_some.1 h with ⟨-, h1⟩ | ⟨p, h1, h2⟩
      · obtain ⟨m', hm, h3⟩ := freshF_some h1
        exact ⟨m', List.mem_cons_of_mem _ hm, h3⟩
      · cases h2
        exact ⟨m, List.mem_cons_self .., beq_iff.1 h0, h1⟩
    · obtain ⟨m', hm, h3⟩ := freshF_some h
      exact ⟨m', List.mem_cons_of_mem _ hm, h3⟩
/-- What earlier stages have run from the start may be a hook of all later ones. -/
theorem GrOk.fresh {G : Gr} (hG : GrOk G) {ι0 : Ren} {H0 : AH} (hs : ∀ l T, StartOk (G.en l T) ι0 H0) {F : List Fresh} (hF : ∀ m ∈ F, ∃ n l, Chain G l ∧ freshChk (G.en l []) n H0 m = true) : GrOk (G.fresh F) where
  mix := hG.mix
  hx := fun l T => (hG.hx l T).like (E1 := G.en l T) (E2 := (G.fresh F).en l T) rfl rfl rfl
  hxn := fun l T => hG.hxn l T
  bh := fun l T f N ι H w args args' v H' hN hwx hargs hr => by
    have lk : Like ((G.fresh F).en l T) (G.en l T) := ⟨rfl, rfl, rfl, rfl⟩
    rcases oc_some.1 (show oc (G.bh f args H) (freshF F f args H) (fun p => some p) = some (v, H') from hr) with ⟨-, h1⟩ | ⟨p, h1, h2⟩
    · obtain ⟨m, hm, rfl, h3⟩ := freshF_some h1
      obtain ⟨n, l', h4, h5⟩ := hF m hm
      exact hFresh_ok (E1 := G.en l' []) (E2 := (G.fresh F).en l T) (hs l' []) rfl rfl rfl hG.mix (hG.hx l' []) (hG.hxn l' []) (he_ok hG h4 (T := []) (fun l => hs l []) fun p hp => nomatch hp) (he_nn hG h4 []) h5 hN hwx hargs h3
    · cases h2
      exact CallsIn.mono (hG.bh l T f N ι H w args args' _ _ hN (hwx.like lk) hargs h1) fun e w' q => q.like lk.symm
  bhn := fun f args H v H' hr => by
    rcases oc_some.1 (show oc (G.bh f args H) (freshF F f args H) (fun p => some p) = some (v, H') from hr) with ⟨-, h1⟩ | ⟨p, h1, h2⟩
    · obtain ⟨m, -, -, h3⟩ := freshF_some h1
      exact hFresh_nn h3
    · cases h2
      exact hG.bhn _ _ _ _ _ h1
theorem starts_fresh {G : Gr} {ι0 : Ren} {H0 : AH} (hs : ∀ l T, StartOk (G.en l T) ι0 H0) (F : List Fresh) (l : List Memo) (T : List TabE) : StartOk ((G.fresh F).en l T) ι0 H0 :=
  (hs l T).like (E1 := G.en l T) (E2 := (G.fresh F).en l T) ⟨rfl, rfl, rfl, rfl⟩
end Go.Proofs.YthikcbbfnicnlaaGreatDoor.Ev
namespace Go.Proofs.YthikcbbfnicnlaaGreatDoor.Ev
open Go
set_option linter.unusedVariables false
set_option linter.unusedSimpArgs false
section
variable {E : En} {N : Nat} {ι : Ren} {H : AH} {w w' : World}
theorem go_new (hwx : Wx E N ι H w) (hN : H.next + 1 ≤ N) (hB : RowKit.Below w.heap.size w w') {c d sz : Nat} {row : Cs} (hge : w.heap.size ≤ c) (hbr : ∀ ι2 : Ren, ι2.s c = some (sz, row.elem) → BR ι2 row.all c d w') :
    ∃ ι2 : Ren, Go ι H.get H.next w ι2 (H.new row.all).get (H.next + 1) w' ∧ ι2.f H.next = some (c, d) ∧ ι2.s c = some (sz, row.elem) ∧ ι2.z = ι.z := by
  have hnone : ι.f H.next = none := hwx.fresh H.next (Nat.le_refl _) (Nat.lt_of_lt_of_le (Nat.lt_succ_self _) hN)
  have hsn : ι.s c = none := by
    cases hx : ι.s c with
    | none => rfl
    | some p => have := hwx.hr.slt c p hx; omega
  obtain ⟨ι2, hι2⟩ : ∃ ι2 : Ren, ι2 = ⟨fun j => if j = H.next then some (c, d) else ι.f j, fun x => if x = c then some (sz, row.elem) else ι.s x, ι.z⟩ := ⟨_, rfl⟩
  have f1 : ι2.f H.next = some (c, d) := by rw [hι2]; simp
  have f2 : ∀ j, j ≠ H.next → ι2.f j = ι.f j := fun j hj => by rw [hι2]; simp [hj]
  have s1 : ι2.s c = some (sz, row.elem) := by rw [hι2]; simp
  have s2 : ∀ x, x ≠ c → ι2.s x = ι.s x := fun x hx => by rw [hι2]; simp [hx]
  have z1 : ι2.z = ι.z := by rw [hι2]
  have hext : Ext ι ι2 := ⟨fun j p hj => by
      by_cases e : j = H.next
      · subst e; rw [hnone] at hj; cases hj
      · rw [f2 j e]; exact hj, fun x p hx => by
      by_cases e : x = c
      · subst e; rw [hsn] at hx; cases hx
      · rw [s2 x e]; exact hx, z1⟩
  have hnew := hbr ι2 s1
  have hclt := hnew.lt
  have hfr : ∀ x, x < w.heap.size → w'.heap[x]? = w.heap[x]? := fun x hx => hB.block x hx
  have hget : ∀ j k, (H.new row.all).get j = some k → (j = H.next ∧ k = row.all) ∨ (j ≠ H.next ∧ H.get j = some k) := fun j k hj => by
    rw [AH.new_get] at hj
    unfold upd at hj
    split at hj
    · rename_i e; cases hj; exact .inl ⟨e, rfl⟩
    · rename_i e; exact .inr ⟨e, hj⟩
  refine ⟨ι2, ⟨hext, fun j h1 h2 => ?_, ⟨fun j k hj => ?_, fun j1 j2 k1 k2 x d1 d2 h1 h2 i1 i2 => ?_, fun x p hx => ?_⟩, Nat.le_succ _, fun j k hj hk2 => ?_, fun j k hj => ?_, fun j k x dd hj hk2 hι hx => ?_, fun x hx _ => hfr x hx, hB.size, hB.os, hB.tape, hB.output⟩, f1, s1, z1⟩
  · rw [f2 j (by omega)]; exact h1
  · rcases hget j k hj with ⟨rfl, rfl⟩ | ⟨hne, hj⟩
    · exact ⟨c, d, f1, hnew⟩
    · obtain ⟨x, dd, h1, h2⟩ := hwx.hr.blk j k hj
      exact ⟨x, dd, hext.f _ _ h1, h2.mono hext (hfr x h2.lt)⟩
  · have old : ∀ j k, j ≠ H.next → H.get j = some k → ∀ dd, ι2.f j = some (x, dd) → x < w.heap.size ∧ ι.f j = some (x, dd) := fun j k hne hj dd hi => by
      rw [f2 j hne] at hi
      obtain ⟨x', dd', h1, h2⟩ := hwx.hr.blk j k hj
      rw [hi] at h1
      cases h1
      exact ⟨h2.lt, hi⟩
    rcases hget j1 k1 h1 with ⟨e1, -⟩ | ⟨e1, g1⟩
    · rcases hget j2 k2 h2 with ⟨e2, -⟩ | ⟨e2, g2⟩
      · rw [e1, e2]
      · rw [e1, f1] at i1
        cases i1
        have := (old j2 k2 e2 g2 d2 i2).1
        omega
    · rcases hget j2 k2 h2 with ⟨e2, -⟩ | ⟨e2, g2⟩
      · rw [e2, f1] at i2
        cases i2
        have := (old j1 k1 e1 g1 d1 i1).1
        omega
      · exact hwx.hr.inj _ _ _ _ _ _ _ g1 g2 (old j1 k1 e1 g1 d1 i1).2 (old j2 k2 e2 g2 d2 i2).2
  · by_cases e : x = c
    · rw [e]; exact hclt
    · rw [s2 x e] at hx
      exact Nat.lt_of_lt_of_le (hwx.hr.slt x p hx) hB.size
  · rcases hget j k hk2 with ⟨e, -⟩ | ⟨-, hj2⟩
    · omega
    · exact ⟨k, hj2, id⟩
  · rcases hget j k hj with ⟨rfl, -⟩ | ⟨-, hj⟩
    · exact Nat.lt_succ_self _
    · exact Nat.lt_succ_of_lt (hwx.bnd j k hj)
  · rcases hget j k hk2 with ⟨rfl, -⟩ | ⟨-, hj2⟩
    · rw [f1] at hι
      cases hι
      omega
    · have := hwx.bnd j k hj2
      omega
/-- A slice of plain one-cell elements in a row of its own. -/
structure NewRowAt (P : Program) (w w' : World) (elem : TypeId) (l : List Value) (v : Value) : Prop where
  below : RowKit.Below w.heap.size w w'
  row : ∃ (c o cap : Nat) (cs : Array Value) (f : Nat × Nat), v = .slice (some ⟨c, o, none⟩) l.length cap ∧ w.heap.size ≤ c ∧ w'.heap[c]? = some (.cells cs elem f) ∧ l.length ≤ cap ∧ o + cap ≤ cs.size ∧ (∀ (j : Nat) (x : Value), l[j]? = some x → cs[o + j]? = some x) ∧ ∀ j, j < cs.size → f.1 ≤ j → ¬ j < f.2
/-- A hook's answer, out of such a contract. -/
theorem newRow_ok {P : Program} {f : FuncId} {args' : Array Value} {elem : TypeId} {i : TypeInfo} (hP : E.P = P) (hi : P.info? elem = some i) (hz : i.size = 1) {l : List Value} (hp : allL plain l = true) (hwx : Wx E N ι H w) (hN : H.next + 1 ≤ N)
    (hc : Calls P f args' w fun e w' => ∃ v, e = .returned v ∧ NewRowAt P w w' elem l v) : CallsIn Fence.wide 0 E.P f args' w (CallQ E N ι H w (.val (newSl H l.length openCap) (newRow H elem l))) := by
  rw [hP]
  refine CallsIn.mono (callsIn_wide.2 hc) ?_
  rintro e w' ⟨v, rfl, hB, c, o, cap, cs, f, rfl, hge, hh, hcap, hsz, hcell, hfz⟩
  have hpl : ∀ x ∈ l, plain x = true := by
    have key : ∀ (l : List Value), allL plain l = true → ∀ x ∈ l, plain x = true := by
      intro l
      induction l with
      | nil => exact fun _ _ h => nomatch h
      | cons y l ih =>
        intro h x hx
        have h : bi (plain y) (allL plain l) false = true := h
        cases hy : plain y with
        | false => rw [hy] at h; cases h
        | true =>
          rw [hy] at h
          rcases List.mem_cons.1 hx with rfl | hx
          · exact hy
          · exact ih h x hx
    exact key l hp
  obtain ⟨ι2, g, f1, s1, z1⟩ := go_new (row := ⟨elem, lenL l, 0, false, [], Tr.ofList l⟩) (d := o) (sz := cs.size) hwx hN hB hge fun ι2 hs => ⟨cs, f, hh, ⟨by show o + lenL l ≤ cs.size; rw [lenL_eq]; omega, fun j x hj hx => by
      have hj : j < lenL l := hj
      rw [lenL_eq] at hj
      have hx := cell_ofList hj hx
      exact ⟨x, hcell j x hx, plain_self ι2 (hpl x (List.mem_of_getElem? hx))⟩, fun _ j h1 h2 h3 => absurd h3 (hfz j h1 h2), fun h => absurd rfl h⟩, hs⟩
  have hze : ι2.z elem = 1 := by rw [z1, hwx.z elem i (by rw [hP]; exact hi), hz]
  exact ⟨_, _, _, rfl, rfl, ι2, hwx.aft g, .sl _ _ _ _ _ _ _ hcap (.inr ⟨rfl, .inr ⟨_, _, s1, by rw [hze]; omega⟩⟩) (.inr ⟨o, f1, by omega⟩)⟩
end
end Go.Proofs.YthikcbbfnicnlaaGreatDoor.Ev
namespace Go.Proofs.YthikcbbfnicnlaaGreatDoor.Ev
open Go
set_option linter.unusedVariables false
set_option linter.unusedSimpArgs false
noncomputable def delC (H : AH) (elem : TypeId) (b o n i j : Nat) (c : Cs) : Option (Value × AH) :=
  bi (ba (not c.ro) (ba (Nat.beq c.fz 0) (Nat.beq c.elem elem))) (ob (c.from o i) fun l => ob (c.from (o + j) (n - j)) fun r => bi (allL one1 r) (some (newSl H (i + (n - j)) openCap, newRow (H.put b none) elem (l ++ r))) none) none
noncomputable def hDelete (elem : TypeId) : Hook := fun args H => ob (getL args 0) fun s => ob (getL args 1) fun iv => ob (getL args 2) fun jv => ob (vSl s) fun q => ob (vInt iv) fun pi => ob (iNat pi.2) fun i => ob (vInt jv) fun pj => ob (iNat pj.2) fun j =>
  bi (ba (Nat.beq (lenL args) 3) (ba (ikeq pi.1 .i64) (ba (ikeq pj.1 .i64) (ba (Nat.blt i j) (ba (Nat.ble j q.2.1) (ba (Nat.beq q.2.2 openCap) (roomy q.2.1 1))))))) (ob q.1 fun a => ob (place a) fun p => ob (H.cells p.1) fun c => delC H elem p.1 p.2 q.2.1 i j c) none
/-- What the library's text does, its append and its clear given. -/
structure DelLaw (P : Program) (f : FuncId) (st e : TypeId) (i : TypeInfo) (z : Value) : Prop where
  und : P.underlying st = some (.slice e)
  info : P.info? e = some i
  zero : i.zero = some z
  zsz : z.cells.toList = [z]
  z1 : one1 z = true
  size : i.size = 1
  del : ∀ (b off n c k j : Nat) (w W1 W2 : World), k < j → j ≤ n → n ≤ c → n ≤ 9223372036854775807 →
    (∀ ty a2 c2, (n - j = 0 ∨ a2 = ⟨b, off + j, none⟩) → (Builtin.append_ #[st, st] ty #[.slice (some ⟨b, off, none⟩) k c, .slice (some a2) (n - j) c2]).run P w.drew = .ok (.slice (some ⟨b, off, none⟩) (k + (n - j)) c) W1) →
    (∀ ty cc, (Builtin.clear_ #[st] ty #[.slice (some ⟨b, off + (k + (n - j)), none⟩) (j - k) cc]).run P W1 = .ok (.tuple #[]) W2) →
    Calls P f #[.slice (some ⟨b, off, none⟩) n c, .int .i64 k, .int .i64 j] w fun e w' => e = .returned (.slice (some ⟨b, off, none⟩) (k + (n - j)) c) ∧ w' = W2
theorem repL_one (z : Value) : ∀ n, repL n [z] = List.replicate n z
  | 0 => rfl
  | n + 1 => by rw [repL_succ, repL_one z n, List.replicate_succ]; rfl
section
variable {E : En}
theorem hDelete_ok {f : FuncId} {st elem : TypeId} {i : TypeInfo} {z : Value} (L : DelLaw E.P f st elem i z)
    {N : Nat} {ι : Ren} {H : AH} {w : World} {args : List Value} {args' : Array Value} {v : Value} {H' : AH} (hN : H'.next ≤ N) (hwx : Wx E N ι H w) (hargs : VRs ι args args'.toList) (h : hDelete elem args H = some (v, H')) : CallsIn Fence.wide 0 E.P f args' w (CallQ E N ι H w (.val v H')) := by
  obtain ⟨s, hs, k1⟩ := ob_some.1 h
  obtain ⟨iv, hiv, k2⟩ := ob_some.1 k1
  obtain ⟨jv, hjv, k3⟩ := ob_some.1 k2
  obtain ⟨q, hq, k4⟩ := ob_some.1 k3
  obtain ⟨pi, hpi, k5⟩ := ob_some.1 k4
  obtain ⟨m, hm, k6⟩ := ob_some.1 k5
  obtain ⟨pj, hpj, k7⟩ := ob_some.1 k6
  obtain ⟨j, hj, k8⟩ := ob_some.1 k7
  obtain ⟨k9, k10⟩ := bi_none.1 k8
  obtain ⟨a, ha, k11⟩ := ob_some.1 k10
  obtain ⟨p, hp, k12⟩ := ob_some.1 k11
  obtain ⟨c, hc, k17⟩ := ob_some.1 k12
  obtain ⟨c1, k9⟩ := ba_iff.1 k9
  obtain ⟨c2, k9⟩ := ba_iff.1 k9
  obtain ⟨c2', k9⟩ := ba_iff.1 k9
  obtain ⟨c3, k9⟩ := ba_iff.1 k9
  obtain ⟨c4, k9⟩ := ba_iff.1 k9
  obtain ⟨c5, c6⟩ := ba_iff.1 k9
  have c1 := beq_iff.1 c1
  rw [lenL_eq] at c1
  have c2 := ikeq_iff c2
  have c2' := ikeq_iff c2'
  have c3 := blt_iff.1 c3
  have c4 := ble_iff.1 c4
  have c5 := beq_iff.1 c5
  obtain ⟨r1, r2⟩ := roomy_iff c6
  have := vSl_some hq; subst this
  have := vInt_some hpi; subst this
  have := vInt_some hpj; subst this
  obtain ⟨kk, mm⟩ := pi
  obtain ⟨kj, mj⟩ := pj
  have c2 : kk = .i64 := c2
  have c2' : kj = .i64 := c2'
  have := iNat_some hm
  have this : mm = (m : Int) := this
  have this2 := iNat_some hj
  have this2 : mj = (j : Int) := this2
  subst c2 c2' this this2
  obtain ⟨qa, n, qc⟩ := q
  have c4 : j ≤ n := c4
  have c5 : qc = openCap := c5
  have r2 : n < 8796093022208 := r2
  have ha : qa = some a := ha
  subst c5 ha
  have := place_some hp
  obtain ⟨b, o⟩ := p
  have this : a = ⟨b, o, none⟩ := this
  subst this
  rw [getL_eq] at hs hiv hjv
  have hargs0 : args = [.slice (some ⟨b, o, none⟩) n openCap, .int .i64 (m : Int), .int .i64 (j : Int)] := by
    obtain ⟨x, y, z, rfl⟩ := len3 c1
    rw [Option.some.inj (show some x = some _ from hs), Option.some.inj (show some y = some _ from hiv), Option.some.inj (show some z = some _ from hjv)]
  subst hargs0
  obtain ⟨x, hargs', hx⟩ : ∃ x, args' = #[x, .int .i64 (m : Int), .int .i64 (j : Int)] ∧ VR ι (.slice (some ⟨b, o, none⟩) n openCap) x := by
    generalize hl : args'.toList = l at hargs
    cases hargs with
    | cons h1 h2 =>
      cases h2 with
      | cons h2 h3 =>
        cases h3 with
        | cons h3 h4 =>
          cases h4
          rw [h2.int_inv, h3.int_inv] at hl
          exact ⟨_, by rw [← Array.toList_inj, hl], h1⟩
  subst hargs'
  obtain ⟨d1, d2⟩ := bi_none.1 k17
  obtain ⟨d3, d1⟩ := ba_iff.1 d1
  obtain ⟨d4, d5⟩ := ba_iff.1 d1
  have d3 : c.ro = false := by simpa using d3
  have d4 := beq_iff.1 d4
  have d5 := beq_iff.1 d5
  obtain ⟨l, hl, d6⟩ := ob_some.1 d2
  obtain ⟨r, hr, d7⟩ := ob_some.1 d6
  obtain ⟨d8, d9⟩ := bi_none.1 d7
  cases d9
  show CallsIn Fence.wide 0 E.P f _ w (CallQ E N ι H w (.val (newSl H (m + (n - j)) openCap) (newRow (H.put b none) elem (l ++ r))))
  obtain ⟨g, d, hg, -⟩ := hwx.hr.blk _ _ (AH.cells_some hc)
  obtain ⟨cs, fz, hh, hcs, hss⟩ := hwx.hr.cells hc hg
  have hze : ι.z c.elem = 1 := by rw [d5, hwx.z elem i L.info]; exact L.size
  obtain ⟨c', o', hxe, hlc, hcap, ho'⟩ : ∃ c' o', x = .slice (some ⟨g, o', none⟩) n c' ∧ n ≤ c' ∧ o' + c' ≤ cs.size ∧ o' = o + d := by
    rcases hx.sl_inv with ⟨h0, -⟩ | ⟨b0, o0, b', o', c', e7, rfl, hlc, hcc, had⟩
    · cases h0
    · cases e7
      rcases had with h0 | ⟨d', h1, h2⟩
      · omega
      · rw [hg] at h1
        cases h1
        refine ⟨c', o', rfl, hlc, ?_, h2⟩
        rcases hcc with ⟨-, h3⟩ | ⟨-, h3⟩
        · exact absurd rfl h3
        · rcases h3 with h3 | ⟨sz, ee, h3, h4⟩
          · omega
          · rw [hss] at h3
            cases h3
            rw [hze, Nat.mul_one] at h4
            exact h4
  subst hxe
  have hl : c.from o m = some l := hl
  have hr : c.from (o + j) (n - j) = some r := hr
  obtain ⟨l1, l2, l', l3, l4⟩ := hcs.from hl
  obtain ⟨m1, m2, r', m3, m4⟩ := hcs.from hr
  have hlr : r'.length = n - j := by rw [← m3.length, m1]
  have hll : l'.length = m := by rw [← l3.length, l1]
  have hfrz : ∀ j, o' ≤ j → j < cs.size → ¬ (fz.1 ≤ j ∧ j < fz.2) := fun j h1 h2 h3 => by
    have := hcs.frz d3 j h2 h3.1 h3.2
    omega
  have hnone : ι.f H.next = none := hwx.fresh H.next (Nat.le_refl _) (Nat.lt_of_lt_of_le (Nat.lt_succ_self _) hN)
  have hro1 := one1_VRs m3 d8
  -- the append
  obtain ⟨W1, cs1, s1, s2, s3, s4, s5⟩ := storeCells_run (P := E.P) (c := g) (off := o' + m * i.size) r' 0 w.drew cs hh (by rw [L.size]; omega) (fun j h1 h2 => hfrz j (by rw [L.size] at h1; omega) (by rw [L.size] at h2; omega)) hro1
  -- the clear
  have hZ : ∀ x ∈ List.replicate (j - m) z, one1 x = true := fun x hx => by rw [List.eq_of_mem_replicate hx]; exact L.z1
  obtain ⟨W2, cs2, t1, t2, t3, t4, t5⟩ := storeCells_run (P := E.P) (c := g) (off := o' + (m + (n - j))) (List.replicate (j - m) z) 0 W1 cs1 s3 (by rw [List.length_replicate]; omega) (fun j h1 h2 => hfrz j (by omega) (by rw [List.length_replicate] at h2; omega)) hZ
  have hld : ∀ a2, (n - j = 0 ∨ a2 = ⟨g, o' + j, none⟩) → (Builtin.firstCells i.size (n - j) (.slice (some a2) (n - j) 0)).run E.P w.drew = .ok ⟨r'⟩ w.drew := by
    intro a2 h2
    rcases h2 with h0 | h0
    · have : r' = [] := List.eq_nil_of_length_eq_zero (by omega)
      subst this
      rw [h0]
      simp only [Builtin.firstCells, Nat.zero_mul]; rfl
    · subst h0
      have := r_loadCells (P := E.P) (w := w.drew) (o := o' + j) hh r' (fun t v ht => (aget (by omega)).trans (m4 t v ht))
      rw [hlr] at this
      show (loadCells ⟨g, o' + j, none⟩ ((n - j) * i.size)).run E.P w.drew = _
      rw [L.size, Nat.mul_one]
      exact this
  have hcall := L.del g o' n c' m j w W1 W2 c3 c4 hlc (by omega)
    (fun ty a2 c2 h2 => append_room L.und L.und rfl L.info (x := .slice (some a2) (n - j) c2) rfl (hld a2 h2) (by omega) s1)
    (fun ty cc => by
      have hne : j - m ≠ 0 := by omega
      have hz0 : (Builtin.zeroCells z.cells (j - m)).toList = List.replicate (j - m) z := by
        have hzc : z.cells = #[z] := by rw [← Array.toList_inj]; exact L.zsz
        rw [zeroCells_eq z (j - m) (by rw [hzc]; exact Nat.zero_lt_one), L.zsz]
        exact repL_one z (j - m)
      cases hq : j - m with
      | zero => exact absurd hq hne
      | succ y =>
        rw [hq] at hz0 t1
        simp only [Builtin.clear_, List.getElem?_toArray, List.getElem?_cons_zero, Sem.run_bind, run_underlying L.und, Result.andThen_ok, r_zero L.info L.zero, hz0, t1, Sem.run_pure])
  refine CallsIn.mono (callsIn_wide.2 hcall) ?_
  rintro e w' ⟨rfl, rfl⟩
  have hW : Wr g w w' := (show Wr g w w.drew from ⟨rfl, rfl, rfl, rfl, fun _ _ => rfl⟩).trans (s2.trans t2)
  have he := updR_ext (c := g) (d := o') hnone
  have hlen : lenL (l ++ r) = m + (n - j) := by rw [lenL_eq, List.length_append, l1, m1]
  refine ⟨_, _, .slice (some ⟨g, o', none⟩) (m + (n - j)) c', rfl, rfl, updR ι H.next g o', hwx.aft ?_, .sl _ _ _ _ _ _ _ (by omega) (.inr ⟨rfl, .inr ⟨cs.size, c.elem, he.s _ _ hss, ?_⟩⟩) (.inr ⟨o', updR_same _ _ _ _, by omega⟩)⟩
  · unfold newRow
    rw [AH.new_get, AH.put_get]
    refine Go.move hwx.hr hwx.bnd hnone (AH.cells_some hc) d3 hg hW rfl ⟨cs2, fz, by rw [← d5]; exact t3, ⟨?_, ?_, fun _ t h1 h2 h3 => ?_, fun h => absurd rfl h⟩, by rw [t4, s4, ← d5]; exact he.s _ _ hss⟩
    · show o' + lenL (l ++ r) ≤ cs2.size
      rw [hlen, t4, s4]; omega
    · refine ofList_cells (fun t x ht => ?_)
      by_cases g1 : t < l.length
      · rw [List.getElem?_append_left g1] at ht
        obtain ⟨y, hy, hrel⟩ := l3.get ht
        refine ⟨y, ?_, hrel.mono he⟩
        rw [t5, if_neg (by omega), s5, if_neg (by rw [L.size]; omega)]
        exact (aget (by omega)).trans (l4 t y hy)
      · rw [List.getElem?_append_right (by omega)] at ht
        obtain ⟨y, hy, hrel⟩ := m3.get ht
        have hlt := (List.getElem?_eq_some_iff.1 hy).1
        refine ⟨y, ?_, hrel.mono he⟩
        rw [t5, if_neg (by omega), s5, if_pos (by rw [L.size]; omega)]
        rw [← hy]
        exact lget (by rw [L.size]; omega)
    · rw [t4, s4] at h1
      have := hcs.frz d3 t h1 h2 h3
      show t < o' + 0
      omega
  · rw [(show (updR ι H.next g o').z = ι.z from rfl), hze, Nat.mul_one]; exact hcap
theorem hDelete_nn {elem : TypeId} {args : List Value} {H H' : AH} {v : Value} (h : hDelete elem args H = some (v, H')) : H.next ≤ H'.next := by
  obtain ⟨s, hs, k1⟩ := ob_some.1 h
  obtain ⟨iv, hiv, k2⟩ := ob_some.1 k1
  obtain ⟨jv, hjv, k3⟩ := ob_some.1 k2
  obtain ⟨q, hq, k4⟩ := ob_some.1 k3
  obtain ⟨pi, hpi, k5⟩ := ob_some.1 k4
  obtain ⟨m, hm, k6⟩ := ob_some.1 k5
  obtain ⟨pj, hpj, k7⟩ := ob_some.1 k6
  obtain ⟨j, hj, k8⟩ := ob_some.1 k7
  obtain ⟨k9, k10⟩ := bi_none.1 k8
  obtain ⟨a, ha, k11⟩ := ob_some.1 k10
  obtain ⟨p, hp, k12⟩ := ob_some.1 k11
  obtain ⟨c, hc, k17⟩ := ob_some.1 k12
  obtain ⟨d1, d2⟩ := bi_none.1 k17
  obtain ⟨l, hl, d6⟩ := ob_some.1 d2
  obtain ⟨r, hr, d7⟩ := ob_some.1 d6
  obtain ⟨d8, d9⟩ := bi_none.1 d7
  cases d9
  exact Nat.le_succ _
end
end Go.Proofs.YthikcbbfnicnlaaGreatDoor.Ev
namespace Go.Proofs.YthikcbbfnicnlaaGreatDoor.Ev
open Go
set_option linter.unusedVariables false
set_option linter.unusedSimpArgs false
noncomputable def trEq (t : Tr Value) : Tr Value → Bool :=
  Tr.rec (motive := fun _ => Tr Value → Bool) (fun u => Tr.rec (motive := fun _ => Bool) true (fun _ _ _ _ _ => false) u)
    (fun _ v _ gl gr u => Tr.rec (motive := fun _ => Bool) false (fun l x r _ _ => ba (eqO (veq 6) v x) (ba (gl l) (gr r))) u) t
theorem trEq_ok : ∀ (t u : Tr Value), trEq t u = true → t = u
  | .nil, .nil, _ => rfl
  | .nil, .node .., h => nomatch (show false = true from h)
  | .node .., .nil, h => nomatch (show false = true from h)
  | .node l v r, .node l' v' r', h => by
    obtain ⟨h1, h⟩ := ba_iff.1 (show ba (eqO (veq 6) v v') (ba (trEq l l') (trEq r r')) = true from h)
    obtain ⟨h2, h3⟩ := ba_iff.1 h
    have h1 := eqO_ok (veq_ok 6) h1
    have h2 := trEq_ok l l' h2
    have h3 := trEq_ok r r' h3
    subst h1 h2 h3
    rfl
noncomputable def enEq (p q : Value × Value × Nat) : Bool := ba (veq 6 p.1 q.1) (ba (veq 6 p.2.1 q.2.1) (Nat.beq p.2.2 q.2.2))
theorem enEq_ok (p q : Value × Value × Nat) (h : enEq p q = true) : p = q := by
  obtain ⟨h1, h⟩ := ba_iff.1 h
  obtain ⟨h2, h3⟩ := ba_iff.1 h
  have h1 := veq_ok 6 _ _ h1
  have h2 := veq_ok 6 _ _ h2
  have h3 := beq_iff.1 h3
  obtain ⟨a, b, c⟩ := p
  obtain ⟨a', b', c'⟩ := q
  have h1 : a = a' := h1
  have h2 : b = b' := h2
  have h3 : c = c' := h3
  subst h1 h2 h3
  rfl
/-- Two blocks, both rows or both maps, are the same. -/
noncomputable def bkEq (k : Blk) (u : Blk) : Bool := Blk.rec (motive := fun _ => Bool)
  (fun e n fz ro d t => oc (bCells u) false fun c => ba (Nat.beq e c.elem) (ba (Nat.beq n c.n) (ba (Nat.beq fz c.fz) (ba (bi ro c.ro (not c.ro)) (ba (eqAll (veq 6) d c.dflt) (trEq t c.t))))))
  (fun _ => false) (fun es c => oc (bMap u) false fun m => ba (Nat.beq c m.2) (eqAll enEq es m.1)) (fun _ _ _ _ _ _ _ _ _ => false) k
theorem bkEq_ok (k u : Blk) (h : bkEq k u = true) : k = u := by
  cases k with
  | cells e n fz ro d t =>
    obtain ⟨c, hc, h⟩ := ocB (show oc (bCells u) false (fun c => ba (Nat.beq e c.elem) (ba (Nat.beq n c.n) (ba (Nat.beq fz c.fz) (ba (bi ro c.ro (not c.ro)) (ba (eqAll (veq 6) d c.dflt) (trEq t c.t)))))) = true from h)
    cases u with
    | cells e' n' fz' ro' d' t' =>
      cases (show some (⟨e', n', fz', ro', d', t'⟩ : Cs) = some c from hc)
      obtain ⟨h1, h⟩ := ba_iff.1 h
      obtain ⟨h2, h⟩ := ba_iff.1 h
      obtain ⟨h3, h⟩ := ba_iff.1 h
      obtain ⟨h4, h⟩ := ba_iff.1 h
      obtain ⟨h5, h6⟩ := ba_iff.1 h
      have z1 : e = e' := beq_iff.1 h1
      have z2 : n = n' := beq_iff.1 h2
      have z3 : fz = fz' := beq_iff.1 h3
      have z4 : ro = ro' := by
        have h4 : bi ro ro' (not ro') = true := h4
        cases ro <;> cases ro' <;> first | rfl | exact Bool.noConfusion h4
      have z5 : d = d' := eqAll_ok (veq_ok 6) h5
      have z6 : t = t' := trEq_ok _ _ h6
      clear h1 h2 h3 h4 h5 h6 h hc
      subst z1 z2 z3 z4 z5 z6
      rfl
    | _ => exact nomatch (show (none : Option Cs) = some c from hc)
  | map es c =>
    obtain ⟨m, hm, h⟩ := ocB (show oc (bMap u) false (fun m => ba (Nat.beq c m.2) (eqAll enEq es m.1)) = true from h)
    cases u with
    | map es' c' =>
      cases (show some (es', c') = some m from hm)
      obtain ⟨h1, h2⟩ := ba_iff.1 h
      have z1 : c = c' := beq_iff.1 h1
      have z2 : es = es' := eqAll_ok enEq_ok h2
      clear h1 h2 h hm
      subst z1 z2
      rfl
    | _ => exact nomatch (show (none : Option (List (Value × Value × Nat) × Nat)) = some m from hm)
  | obj o => exact nomatch (show false = true from h)
  | loop => exact nomatch (show false = true from h)
/-- keep: what is read and stays; sub: what is written or dies; out: what of these there is behind the call, and what is new. -/
structure Mem2 where
  f : FuncId
  next : Nat
  args : List Value
  keep : List (Nat × Blk)
  sub : List (Nat × Blk)
  v : Value
  next' : Nat
  out : List (Nat × Blk)
noncomputable def putB (l : List (Nat × Blk)) (H : AH) : AH := List.rec (motive := fun _ => AH) H (fun p _ H => H.put p.1 (some p.2)) l
noncomputable def killB (l : List (Nat × Blk)) (H : AH) : AH := List.rec (motive := fun _ => AH) H (fun p _ H => H.put p.1 none) l
noncomputable def hasB (H : AH) (l : List (Nat × Blk)) : Bool := List.rec (motive := fun _ => Bool) true (fun p _ r => bi (oc (H.get p.1) false fun k => bkEq k p.2) r false) l
noncomputable def mem2H (m : Mem2) (H : AH) : AH := ⟨m.next', (putB m.out (killB m.sub H)).t⟩
noncomputable def hMem2 (m : Mem2) : Hook := fun args H => bi (ba (Nat.beq H.next m.next) (ba (eqAll (veq 6) m.args args) (ba (hasB H m.keep) (hasB H m.sub)))) (some (m.v, mem2H m H)) none
noncomputable def mem2Chk (E : En) (n : Nat) (m : Mem2) : Bool := oc (ev E n (.call (.enter m.f m.args)) (putB m.keep (putB m.sub ⟨m.next, .nil⟩))) false fun r => oc (rVal r) false fun q => ba (veq 6 m.v q.1) (ba (Nat.beq q.2.next m.next') (ba (hasB q.2 m.keep) (hasB q.2 m.out)))
def lkB : List (Nat × Blk) → Nat → Option Blk
  | [], _ => none
  | p :: l, b => if b = p.1 then some p.2 else lkB l b
theorem lkB_mem : ∀ {l : List (Nat × Blk)} {b : Nat} {c : Blk}, lkB l b = some c → (b, c) ∈ l
  | [], b, c, h => nomatch h
  | p :: l, b, c, h => by
    unfold lkB at h
    split at h
    · rename_i e
      cases h
      subst e
      exact List.mem_cons_self ..
    · exact List.mem_cons_of_mem _ (lkB_mem h)
theorem putB_get (H : AH) : ∀ (l : List (Nat × Blk)) (b : Nat), (putB l H).get b = match lkB l b with | some c => some c | none => H.get b
  | [], b => rfl
  | p :: l, b => by
    show ((putB l H).put p.1 (some p.2)).get b = _
    rw [AH.put_get]
    unfold upd lkB
    split
    · rfl
    · exact putB_get H l b
theorem killB_get (H : AH) : ∀ (l : List (Nat × Blk)) (b : Nat), (killB l H).get b = match lkB l b with | some _ => none | none => H.get b
  | [], b => rfl
  | p :: l, b => by
    show ((killB l H).put p.1 none).get b = _
    rw [AH.put_get]
    unfold upd lkB
    split
    · rfl
    · exact killB_get H l b
theorem putB_next (H : AH) : ∀ (l : List (Nat × Blk)), (putB l H).next = H.next
  | [] => rfl
  | p :: l => putB_next H l
theorem hasB_iff {H : AH} : ∀ {l : List (Nat × Blk)}, hasB H l = true → ∀ p ∈ l, H.get p.1 = some p.2
  | [], _, p, hp => nomatch hp
  | q :: l, h, p, hp => by
    have h : bi (oc (H.get q.1) false fun k => bkEq k q.2) (hasB H l) false = true := h
    cases hf : (oc (H.get q.1) false fun k => bkEq k q.2) with
    | false => rw [hf] at h; cases h
    | true =>
      rw [hf] at h
      rcases List.mem_cons.1 hp with rfl | hp
      · obtain ⟨k, h1, h2⟩ := ocB hf
        rw [h1, bkEq_ok _ _ h2]
      · exact hasB_iff h p hp
/-- A call that stage E1 has run on what it touches is a hook of stage E2. -/
theorem hMem2_ok {E1 E2 : En} (hP : E2.P = E1.P) (hg : E2.g = E1.g) (hw : E2.w0 = E1.w0) (hR : E2.roB = E1.roB) (hmix : E1.P.follows .mixedOrders = true) (hx : HxOk E1) (hxn : HxNN E1) (he : HeOk E1) (hen : HeNN E1) {n : Nat} {m : Mem2} (hchk : mem2Chk E1 n m = true)
    {N : Nat} {ι : Ren} {H : AH} {w : World} {args : List Value} {args' : Array Value} {v : Value} {H' : AH} (hN : H'.next ≤ N) (hwx : Wx E2 N ι H w) (hargs : VRs ι args args'.toList) (h : hMem2 m args H = some (v, H')) : CallsIn Fence.wide 0 E2.P m.f args' w (CallQ E2 N ι H w (.val v H')) := by
  obtain ⟨k1, k2⟩ := bi_none.1 h
  cases k2
  obtain ⟨k5, k4⟩ := ba_iff.1 k1
  obtain ⟨k3, k6⟩ := ba_iff.1 k4
  obtain ⟨k7, k8⟩ := ba_iff.1 k6
  have k3 := eqAll_ok (veq_ok 6) k3
  subst k3
  have k5 := beq_iff.1 k5
  have k7 := hasB_iff k7
  have k8 := hasB_iff k8
  obtain ⟨r, hr, q1⟩ : ∃ r, ev E1 n (.call (.enter m.f m.args)) (putB m.keep (putB m.sub ⟨m.next, .nil⟩)) = some r ∧ (oc (rVal r) false fun q => ba (veq 6 m.v q.1) (ba (Nat.beq q.2.next m.next') (ba (hasB q.2 m.keep) (hasB q.2 m.out)))) = true := ocB hchk
  obtain ⟨q, hq, q2⟩ : ∃ q, rVal r = some q ∧ ba (veq 6 m.v q.1) (ba (Nat.beq q.2.next m.next') (ba (hasB q.2 m.keep) (hasB q.2 m.out))) = true := ocB q1
  have := rVal_some hq
  subst this
  obtain ⟨q3, q2⟩ := ba_iff.1 q2
  obtain ⟨q4, q2⟩ := ba_iff.1 q2
  obtain ⟨q6, q5⟩ := ba_iff.1 q2
  have q3 := veq_ok 6 _ _ q3
  have q4 := beq_iff.1 q4
  have q5 := hasB_iff q5
  have q6 := hasB_iff q6
  obtain ⟨qv, Hs'⟩ := q
  have q3 : m.v = qv := q3
  have q4 : Hs'.next = m.next' := q4
  have q5 : ∀ p ∈ m.out, Hs'.get p.1 = some p.2 := q5
  have q6 : ∀ p ∈ m.keep, Hs'.get p.1 = some p.2 := q6
  have hr : ev E1 n (.call (.enter m.f m.args)) (putB m.keep (putB m.sub ⟨m.next, .nil⟩)) = some (.val qv Hs') := hr
  subst q3
  -- the part
  obtain ⟨Hs, hHs⟩ : ∃ Hs, Hs = putB m.keep (putB m.sub ⟨m.next, .nil⟩) := ⟨_, rfl⟩
  have hHn : Hs.next = H.next := by rw [hHs, putB_next, putB_next, k5]
  have hHg : ∀ b, Hs.get b = match lkB m.keep b with | some c => some c | none => match lkB m.sub b with | some c => some c | none => none := fun b => by
    rw [hHs, putB_get]
    cases lkB m.keep b with
    | some c => rfl
    | none =>
      show (putB m.sub ⟨m.next, .nil⟩).get b = _
      rw [putB_get]
      cases lkB m.sub b with
      | some c => rfl
      | none => exact Tr.get_nil b
  have hsub : ∀ b k, Hs.get b = some k → H.get b = some k := fun b k hk => by
    rw [hHg] at hk
    cases hl : lkB m.keep b with
    | some c =>
      rw [hl] at hk
      cases hk
      exact k7 _ (lkB_mem hl)
    | none =>
      rw [hl] at hk
      cases hl2 : lkB m.sub b with
      | some c =>
        rw [hl2] at hk
        cases hk
        exact k8 _ (lkB_mem hl2)
      | none => rw [hl2] at hk; cases hk
  have hwxs : Wx E1 N ι Hs w := ⟨⟨fun b k hk => hwx.hr.blk b k (hsub b k hk), fun b1 b2 c1 c2 c d1 d2 h1 h2 => hwx.hr.inj b1 b2 c1 c2 c d1 d2 (hsub _ _ h1) (hsub _ _ h2), hwx.hr.slt⟩,
    fun b k hk => by
      have := hwx.bnd b k (hsub b k hk)
      rw [hHn]; exact this,
    fun k hk => hwx.gl k (by rw [hg]; exact hk), fun t i hi => hwx.z t i (by rw [hP]; exact hi), fun b hb hbN => hwx.fresh b (by rw [← hHn]; exact hb) hbN,
    by
      have := hwx.base.sub hsub
      exact ⟨by rw [← hR]; exact this.le, fun c hc => by rw [← hw]; exact this.same c (by rw [hR]; exact hc), fun c hc => this.nown c (by rw [hR]; exact hc)⟩⟩
  rw [← hHs] at hr
  have hrun := (ev_ok hmix hx hxn he hen n).ok _ _ _ hr N (by show Hs'.next ≤ N; rw [q4]; exact hN) ι w args' hwxs hargs
  rw [hP]
  refine CallsIn.mono hrun ?_
  rintro e w' ⟨v1, H1, v', e1, rfl, ι', haft, hvr⟩
  cases e1
  refine ⟨m.v, mem2H m H, v', rfl, rfl, ι', hwx.aft ?_, hvr⟩
  have gw := Go.widen hwx.hr (Go.later hwx.hr hwx.bnd (m := Hs'.next) (by rw [← hHn]; exact haft.go.nn)) haft.go hsub (by rw [hHn]; exact Nat.le_refl _) (Nat.le_refl _) fun b k hk _ => .inl (by
    have := hwx.bnd b k hk
    rw [hHn]; exact this)
  have g2 : Go ι' (beside Hs'.get Hs.get H.get) Hs'.next w' ι' (mem2H m H).get Hs'.next w' := Go.recast gw.hr gw.bnd fun b k2 hk => by
    have hk : (putB m.out (killB m.sub H)).get b = some k2 := hk
    rw [putB_get, killB_get] at hk
    refine ⟨k2, ?_, rfl, fun _ _ h => h⟩
    cases hl : lkB m.out b with
    | some c =>
      rw [hl] at hk
      cases hk
      exact beside_iff.2 (.inl (q5 _ (lkB_mem hl)))
    | none =>
      rw [hl] at hk
      cases hl2 : lkB m.sub b with
      | some c => rw [hl2] at hk; cases hk
      | none =>
        rw [hl2] at hk
        have hk : H.get b = some k2 := hk
        cases hl3 : lkB m.keep b with
        | some c =>
          have h1 := k7 _ (lkB_mem hl3)
          have h2 := q6 _ (lkB_mem hl3)
          have h1 : H.get b = some c := h1
          rw [hk] at h1
          cases h1
          exact beside_iff.2 (.inl h2)
        | none =>
          have hHb : Hs.get b = none := by rw [hHg, hl3, hl2]
          refine beside_iff.2 (.inr ⟨?_, hHb, hk⟩)
          cases e : Hs'.get b with
          | none => rfl
          | some k1 =>
            have hbn := hwx.bnd b k2 hk
            obtain ⟨k3, e3, -⟩ := haft.go.old b k1 (by rw [hHn]; exact hbn) e
            rw [hHb] at e3; cases e3
  have g3 := gw.trans hwx.hr g2
  show Go ι H.get H.next w ι' (mem2H m H).get (mem2H m H).next w'
  rw [show (mem2H m H).next = Hs'.next from q4.symm]
  exact g3
theorem hMem2_nn {m : Mem2} (hm : m.next ≤ m.next') {args : List Value} {H H' : AH} {v : Value} (h : hMem2 m args H = some (v, H')) : H.next ≤ H'.next := by
  obtain ⟨k1, k2⟩ := bi_none.1 h
  cases k2
  obtain ⟨k5, -⟩ := ba_iff.1 k1
  have k5 := beq_iff.1 k5
  rw [k5]
  exact hm
end Go.Proofs.YthikcbbfnicnlaaGreatDoor.Ev
namespace Go.Proofs.YthikcbbfnicnlaaGreatDoor.Ev
open Go
set_option linter.unusedVariables false
set_option linter.unusedSimpArgs false
structure EnOk (E : En) : Prop where
  mix : E.P.follows .mixedOrders = true
  hx : HxOk E
  hxn : HxNN E
  he : HeOk E
  hen : HeNN E
noncomputable def heOf (E : En) (f : FuncId) (args : List Value) (H : AH) : Option (Value × AH) := oc (E.he f) none fun h => h args H
noncomputable def mem2F (l : List Mem2) (f : FuncId) : Hook := List.rec (motive := fun _ => Hook) (fun _ _ => none) (fun m _ g args H => bi (Nat.beq m.f f) (oc (hMem2 m args H) (g args H) fun p => some p) (g args H)) l
noncomputable def En.mems (E : En) (l : List Mem2) : En := ⟨E.P, E.g, fun f => some fun args H => oc (mem2F l f args H) (heOf E f args H) fun p => some p, E.hx, E.w0, E.roB⟩
noncomputable def En.news (E : En) (l : List Fresh) : En := ⟨E.P, E.g, fun f => some fun args H => oc (freshF l f args H) (heOf E f args H) fun p => some p, E.hx, E.w0, E.roB⟩
theorem mem2F_some : ∀ {l : List Mem2} {f : FuncId} {args : List Value} {H H' : AH} {v : Value}, mem2F l f args H = some (v, H') → ∃ m ∈ l, m.f = f ∧ hMem2 m args H = some (v, H')
  | [], f, args, H, H', v, h => nomatch (show (none : Option (Value × AH)) = some (v, H') from h)
  | m :: l, f, args, H, H', v, h => by
    rcases bi_or.1 (show bi (Nat.beq m.f f) (oc (hMem2 m args H) (mem2F l f args H) fun p => some p) (mem2F l f args H) = some (v, H') from h) with ⟨h0, h⟩ | ⟨-, h⟩
    · rcases oc_some.1 h with ⟨-, h1⟩ | ⟨p, h1, h2⟩
      · obtain ⟨m', hm, h3⟩ := mem2F_some h1
        exact ⟨m', List.mem_cons_of_mem _ hm, h3⟩
      · cases h2
        exact ⟨m, List.mem_cons_self .., beq_iff.1 h0, h1⟩
    · obtain ⟨m', hm, h3⟩ := mem2F_some h
      exact ⟨m', List.mem_cons_of_mem _ hm, h3⟩
theorem heOf_some {E : En} {f : FuncId} {args : List Value} {H : AH} {p : Value × AH} (h : heOf E f args H = some p) : ∃ g, E.he f = some g ∧ g args H = some p := by
  rcases oc_some.1 (show oc (E.he f) none (fun h => h args H) = some p from h) with ⟨-, h1⟩ | ⟨g, h1, h2⟩
  · cases h1
  · exact ⟨g, h1, h2⟩
/-- What a memo needs. -/
structure MemOk (E : En) (m : Mem2) : Prop where
  le : m.next ≤ m.next'
  run : ∃ n, mem2Chk E n m = true
theorem EnOk.mems {E : En} (hE : EnOk E) {l : List Mem2} (hl : ∀ m ∈ l, MemOk E m) : EnOk (E.mems l) where
  mix := hE.mix
  hx := hE.hx.like (E1 := E) (E2 := E.mems l) rfl rfl rfl
  hxn := hE.hxn
  he := fun f h hf N ι H w args args' v H' hN hwx hargs hr => by
    cases (show some _ = some h from hf)
    have lk : Like (E.mems l) E := ⟨rfl, rfl, rfl, rfl⟩
    rcases oc_some.1 (show oc (mem2F l f args H) (heOf E f args H) (fun p => some p) = some (v, H') from hr) with ⟨-, h1⟩ | ⟨p, h1, h2⟩
    · obtain ⟨g, h2, h3⟩ := heOf_some h1
      exact CallsIn.mono (hE.he f g h2 N ι H w args args' v H' hN (hwx.like lk) hargs h3) fun e w' q => q.like lk.symm
    · cases h2
      obtain ⟨m, hm, rfl, h3⟩ := mem2F_some h1
      obtain ⟨n, hc⟩ := (hl m hm).run
      exact hMem2_ok (E1 := E) (E2 := E.mems l) rfl rfl rfl rfl hE.mix hE.hx hE.hxn hE.he hE.hen hc hN hwx hargs h3
  hen := fun f h hf args H v H' hr => by
    cases (show some _ = some h from hf)
    rcases oc_some.1 (show oc (mem2F l f args H) (heOf E f args H) (fun p => some p) = some (v, H') from hr) with ⟨-, h1⟩ | ⟨p, h1, h2⟩
    · obtain ⟨g, h2, h3⟩ := heOf_some h1
      exact hE.hen f g h2 args H v H' h3
    · cases h2
      obtain ⟨m, hm, rfl, h3⟩ := mem2F_some h1
      exact hMem2_nn (hl m hm).le h3
theorem EnOk.news {E : En} (hE : EnOk E) {ι0 : Ren} {H0 : AH} (hs : StartOk E ι0 H0) {l : List Fresh} (hl : ∀ m ∈ l, ∃ n, freshChk E n H0 m = true) : EnOk (E.news l) where
  mix := hE.mix
  hx := hE.hx.like (E1 := E) (E2 := E.news l) rfl rfl rfl
  hxn := hE.hxn
  he := fun f h hf N ι H w args args' v H' hN hwx hargs hr => by
    cases (show some _ = some h from hf)
    have lk : Like (E.news l) E := ⟨rfl, rfl, rfl, rfl⟩
    rcases oc_some.1 (show oc (freshF l f args H) (heOf E f args H) (fun p => some p) = some (v, H') from hr) with ⟨-, h1⟩ | ⟨p, h1, h2⟩
    · obtain ⟨g, h2, h3⟩ := heOf_some h1
      exact CallsIn.mono (hE.he f g h2 N ι H w args args' v H' hN (hwx.like lk) hargs h3) fun e w' q => q.like lk.symm
    · cases h2
      obtain ⟨m, hm, rfl, h3⟩ := freshF_some h1
      obtain ⟨n, hc⟩ := hl m hm
      exact hFresh_ok (E1 := E) (E2 := E.news l) hs rfl rfl rfl hE.mix hE.hx hE.hxn hE.he hE.hen hc hN hwx hargs h3
  hen := fun f h hf args H v H' hr => by
    cases (show some _ = some h from hf)
    rcases oc_some.1 (show oc (freshF l f args H) (heOf E f args H) (fun p => some p) = some (v, H') from hr) with ⟨-, h1⟩ | ⟨p, h1, h2⟩
    · obtain ⟨g, h2, h3⟩ := heOf_some h1
      exact hE.hen f g h2 args H v H' h3
    · cases h2
      obtain ⟨m, hm, rfl, h3⟩ := freshF_some h1
      exact hFresh_nn h3
theorem StartOk.mems {E : En} {ι0 : Ren} {H0 : AH} (hs : StartOk E ι0 H0) (l : List Mem2) : StartOk (E.mems l) ι0 H0 := hs.like (E1 := E) (E2 := E.mems l) ⟨rfl, rfl, rfl, rfl⟩
theorem StartOk.news {E : En} {ι0 : Ren} {H0 : AH} (hs : StartOk E ι0 H0) (l : List Fresh) : StartOk (E.news l) ι0 H0 := hs.like (E1 := E) (E2 := E.news l) ⟨rfl, rfl, rfl, rfl⟩
/-- The whole: a call that a stage has run from the start. -/
theorem EnOk.law {E : En} (hE : EnOk E) {ι0 : Ren} {H0 : AH} (hs : StartOk E ι0 H0) (hR : E.roB ≤ E.w0.heap.size) {n : Nat} {f : FuncId} {v : Value} (hev : lawChk E n f H0 v = true) (hv : plain v = true) :
    Calls E.P f #[] E.w0 fun e w' => e = .returned v ∧ RowKit.Below E.w0.heap.size E.w0 w' := by
  obtain ⟨H', h⟩ := lawChk_ok hev
  exact ev_calls (E := E) hE.mix hE.hx hE.hxn hE.he hE.hen h (hs.wx E.w0 _ hR fun _ _ => rfl) .nil hs.nown hv
end Go.Proofs.YthikcbbfnicnlaaGreatDoor.Ev
namespace Go.Proofs.YthikcbbfnicnlaaGreatDoor.Ev
open Go
set_option linter.unusedVariables false
set_option linter.unusedSimpArgs false
noncomputable def u8Of (v : Value) : Option Nat := ob (vInt v) fun p => ob (iNat p.2) fun n => bi (ba (ikeq p.1 .u8) (Nat.blt n 256)) (some n) none
theorem u8Of_some {v : Value} {n : Nat} (h : u8Of v = some n) : v = .int .u8 (n : Int) ∧ n < 256 := by
  obtain ⟨p, hp, h⟩ := ob_some.1 h
  obtain ⟨m, hm, h⟩ := ob_some.1 h
  obtain ⟨h1, h2⟩ := bi_none.1 h
  cases h2
  obtain ⟨h3, h4⟩ := ba_iff.1 h1
  have := vInt_some hp
  subst this
  have h3 := ikeq_iff h3
  have hm := iNat_some hm
  obtain ⟨k, i⟩ := p
  have h3 : k = .u8 := h3
  have hm : i = (n : Int) := hm
  subst h3 hm
  exact ⟨rfl, blt_iff.1 h4⟩
noncomputable def rowB (H : AH) (v : Value) : Option (List Nat) := ob (vSl v) fun q => bi (Nat.blt q.2.1 1099511627776) (bi (Nat.beq q.2.1 0) (some []) (ob q.1 fun a => ob (place a) fun p => ob (H.cells p.1) fun c => ob (c.from p.2 q.2.1) fun l => mapO u8Of l)) none
/-- A slice of bytes. -/
structure ByteRow (w : World) (v : Value) (bs : List Nat) : Prop where
  small : bs.length < 1099511627776
  byte : ∀ b ∈ bs, b < 256
  at' : ∃ a cap, v = .slice a bs.length cap ∧ (bs = [] ∨ ∃ b o, a = some ⟨b, o, none⟩ ∧ bs.length ≤ cap ∧ ∀ i, i < bs.length → w.cell? ⟨b, o + i, none⟩ = some (.int .u8 ((bs[i]?.getD 0 : Nat) : Int)))
theorem mapO_u8 : ∀ {l : List Value} {bs : List Nat}, mapO u8Of l = some bs → l = bs.map (fun (n : Nat) => .int .u8 (n : Int)) ∧ ∀ b ∈ bs, b < 256
  | [], bs, h => by cases (show some [] = some bs from h); exact ⟨rfl, fun _ h => nomatch h⟩
  | x :: l, bs, h => by
    obtain ⟨n, hn, h⟩ := ob_some.1 (show ob (u8Of x) (fun v => ob (mapO u8Of l) fun t => some (v :: t)) = some bs from h)
    obtain ⟨r, hr, h⟩ := ob_some.1 h
    cases h
    obtain ⟨h1, h2⟩ := u8Of_some hn
    obtain ⟨h3, h4⟩ := mapO_u8 hr
    refine ⟨by rw [h1, h3]; rfl, fun b hb => ?_⟩
    rcases List.mem_cons.1 hb with rfl | hb
    · exact h2
    · exact h4 b hb
theorem VRs_ints {ι : Ren} {k : IntKind} : ∀ {bs : List Nat} {l : List Value}, VRs ι (bs.map fun (n : Nat) => Value.int k (n : Int)) l → l = bs.map fun (n : Nat) => Value.int k (n : Int)
  | [], l, h => by cases h; rfl
  | b :: bs, l, h => by
    cases h with
    | cons h1 h2 => rw [h1.int_inv, VRs_ints h2]; rfl
theorem rowB_ok {E : En} {N : Nat} {ι : Ren} {H : AH} {w : World} (hwx : Wx E N ι H w) {v v' : Value} {bs : List Nat} (hv : VR ι v v') (h : rowB H v = some bs) : ByteRow w v' bs := by
  obtain ⟨q, hq, hz⟩ := ob_some.1 h
  obtain ⟨h00, hy⟩ := bi_none.1 hz
  have := vSl_some hq
  subst this
  obtain ⟨a, n, c⟩ := q
  have h0 : n < 1099511627776 := blt_iff.1 h00
  have h : bi (Nat.beq n 0) (some []) (ob a fun a => ob (place a) fun p => ob (H.cells p.1) fun c => ob (c.from p.2 n) fun l => mapO u8Of l) = some bs := hy
  clear hz hy h00
  rcases bi_or.1 h with ⟨h1, h2⟩ | ⟨-, h2⟩
  · cases h2
    have h1 := beq_iff.1 h1
    subst h1
    refine ⟨by simp, (fun _ h => nomatch h), ?_⟩
    rcases hv.sl_inv with ⟨-, rfl⟩ | ⟨b, o, b', o', c', -, rfl, -, -, -⟩
    · exact ⟨_, _, rfl, .inl rfl⟩
    · exact ⟨_, _, rfl, .inl rfl⟩
  · obtain ⟨a, rfl, h3⟩ := ob_some.1 h2
    obtain ⟨p, hp, h4⟩ := ob_some.1 h3
    obtain ⟨cc, hc, h5⟩ := ob_some.1 h4
    obtain ⟨l, hl, h6⟩ := ob_some.1 h5
    obtain ⟨h7, h8⟩ := mapO_u8 h6
    have := place_some hp
    obtain ⟨b, o⟩ := p
    have this : a = ⟨b, o, none⟩ := this
    subst this
    obtain ⟨g, d, hg, -⟩ := hwx.hr.blk _ _ (AH.cells_some hc)
    obtain ⟨cs, fz, hh, hcs, hss⟩ := hwx.hr.cells hc hg
    have hl : cc.from o n = some l := hl
    obtain ⟨l1, l2, l', l3, l4⟩ := hcs.from hl
    rw [h7] at l3
    have := VRs_ints l3
    subst this
    have hlen : bs.length = n := by rw [← l1, h7, List.length_map]
    refine ⟨by omega, h8, ?_⟩
    rcases hv.sl_inv with ⟨h9, -⟩ | ⟨b0, o0, b', o', c', h9, rfl, h10, -, h11⟩
    · cases h9
    · cases h9
      have h10 : n ≤ c' := h10
      refine ⟨_, _, by rw [hlen], ?_⟩
      rcases h11 with h11 | ⟨d', h11, h12⟩
      · left
        exact List.eq_nil_of_length_eq_zero (by omega)
      · rw [hg] at h11
        cases h11
        right
        refine ⟨_, _, rfl, by omega, fun i hi => ?_⟩
        have := l4 i (.int .u8 ((bs[i]?.getD 0 : Nat) : Int)) (by rw [List.getElem?_map, List.getElem?_eq_getElem hi]; rfl)
        unfold World.cell?
        simp only [hh]
        rw [h12]
        exact this
theorem readC_ok {E : En} {f : FuncId} {N : Nat} {ι : Ren} {H : AH} {w : World} {args' : Array Value} {v : Value} (hwx : Wx E N ι H w) (hv : plain v = true)
    (hc : Calls E.P f args' w fun e w' => e = .returned v ∧ RowKit.Below w.heap.size w w') : CallsIn Fence.wide 0 E.P f args' w (CallQ E N ι H w (.val v H)) := by
  refine CallsIn.mono (callsIn_wide.2 hc) ?_
  rintro e w' ⟨rfl, hB⟩
  exact ⟨v, H, v, rfl, rfl, ι, hwx.aft (go_below hwx.hr hwx.bnd hB), plain_self ι hv⟩
/-! a row's bytes as one number -/
noncomputable def wholeN (bs : List Nat) : Nat → Nat := List.rec (motive := fun _ => Nat → Nat) (fun n => n) (fun b _ g n => g (Nat.mod (Nat.add (Nat.mul 256 n) b) 18446744073709551616)) bs
noncomputable def hWhole : Hook := fun args H => ob (getL args 0) fun s => bi (Nat.beq (lenL args) 1) (ob (rowB H s) fun bs => some (.int .u64 (Int.ofNat (wholeN bs 0)), H)) none
theorem oneArg {ι : Ren} {args : List Value} {args' : Array Value} {a : Value} (h0 : getL args 0 = some a) (hl : Nat.beq (lenL args) 1 = true) (h : VRs ι args args'.toList) : ∃ x, args' = #[x] ∧ VR ι a x := by
  have := beq_iff.1 hl
  rw [lenL_eq] at this
  rw [getL_eq] at h0
  match args, this with
  | [x], _ =>
    generalize hq : args'.toList = l at h
    cases h with
    | cons h1 h2 =>
      cases h2
      cases (show some x = some a from h0)
      exact ⟨_, by rw [← Array.toList_inj, hq], h1⟩
theorem twoArg {ι : Ren} {args : List Value} {args' : Array Value} {a b : Value} (h0 : getL args 0 = some a) (h1 : getL args 1 = some b) (hl : Nat.beq (lenL args) 2 = true) (h : VRs ι args args'.toList) : ∃ x y, args' = #[x, y] ∧ VR ι a x ∧ VR ι b y := by
  have := twoArgs h0 h1 hl
  subst this
  generalize hq : args'.toList = l at h
  cases h with
  | cons h1 h2 =>
    cases h2 with
    | cons h2 h3 =>
      cases h3
      exact ⟨_, _, by rw [← Array.toList_inj, hq], h1, h2⟩
theorem hWhole_ok {E : En} {f : FuncId} (hc : ∀ (v' : Value) (bs : List Nat) (w : World), ByteRow w v' bs → Calls E.P f #[v'] w fun e w' => e = .returned (.int .u64 ((wholeN bs 0 : Nat) : Int)) ∧ RowKit.Below w.heap.size w w')
    {N : Nat} {ι : Ren} {H : AH} {w : World} {args : List Value} {args' : Array Value} {v : Value} {H' : AH} (hwx : Wx E N ι H w) (hargs : VRs ι args args'.toList) (h : hWhole args H = some (v, H')) : CallsIn Fence.wide 0 E.P f args' w (CallQ E N ι H w (.val v H')) := by
  obtain ⟨s, hs, k1⟩ := ob_some.1 h
  obtain ⟨k2, k3⟩ := bi_none.1 k1
  obtain ⟨bs, hb, k4⟩ := ob_some.1 k3
  cases k4
  obtain ⟨x, rfl, hx⟩ := oneArg hs k2 hargs
  exact readC_ok hwx rfl (hc x bs w (rowB_ok hwx hx hb))
theorem hWhole_nn {args : List Value} {H H' : AH} {v : Value} (h : hWhole args H = some (v, H')) : H.next ≤ H'.next := by
  obtain ⟨s, hs, k1⟩ := ob_some.1 h
  obtain ⟨k2, k3⟩ := bi_none.1 k1
  obtain ⟨bs, hb, k4⟩ := ob_some.1 k3
  cases k4
  exact Nat.le_refl _
/-! a sum, bit by bit -/
noncomputable def bitN (c b : Nat) : Nat := bi (Nat.beq (Nat.mod (Nat.add c b) 2) 1) (Nat.xor (Nat.div c 2) 3988292384) (Nat.div c 2)
noncomputable def byteN (k : Nat) : Nat → Nat → Nat := Nat.rec (motive := fun _ => Nat → Nat → Nat) (fun c _ => c) (fun _ g c b => g (bitN c (Nat.mod b 2)) (Nat.div b 2)) k
noncomputable def moreN (bs : List Nat) : Nat → Nat := List.rec (motive := fun _ => Nat → Nat) (fun c => c) (fun b _ g c => g (byteN 8 c b)) bs
noncomputable def hMore : Hook := fun args H => ob (getL args 0) fun s => ob (getL args 1) fun r => bi (Nat.beq (lenL args) 2) (ob (vInt s) fun p => ob (iNat p.2) fun n => bi (ba (ikeq p.1 .u32) (Nat.ble n 4294967295)) (ob (rowB H r) fun bs => some (.int .u32 (Int.ofNat (Nat.sub 4294967295 (moreN bs (Nat.sub 4294967295 n)))), H)) none) none
theorem hMore_ok {E : En} {f : FuncId} (hc : ∀ (n : Nat) (v' : Value) (bs : List Nat) (w : World), n ≤ 4294967295 → ByteRow w v' bs → Calls E.P f #[.int .u32 (n : Int), v'] w fun e w' => e = .returned (.int .u32 ((4294967295 - moreN bs (4294967295 - n) : Nat) : Int)) ∧ RowKit.Below w.heap.size w w')
    {N : Nat} {ι : Ren} {H : AH} {w : World} {args : List Value} {args' : Array Value} {v : Value} {H' : AH} (hwx : Wx E N ι H w) (hargs : VRs ι args args'.toList) (h : hMore args H = some (v, H')) : CallsIn Fence.wide 0 E.P f args' w (CallQ E N ι H w (.val v H')) := by
  obtain ⟨s, hs, k1⟩ := ob_some.1 h
  obtain ⟨r, hr, k2⟩ := ob_some.1 k1
  obtain ⟨k3, k4⟩ := bi_none.1 k2
  obtain ⟨p, hp, k5⟩ := ob_some.1 k4
  obtain ⟨n, hn, k6⟩ := ob_some.1 k5
  obtain ⟨k7, k8⟩ := bi_none.1 k6
  obtain ⟨bs, hb, k9⟩ := ob_some.1 k8
  cases k9
  obtain ⟨k10, k11⟩ := ba_iff.1 k7
  obtain ⟨x, y, rfl, hx, hy⟩ := twoArg hs hr k3 hargs
  have := vInt_some hp
  subst this
  have := iNat_some hn
  have k10 := ikeq_iff k10
  obtain ⟨k, i⟩ := p
  have k10 : k = .u32 := k10
  have this : i = (n : Int) := this
  subst k10 this
  rw [hx.int_inv]
  exact readC_ok hwx rfl (hc n y bs w (ble_iff.1 k11) (rowB_ok hwx hy hb))
theorem hMore_nn {args : List Value} {H H' : AH} {v : Value} (h : hMore args H = some (v, H')) : H.next ≤ H'.next := by
  obtain ⟨s, hs, k1⟩ := ob_some.1 h
  obtain ⟨r, hr, k2⟩ := ob_some.1 k1
  obtain ⟨k3, k4⟩ := bi_none.1 k2
  obtain ⟨p, hp, k5⟩ := ob_some.1 k4
  obtain ⟨n, hn, k6⟩ := ob_some.1 k5
  obtain ⟨k7, k8⟩ := bi_none.1 k6
  obtain ⟨bs, hb, k9⟩ := ob_some.1 k8
  cases k9
  exact Nat.le_refl _
end Go.Proofs.YthikcbbfnicnlaaGreatDoor.Ev
namespace Go.Proofs.YthikcbbfnicnlaaGreatDoor.Ev
open Go
set_option linter.unusedVariables false
set_option linter.unusedSimpArgs false
/-- The reader's slice at its first cell, its place at its second. -/
noncomputable def hNum : Hook := fun args H => ob (getL args 0) fun r => ob (getL args 1) fun z => bi (Nat.beq (lenL args) 2) (ob (vInt z) fun pz => ob (iNat pz.2) fun m => ob (vPtr r) fun a => ob (place a) fun p => ob (H.cells p.1) fun c => ob (c.from p.2 2) fun l => ob (getL l 0) fun sv => ob (getL l 1) fun kv => ob (vSl sv) fun q => ob (vInt kv) fun pk => ob (iNat pk.2) fun k =>
  bi (ba (ikeq pz.1 .i64) (ba (ikeq pk.1 .i64) (ba (Nat.blt 0 m) (ba (Nat.ble m 8) (ba (Nat.blt k q.2.1) (Nat.blt q.2.1 1099511627776))))))
    (ob q.1 fun sa => ob (place sa) fun sp => ob (H.cells sp.1) fun sc => ob (sc.from (sp.2 + k) (bi (Nat.ble (k + m) q.2.1) m (q.2.1 - k))) fun bl => ob (mapO u8Of bl) fun bs =>
      some (.tuple ⟨[.int .u64 (Int.ofNat (wholeN bs 0)), .bool (Nat.ble (k + m) q.2.1)]⟩, H)) none) none
theorem hNum_nn {args : List Value} {H H' : AH} {v : Value} (h : hNum args H = some (v, H')) : H.next ≤ H'.next := by
  obtain ⟨r, hr, h⟩ := ob_some.1 h
  obtain ⟨z, hz, h⟩ := ob_some.1 h
  obtain ⟨k1, h⟩ := bi_none.1 h
  obtain ⟨pz, hpz, h⟩ := ob_some.1 h
  obtain ⟨m, hm, h⟩ := ob_some.1 h
  obtain ⟨a, ha, h⟩ := ob_some.1 h
  obtain ⟨p, hp, h⟩ := ob_some.1 h
  obtain ⟨c, hc, h⟩ := ob_some.1 h
  obtain ⟨l, hl, h⟩ := ob_some.1 h
  obtain ⟨sv, hsv, h⟩ := ob_some.1 h
  obtain ⟨kv, hkv, h⟩ := ob_some.1 h
  obtain ⟨q, hq, h⟩ := ob_some.1 h
  obtain ⟨pk, hpk, h⟩ := ob_some.1 h
  obtain ⟨k, hk, h⟩ := ob_some.1 h
  obtain ⟨k2, h⟩ := bi_none.1 h
  obtain ⟨sa, hsa, h⟩ := ob_some.1 h
  obtain ⟨sp, hsp, h⟩ := ob_some.1 h
  obtain ⟨sc, hsc, h⟩ := ob_some.1 h
  obtain ⟨bl, hbl, h⟩ := ob_some.1 h
  obtain ⟨bs, hbs, h⟩ := ob_some.1 h
  cases h
  exact Nat.le_refl _
/-- What a reader is, ahead of its number. -/
structure NumAt (w : World) (g o b ob n cap k m : Nat) (bs : List Nat) : Prop where
  sl : w.cell? ⟨g, o, none⟩ = some (.slice (some ⟨b, ob, none⟩) n cap)
  plc : w.cell? ⟨g, o + 1, none⟩ = some (.int .i64 (k : Int))
  le : n ≤ cap
  small : n < 1099511627776
  pos : 0 < m
  m8 : m ≤ 8
  lt : k < n
  len : bs.length = if k + m ≤ n then m else n - k
  byte : ∀ x ∈ bs, x < 256
  cell : ∀ i, i < bs.length → w.cell? ⟨b, ob + k + i, none⟩ = some (.int .u8 ((bs[i]?.getD 0 : Nat) : Int))
theorem hNum_ok {E : En} {f : FuncId} (hcon : ∀ (g o b ob n cap k m : Nat) (bs : List Nat) (w : World), NumAt w g o b ob n cap k m bs → Calls E.P f #[.pointer (some ⟨g, o, none⟩), .int .i64 (m : Int)] w fun e w' => e = .returned (.tuple #[.int .u64 ((wholeN bs 0 : Nat) : Int), .bool (Nat.ble (k + m) n)]) ∧ RowKit.Below w.heap.size w w')
    {N : Nat} {ι : Ren} {H : AH} {w : World} {args : List Value} {args' : Array Value} {v : Value} {H' : AH} (hwx : Wx E N ι H w) (hargs : VRs ι args args'.toList) (h : hNum args H = some (v, H')) : CallsIn Fence.wide 0 E.P f args' w (CallQ E N ι H w (.val v H')) := by
  obtain ⟨r, hr, h⟩ := ob_some.1 h
  obtain ⟨z, hz, h⟩ := ob_some.1 h
  obtain ⟨k1, h⟩ := bi_none.1 h
  obtain ⟨pz, hpz, h⟩ := ob_some.1 h
  obtain ⟨m, hm, h⟩ := ob_some.1 h
  obtain ⟨a, ha, h⟩ := ob_some.1 h
  obtain ⟨p, hp, h⟩ := ob_some.1 h
  obtain ⟨c, hc, h⟩ := ob_some.1 h
  obtain ⟨l, hl, h⟩ := ob_some.1 h
  obtain ⟨sv, hsv, h⟩ := ob_some.1 h
  obtain ⟨kv, hkv, h⟩ := ob_some.1 h
  obtain ⟨q, hq, h⟩ := ob_some.1 h
  obtain ⟨pk, hpk, h⟩ := ob_some.1 h
  obtain ⟨k, hk, h⟩ := ob_some.1 h
  obtain ⟨k2, h⟩ := bi_none.1 h
  obtain ⟨sa, hsa, h⟩ := ob_some.1 h
  obtain ⟨sp, hsp, h⟩ := ob_some.1 h
  obtain ⟨sc, hsc, h⟩ := ob_some.1 h
  obtain ⟨bl, hbl, h⟩ := ob_some.1 h
  obtain ⟨bs, hbs, h⟩ := ob_some.1 h
  cases h
  obtain ⟨c1, k2⟩ := ba_iff.1 k2
  obtain ⟨c2, k2⟩ := ba_iff.1 k2
  obtain ⟨c3, k2⟩ := ba_iff.1 k2
  obtain ⟨c4, k2⟩ := ba_iff.1 k2
  obtain ⟨c5, c6⟩ := ba_iff.1 k2
  have c1 := ikeq_iff c1
  have c2 := ikeq_iff c2
  have c3 := blt_iff.1 c3
  have c4 := ble_iff.1 c4
  have c5 := blt_iff.1 c5
  have c6 := blt_iff.1 c6
  obtain ⟨x, y, rfl, hx, hy⟩ := twoArg hr hz k1 hargs
  have := vInt_some hpz; subst this
  have := vPtr_some ha; subst this
  have := iNat_some hm
  obtain ⟨kz, mz⟩ := pz
  have this : mz = (m : Int) := this
  have c1 : kz = .i64 := c1
  subst this c1
  have hy := hy.int_inv
  subst hy
  obtain ⟨g, d, hxe, hg⟩ := hx.ptr_inv hp
  subst hxe
  obtain ⟨cs, fz, hh, hcs, hss⟩ := hwx.hr.cells hc hg
  obtain ⟨l1, l2, l', l3, l4⟩ := hcs.from hl
  have := vSl_some hq; subst this
  have := vInt_some hpk; subst this
  have := iNat_some hk
  obtain ⟨kk, mk⟩ := pk
  have this : mk = (k : Int) := this
  have c2 : kk = .i64 := c2
  subst this c2
  obtain ⟨qa, n, cap⟩ := q
  have c5 : k < n := c5
  have c6 : n < 1099511627776 := c6
  have hsa : qa = some sa := hsa
  subst hsa
  rw [getL_eq] at hsv hkv
  match l, l1 with
  | [u1, u2], _ =>
  have hsv : some u1 = some _ := hsv
  have hkv : some u2 = some _ := hkv
  cases hsv
  cases hkv
  obtain ⟨v1, e1, r1⟩ := l3.get (show ([(.slice (some sa) n cap), .int .i64 (k : Int)] : List Value)[0]? = some _ from rfl)
  obtain ⟨v2, e2, r2⟩ := l3.get (show ([(.slice (some sa) n cap), .int .i64 (k : Int)] : List Value)[1]? = some _ from rfl)
  have z1 := l4 0 v1 e1
  have z2 := l4 1 v2 e2
  have r2 := r2.int_inv
  subst r2
  obtain ⟨sb, so⟩ := sp
  have := place_some hsp
  have this : sa = ⟨sb, so, none⟩ := this
  subst this
  obtain ⟨gb, db, hgb, -⟩ := hwx.hr.blk _ _ (AH.cells_some hsc)
  obtain ⟨csb, fzb, hhb, hcsb, hssb⟩ := hwx.hr.cells hsc hgb
  obtain ⟨m1, m2, bl', m3, m4⟩ := hcsb.from hbl
  obtain ⟨h7, h8⟩ := mapO_u8 hbs
  rw [h7] at m3
  have := VRs_ints m3
  subst this
  have hlen : bs.length = bi (Nat.ble (k + m) n) m (n - k) := by rw [← m1, h7, List.length_map]
  have hlen2 : bs.length = if k + m ≤ n then m else n - k := by
    rw [hlen]
    by_cases e : k + m ≤ n
    · rw [if_pos e, show Nat.ble (k + m) n = true from ble_iff.2 e]; rfl
    · rw [if_neg e]
      cases e2 : Nat.ble (k + m) n with
      | true => exact absurd (ble_iff.1 e2) e
      | false => rfl
  rcases r1.sl_inv with ⟨h9, -⟩ | ⟨b0, o0, b', o', c', h9, rfl, h10, -, h11⟩
  · cases h9
  · cases h9
    have h10 : n ≤ c' := h10
    rcases h11 with h11 | ⟨d', h11, h12⟩
    · omega
    · rw [hgb] at h11
      cases h11
      refine readC_ok hwx rfl (hcon g (p.2 + d) gb o' n c' k m bs w ⟨?_, ?_, h10, c6, c3, c4, c5, hlen2, h8, fun i hi => ?_⟩)
      · unfold World.cell?
        simp only [hh]
        exact z1
      · unfold World.cell?
        simp only [hh]
        exact z2
      · have := m4 i (.int .u8 ((bs[i]?.getD 0 : Nat) : Int)) (by rw [List.getElem?_map, List.getElem?_eq_getElem hi]; rfl)
        unfold World.cell?
        simp only [hhb]
        have e : o' + k + i = so + k + db + i := by omega
        show (if (none : Option Nat).isSome = true then none else csb[o' + k + i]?) = _
        rw [e]
        exact this
end Go.Proofs.YthikcbbfnicnlaaGreatDoor.Ev
namespace Go.Proofs.YthikcbbfnicnlaaGreatDoor.Ev
open Go
noncomputable def seg (o : Nat) (l : List Value) (t : Tr Value) : Tr Value := putCells l o t
noncomputable def u8s (n N : Nat) : List Value := Nat.rec (motive := fun _ => Nat → List Value) (fun _ => []) (fun _ g N => .int .u8 (Int.ofNat (Nat.mod N 256)) :: g (Nat.div N 256)) n N
noncomputable def i64s (l : List Int) : List Value := List.rec (motive := fun _ => List Value) [] (fun x _ r => .int .i64 x :: r) l
noncomputable def reps (n : Nat) (v : Value) : List Value := Nat.rec (motive := fun _ => List Value) [] (fun _ r => v :: r) n
noncomputable def slAP (n b s l c : Nat) : List Value := Nat.rec (motive := fun _ => Nat → List Value) (fun _ => []) (fun _ g b => .slice (some ⟨b, 0, none⟩) l c :: g (b + s)) n b
noncomputable def cat (l : List (List Value)) : List Value := List.rec (motive := fun _ => List Value) [] (fun x _ r => x ++ r) l
noncomputable def byt (n N : Nat) : List UInt8 := Nat.rec (motive := fun _ => Nat → List UInt8) (fun _ => []) (fun _ g N => UInt8.ofNat (Nat.mod N 256) :: g (Nat.div N 256)) n N
noncomputable def bs (l : List UInt8) : Value := .string ⟨⟨l⟩⟩
noncomputable def rwb (e n : Nat) (l : List Value) : Blk := .cells e n 0 false [] (Tr.ofList l)
noncomputable def rwz (e n : Nat) (l : List Value) : Blk := .cells e n 0 false l (Tr.ofList l)
noncomputable def rwd (e n : Nat) (d : List Value) (t : Tr Value) : Blk := .cells e n 0 false d t
theorem memNil (E : En) : ∀ m ∈ ([] : List Mem2), MemOk E m := fun _ h => nomatch h
theorem memCons {E : En} {m : Mem2} {l : List Mem2} {n : Nat} (h1 : Nat.ble m.next m.next' = true) (h2 : mem2Chk E n m = true) (h : ∀ m ∈ l, MemOk E m) : ∀ x ∈ m :: l, MemOk E x := fun x hx => by
  rcases List.mem_cons.1 hx with rfl | hx
  · exact ⟨ble_iff.1 h1, n, h2⟩
  · exact h x hx
end Go.Proofs.YthikcbbfnicnlaaGreatDoor.Ev
namespace Go.Proofs.YthikcbbfnicnlaaGreatDoor.Ev
open Go
set_option linter.unusedVariables false
set_option linter.unusedSimpArgs false
/-- b: the row's number in the run. -/
structure Pm where
  f : FuncId
  b : Nat
  elem : TypeId
  l : List Value
  v : Value
noncomputable def pmArg (m : Pm) : Value := .slice (some ⟨m.b, 0, none⟩) (lenL m.l) openCap
noncomputable def pmH (m : Pm) : AH := ⟨m.b + 1, Tr.nil.put m.b (some (.cells m.elem (lenL m.l) 0 true [] (Tr.ofList m.l)))⟩
noncomputable def pmChk (E : En) (n : Nat) (m : Pm) : Bool := ba (ba (allL plain m.l) (ba (plain m.v) (Nat.ble E.g m.b))) (oc (ev E n (.call (.enter m.f [pmArg m])) (pmH m)) false fun r => oc (rVal r) false fun q => veq 6 m.v q.1)
noncomputable def hPm (m : Pm) : Hook := fun args H => ob (getL args 0) fun s => bi (Nat.beq (lenL args) 1) (ob (vSl s) fun q => bi (ba (Nat.beq q.2.1 (lenL m.l)) (Nat.beq q.2.2 openCap)) (ob q.1 fun a => ob (place a) fun p => ob (H.cells p.1) fun c => bi (Nat.beq c.elem m.elem) (ob (c.from p.2 q.2.1) fun l => bi (eqAll (veq 6) m.l l) (some (m.v, H)) none) none) none) none
theorem hPm_nn {m : Pm} {args : List Value} {H H' : AH} {v : Value} (h : hPm m args H = some (v, H')) : H.next ≤ H'.next := by
  obtain ⟨s, hs, h⟩ := ob_some.1 h
  obtain ⟨k1, h⟩ := bi_none.1 h
  obtain ⟨q, hq, h⟩ := ob_some.1 h
  obtain ⟨k2, h⟩ := bi_none.1 h
  obtain ⟨a, ha, h⟩ := ob_some.1 h
  obtain ⟨p, hp, h⟩ := ob_some.1 h
  obtain ⟨c, hc, h⟩ := ob_some.1 h
  obtain ⟨k3, h⟩ := bi_none.1 h
  obtain ⟨l, hl, h⟩ := ob_some.1 h
  obtain ⟨k4, h⟩ := bi_none.1 h
  cases h
  exact Nat.le_refl _
theorem plainL_mem : ∀ {l : List Value}, allL plain l = true → ∀ x ∈ l, plain x = true
  | [], _, x, hx => nomatch hx
  | y :: l, h, x, hx => by
    have h : bi (plain y) (allL plain l) false = true := h
    cases hy : plain y with
    | false => rw [hy] at h; cases h
    | true =>
      rw [hy] at h
      rcases List.mem_cons.1 hx with rfl | hx
      · exact hy
      · exact plainL_mem h x hx
theorem hPm_ok {E1 E2 : En} (hP : E2.P = E1.P) (hw : E2.w0 = E1.w0) (hR : E2.roB = E1.roB) (hmix : E1.P.follows .mixedOrders = true) (hx : HxOk E1) (hxn : HxNN E1) (he : HeOk E1) (hen : HeNN E1) {n : Nat} {m : Pm} (hchk : pmChk E1 n m = true)
    {N : Nat} {ι : Ren} {H : AH} {w : World} {args : List Value} {args' : Array Value} {v : Value} {H' : AH} (hwx : Wx E2 N ι H w) (hargs : VRs ι args args'.toList) (h : hPm m args H = some (v, H')) : CallsIn Fence.wide 0 E2.P m.f args' w (CallQ E2 N ι H w (.val v H')) := by
  obtain ⟨s, hs, h⟩ := ob_some.1 h
  obtain ⟨k1, h⟩ := bi_none.1 h
  obtain ⟨q, hq, h⟩ := ob_some.1 h
  obtain ⟨k2, h⟩ := bi_none.1 h
  obtain ⟨a, ha, h⟩ := ob_some.1 h
  obtain ⟨p, hp, h⟩ := ob_some.1 h
  obtain ⟨c, hc, h⟩ := ob_some.1 h
  obtain ⟨k3, h⟩ := bi_none.1 h
  obtain ⟨l, hl, h⟩ := ob_some.1 h
  obtain ⟨k4, h⟩ := bi_none.1 h
  cases h
  obtain ⟨c1, c2⟩ := ba_iff.1 hchk
  obtain ⟨c3, c1⟩ := ba_iff.1 c1
  obtain ⟨c4, c5⟩ := ba_iff.1 c1
  have c5 := ble_iff.1 c5
  obtain ⟨r, hr, c6⟩ := ocB c2
  obtain ⟨q', hq', c7⟩ := ocB c6
  have c7 := veq_ok 6 _ _ c7
  have := rVal_some hq'
  subst this
  obtain ⟨d1, d2⟩ := ba_iff.1 k2
  have d1 := beq_iff.1 d1
  have d2 := beq_iff.1 d2
  have k3 := beq_iff.1 k3
  have k4 := eqAll_ok (veq_ok 6) k4
  subst k4
  obtain ⟨x, rfl, hx1⟩ := oneArg hs k1 hargs
  have := vSl_some hq; subst this
  obtain ⟨qa, qn, qc⟩ := q
  have d1 : qn = lenL m.l := d1
  have d2 : qc = openCap := d2
  have ha : qa = some a := ha
  subst d1 d2 ha
  have := place_some hp
  obtain ⟨pb, po⟩ := p
  have this : a = ⟨pb, po, none⟩ := this
  subst this
  obtain ⟨gb, db, hgb, -⟩ := hwx.hr.blk _ _ (AH.cells_some hc)
  obtain ⟨cs, fz, hh, hcs, hss⟩ := hwx.hr.cells hc hgb
  have hl : c.from po (lenL m.l) = some m.l := hl
  obtain ⟨m1, m2, l', m3, m4⟩ := hcs.from hl
  have hself := plainL_eq c3 m3
  subst hself
  have hsz := hcs.size
  rcases hx1.sl_inv with ⟨h9, -⟩ | ⟨b0, o0, b', o', c', h9, rfl, h10, hcap, hadr⟩
  · cases h9
  cases h9
  have h10 : lenL m.l ≤ c' := h10
  have hcap : CapOk ι b' o' c' := by
    rcases hcap with ⟨-, h⟩ | ⟨-, h⟩
    · exact absurd rfl h
    · exact h
  -- where the row lies
  have hpos : c' = 0 ∨ (b' = gb ∧ o' = po + db) := by
    rcases hadr with h | ⟨d, h1, h2⟩
    · exact .inl h
    · rw [hgb] at h1
      cases h1
      exact .inr ⟨rfl, h2⟩
  let ι' : Ren := ⟨fun k => if k = m.b then some (gb, po + db) else if k < E1.g then some (k, 0) else none, ι.s, ι.z⟩
  have hget : ∀ b k, (pmH m).get b = some k → b = m.b ∧ k = .cells m.elem (lenL m.l) 0 true [] (Tr.ofList m.l) := fun b k hk => by
    have hk : (Tr.nil.put m.b (some (Blk.cells m.elem (lenL m.l) 0 true [] (Tr.ofList m.l)))).get b = some k := hk
    rw [show (Tr.nil.put m.b (some (Blk.cells m.elem (lenL m.l) 0 true [] (Tr.ofList m.l)))).get b = (AH.put ⟨0, Tr.nil⟩ m.b (some (Blk.cells m.elem (lenL m.l) 0 true [] (Tr.ofList m.l)))).get b from rfl, AH.put_get] at hk
    unfold upd at hk
    split at hk
    · rename_i e
      cases hk
      exact ⟨e, rfl⟩
    · have : (Tr.nil : Tr Blk).get b = some k := hk
      rw [Tr.get_nil] at this
      cases this
  have hfb : ι'.f m.b = some (gb, po + db) := if_pos rfl
  have hno : ∀ c, ¬ Own ι' (pmH m).get c := by
    rintro c ⟨b, k, d, e1, e2, e3⟩
    obtain ⟨-, rfl⟩ := hget b k e1
    cases e2
  have hwx1 : ∀ N, Wx E1 N ι' (pmH m) w := fun N => by
    refine ⟨⟨fun b k hk => ?_, fun b1 b2 k1 k2 c d1 d2 e1 e2 _ _ => ?_, hwx.hr.slt⟩, fun b k hk => ?_, fun k hk => ?_, fun t i hi => ?_, fun b h1 h2 => ?_, ⟨?_, fun c hc => ?_, fun c _ => hno c⟩⟩
    · obtain ⟨rfl, rfl⟩ := hget b k hk
      refine ⟨gb, po + db, hfb, cs, fz, by rw [← k3]; exact hh, ⟨?_, ?_, fun h => (nomatch h), fun h => absurd rfl h⟩, by rw [← k3]; exact hss⟩
      · show po + db + lenL m.l ≤ cs.size
        have : po + lenL m.l ≤ c.n := m2
        omega
      · exact ofList_cells (fun j x hx => ⟨x, m4 j x hx, plain_self ι' (plainL_mem c3 x (List.mem_of_getElem? hx))⟩)
    · rw [(hget b1 k1 e1).1, (hget b2 k2 e2).1]
    · rw [(hget b k hk).1]; exact Nat.lt_succ_self _
    · show (if k = m.b then some (gb, po + db) else if k < E1.g then some (k, 0) else none) = some (k, 0)
      rw [if_neg (by omega), if_pos hk]
    · exact hwx.z t i (by rw [hP]; exact hi)
    · have h1 : m.b + 1 ≤ b := h1
      show (if b = m.b then some (gb, po + db) else if b < E1.g then some (b, 0) else none) = none
      rw [if_neg (by omega), if_neg (by omega)]
    · rw [← hR]; exact hwx.base.le
    · rw [← hw]; exact hwx.base.same c (by rw [hR]; exact hc)
  have hva : VRs ι' [pmArg m] (#[Value.slice (some ⟨b', o', none⟩) (lenL m.l) c'] : Array Value).toList := .cons (.sl _ _ _ _ _ _ _ h10 (.inr ⟨rfl, hcap⟩) (by
    rcases hpos with h | ⟨rfl, rfl⟩
    · exact .inl h
    · exact .inr ⟨po + db, hfb, (Nat.zero_add _).symm⟩)) .nil
  have hcall := ev_calls hmix hx hxn he hen hr (hwx1 _) hva hno (by rw [← c7]; exact c4)
  rw [← c7, ← hP] at hcall
  exact readC_ok hwx c4 hcall
/-- Such calls as hooks of a stage. -/
noncomputable def pmF (l : List Pm) (f : FuncId) : Hook := List.rec (motive := fun _ => Hook) (fun _ _ => none) (fun m _ g args H => bi (Nat.beq m.f f) (oc (hPm m args H) (g args H) fun p => some p) (g args H)) l
theorem pmF_some : ∀ {l : List Pm} {f : FuncId} {args : List Value} {H H' : AH} {v : Value}, pmF l f args H = some (v, H') → ∃ m ∈ l, m.f = f ∧ hPm m args H = some (v, H')
  | [], f, args, H, H', v, h => nomatch (show (none : Option (Value × AH)) = some (v, H') from h)
  | m :: l, f, args, H, H', v, h => by
    rcases bi_or.1 (show bi (Nat.beq m.f f) (oc (hPm m args H) (pmF l f args H) fun p => some p) (pmF l f args H) = some (v, H') from h) with ⟨h0, h⟩ | ⟨-, h⟩
    · rcases oc_some.1 h with ⟨-, h1⟩ | ⟨p, h1, h2⟩
      · obtain ⟨m', hm, h3⟩ := pmF_some h1
        exact ⟨m', List.mem_cons_of_mem _ hm, h3⟩
      · cases h2
        exact ⟨m, List.mem_cons_self .., beq_iff.1 h0, h1⟩
    · obtain ⟨m', hm, h3⟩ := pmF_some h
      exact ⟨m', List.mem_cons_of_mem _ hm, h3⟩
noncomputable def En.pms (E : En) (l : List Pm) : En := ⟨E.P, E.g, fun f => some fun args H => oc (pmF l f args H) (heOf E f args H) fun p => some p, E.hx, E.w0, E.roB⟩
theorem EnOk.pms {E : En} (hE : EnOk E) {l : List Pm} (hl : ∀ m ∈ l, ∃ n, pmChk E n m = true) : EnOk (E.pms l) where
  mix := hE.mix
  hx := hE.hx.like (E1 := E) (E2 := E.pms l) rfl rfl rfl
  hxn := hE.hxn
  he := fun f h hf N ι H w args args' v H' hN hwx hargs hr => by
    cases (show some _ = some h from hf)
    have lk : Like (E.pms l) E := ⟨rfl, rfl, rfl, rfl⟩
    rcases oc_some.1 (show oc (pmF l f args H) (heOf E f args H) (fun p => some p) = some (v, H') from hr) with ⟨-, h1⟩ | ⟨p, h1, h2⟩
    · obtain ⟨g, h2, h3⟩ := heOf_some h1
      exact CallsIn.mono (hE.he f g h2 N ι H w args args' v H' hN (hwx.like lk) hargs h3) fun e w' q => q.like lk.symm
    · cases h2
      obtain ⟨m, hm, rfl, h3⟩ := pmF_some h1
      obtain ⟨n, hc⟩ := hl m hm
      exact hPm_ok (E1 := E) (E2 := E.pms l) rfl rfl rfl hE.mix hE.hx hE.hxn hE.he hE.hen hc hwx hargs h3
  hen := fun f h hf args H v H' hr => by
    cases (show some _ = some h from hf)
    rcases oc_some.1 (show oc (pmF l f args H) (heOf E f args H) (fun p => some p) = some (v, H') from hr) with ⟨-, h1⟩ | ⟨p, h1, h2⟩
    · obtain ⟨g, h2, h3⟩ := heOf_some h1
      exact hE.hen f g h2 args H v H' h3
    · cases h2
      obtain ⟨m, hm, rfl, h3⟩ := pmF_some h1
      exact hPm_nn h3
theorem StartOk.pms {E : En} {ι0 : Ren} {H0 : AH} (hs : StartOk E ι0 H0) (l : List Pm) : StartOk (E.pms l) ι0 H0 := hs.like (E1 := E) (E2 := E.pms l) ⟨rfl, rfl, rfl, rfl⟩
end Go.Proofs.YthikcbbfnicnlaaGreatDoor.Ev
namespace Go.Proofs.YthikcbbfnicnlaaGreatDoor.Ev
open Go
set_option linter.unusedVariables false
set_option linter.unusedSimpArgs false
noncomputable def ileB (a b : Int) : Bool := Int.rec (motive := fun _ => Bool) (fun m => Int.rec (motive := fun _ => Bool) (fun n => Nat.ble m n) (fun _ => false) b) (fun m => Int.rec (motive := fun _ => Bool) (fun _ => true) (fun n => Nat.ble n m) b) a
theorem ileB_iff (a b : Int) : ileB a b = true ↔ a ≤ b := by
  cases a with
  | ofNat m => cases b with
    | ofNat n => exact ⟨fun h => Int.ofNat_le.2 (ble_iff.1 h), fun h => ble_iff.2 (Int.ofNat_le.1 h)⟩
    | negSucc n => exact ⟨(fun h => Bool.noConfusion (show false = true from h)), fun h => by have h1 : Int.ofNat m = (m : Int) := rfl; rw [h1] at h; omega⟩
  | negSucc m => cases b with
    | ofNat n => exact ⟨fun _ => by have h1 : (Int.ofNat n) = (n : Int) := rfl; rw [h1]; omega, fun _ => rfl⟩
    | negSucc n => exact ⟨fun h => by have := ble_iff.1 (show Nat.ble n m = true from h); omega, fun h => ble_iff.2 (by omega)⟩
noncomputable def insI (x : Int) (l : List Int) : List Int := List.rec (motive := fun _ => List Int) [x] (fun y r g => bi (ileB x y) (x :: y :: r) (y :: g)) l
noncomputable def isort (l : List Int) : List Int := List.rec (motive := fun _ => List Int) [] (fun x _ g => insI x g) l
theorem insI_perm (x : Int) : ∀ l : List Int, (insI x l).Perm (x :: l)
  | [] => .refl _
  | y :: r => by
    show (bi (ileB x y) (x :: y :: r) (y :: insI x r)).Perm _
    cases ileB x y with
    | true => exact .refl _
    | false => exact ((insI_perm x r).cons y).trans (.swap ..)
theorem isort_perm : ∀ l : List Int, (isort l).Perm l
  | [] => .refl _
  | x :: l => (insI_perm x (isort l)).trans ((isort_perm l).cons x)
theorem insI_sorted (x : Int) : ∀ l : List Int, l.Pairwise (· ≤ ·) → (insI x l).Pairwise (· ≤ ·)
  | [], _ => by show [x].Pairwise (· ≤ ·); simp
  | y :: r, h => by
    show (bi (ileB x y) (x :: y :: r) (y :: insI x r)).Pairwise (· ≤ ·)
    cases e : ileB x y with
    | true =>
      have hxy := (ileB_iff x y).1 e
      refine List.pairwise_cons.2 ⟨fun z hz => ?_, h⟩
      rcases List.mem_cons.1 hz with rfl | hz
      · exact hxy
      · exact Int.le_trans hxy ((List.pairwise_cons.1 h).1 z hz)
    | false =>
      have hxy : y ≤ x := by
        have : ¬ x ≤ y := fun h => by rw [(ileB_iff x y).2 h] at e; cases e
        omega
      refine List.pairwise_cons.2 ⟨fun z hz => ?_, insI_sorted x r (List.pairwise_cons.1 h).2⟩
      rcases List.mem_cons.1 ((insI_perm x r).mem_iff.1 hz) with rfl | hz
      · exact hxy
      · exact (List.pairwise_cons.1 h).1 z hz
theorem isort_sorted : ∀ l : List Int, (isort l).Pairwise (· ≤ ·)
  | [] => List.Pairwise.nil
  | x :: l => insI_sorted x _ (isort_sorted l)
theorem sorted_unique : ∀ (a b : List Int), a.Perm b → a.Pairwise (· ≤ ·) → b.Pairwise (· ≤ ·) → a = b
  | [], b, h, _, _ => (List.nil_perm.1 h).symm
  | x :: a, [], h, _, _ => nomatch List.perm_nil.1 h
  | x :: a, y :: b, h, ha, hb => by
    have h1 : x ≤ y := by
      rcases List.mem_cons.1 (h.mem_iff.2 (List.mem_cons_self ..)) with e | e
      · omega
      · exact (List.pairwise_cons.1 ha).1 y e
    have h2 : y ≤ x := by
      rcases List.mem_cons.1 (h.mem_iff.1 (List.mem_cons_self ..)) with e | e
      · omega
      · exact (List.pairwise_cons.1 hb).1 x e
    have : x = y := by omega
    subst this
    rw [sorted_unique a b (List.perm_cons x |>.1 h) (List.pairwise_cons.1 ha).2 (List.pairwise_cons.1 hb).2]
theorem isort_merge {ks ss : List Int} (h : ss.Perm ks) : ss.mergeSort (fun x y => decide (x ≤ y)) = isort ks :=
  sorted_unique _ _ ((List.mergeSort_perm ..).trans (h.trans (isort_perm ks).symm)) ((List.pairwise_mergeSort (le := fun (x y : Int) => decide (x ≤ y)) (by simp; omega) (by simp; omega) ss).imp (by simp)) (isort_sorted ks)
/-! keys -/
noncomputable def keyI (e : Value × Value × Nat) : Option Int := ob (vInt e.1) fun p => bi (ba (ikeq p.1 .i64) (ba (ileB (-9223372036854775808) p.2) (ileB p.2 9223372036854775807))) (some p.2) none
noncomputable def keysI (l : List (Value × Value × Nat)) : Option (List Int) := mapO keyI l
noncomputable def freshL {α : Type} (f : α → α → Bool) (x : α) (l : List α) : Bool := List.rec (motive := fun _ => Bool) true (fun y _ r => bi (f x y) false r) l
noncomputable def nodL {α : Type} (f : α → α → Bool) (l : List α) : Bool := List.rec (motive := fun _ => Bool) true (fun x l r => ba (freshL f x l) r) l
noncomputable def bornB (clk : Nat) (l : List (Value × Value × Nat)) : Bool := List.rec (motive := fun _ => Bool) true (fun e _ r => bi (Nat.blt e.2.2 clk) r false) l
noncomputable def ieqB (a b : Int) : Bool := ba (ileB a b) (ileB b a)
theorem ieqB_iff (a b : Int) : ieqB a b = true ↔ a = b := by
  constructor
  · intro h
    obtain ⟨h1, h2⟩ := ba_iff.1 h
    have h1 := (ileB_iff _ _).1 h1
    have h2 := (ileB_iff _ _).1 h2
    omega
  · rintro rfl
    exact ba_iff.2 ⟨(ileB_iff _ _).2 (Int.le_refl _), (ileB_iff _ _).2 (Int.le_refl _)⟩
theorem freshL_ok {α : Type} {f : α → α → Bool} (hf : ∀ a b, f a b = true ↔ a = b) (x : α) : ∀ {l : List α}, freshL f x l = true → x ∉ l
  | [], _ => by simp
  | y :: l, h => by
    have h : bi (f x y) false (freshL f x l) = true := h
    cases e : f x y with
    | true => rw [e] at h; cases h
    | false =>
      rw [e] at h
      intro hm
      rcases List.mem_cons.1 hm with rfl | hm
      · rw [(hf _ _).2 rfl] at e; cases e
      · exact freshL_ok hf x h hm
theorem nodL_ok {α : Type} {f : α → α → Bool} (hf : ∀ a b, f a b = true ↔ a = b) : ∀ {l : List α}, nodL f l = true → l.Nodup
  | [], _ => List.nodup_nil
  | x :: l, h => by
    obtain ⟨h1, h2⟩ := ba_iff.1 (show ba (freshL f x l) (nodL f l) = true from h)
    exact List.nodup_cons.2 ⟨freshL_ok hf x h1, nodL_ok hf h2⟩
theorem bornB_ok {clk : Nat} : ∀ {l : List (Value × Value × Nat)}, bornB clk l = true → ∀ e ∈ l, e.2.2 < clk
  | [], _, e, h => nomatch h
  | x :: l, h, e, hm => by
    have h : bi (Nat.blt x.2.2 clk) (bornB clk l) false = true := h
    cases hx : Nat.blt x.2.2 clk with
    | false => rw [hx] at h; cases h
    | true =>
      rw [hx] at h
      rcases List.mem_cons.1 hm with rfl | hm
      · exact blt_iff.1 hx
      · exact bornB_ok h e hm
noncomputable def bornsL (l : List (Value × Value × Nat)) : List Nat := List.rec (motive := fun _ => List Nat) [] (fun e _ r => e.2.2 :: r) l
theorem bornsL_eq : ∀ l : List (Value × Value × Nat), bornsL l = l.map (·.2.2)
  | [] => rfl
  | e :: l => by show e.2.2 :: bornsL l = _; rw [bornsL_eq l]; rfl
noncomputable def i64L (l : List Int) : List Value := List.rec (motive := fun _ => List Value) [] (fun x _ r => .int .i64 x :: r) l
theorem i64L_eq : ∀ l : List Int, i64L l = l.map (.int .i64)
  | [] => rfl
  | e :: l => by show Value.int .i64 e :: i64L l = _; rw [i64L_eq l]; rfl
/-- The disk: its sectors' slice at its first cell, the map of what waits at its second. -/
noncomputable def hWaits (elem : TypeId) : Hook := fun args H => ob (getL args 0) fun r => bi (Nat.beq (lenL args) 1) (ob (vPtr r) fun a => ob (place a) fun p => ob (H.cells p.1) fun c => ob (c.from p.2 2) fun l => ob (getL l 0) fun sv => ob (getL l 1) fun mv => ob (vSl sv) fun q => ob (vMap mv) fun mo => ob mo fun mb => ob (H.map mb) fun m => ob (keysI m.1) fun ks =>
  bi (ba (Nat.blt 0 q.2.1) (ba (Nat.blt q.2.1 1099511627776) (ba (Nat.blt (lenL ks) 100000) (ba (bornB m.2 m.1) (ba (nodL Nat.beq (bornsL m.1)) (nodL ieqB ks))))))
    (bi (nilL ks) (some (.slice none 0 0, H)) (some (newSl H (lenL (i64L (isort ks))) openCap, newRow H elem (i64L (isort ks))))) none) none
structure WaitsAt (w : World) (g o mb n cap clk : Nat) (sa : Option Addr) (es : Array MapEntry) (ks : List Int) : Prop where
  sl : w.cell? ⟨g, o, none⟩ = some (.slice sa n cap)
  mp : w.cell? ⟨g, o + 1, none⟩ = some (.map (some mb))
  pos : 0 < n
  small : n < 1099511627776
  blk : w.heap[mb]? = some (.map es clk)
  keys : es.toList.map (·.key) = ks.map (.int .i64)
  born : ∀ x ∈ es.toList, x.born < clk
  bnod : (es.toList.map (·.born)).Nodup
  knod : ks.Nodup
  rng : ∀ k ∈ ks, -9223372036854775808 ≤ k ∧ k ≤ 9223372036854775807
  len : ks.length < 100000
theorem keysI_ok : ∀ {l : List (Value × Value × Nat)} {ks : List Int}, keysI l = some ks → l.map (·.1) = ks.map (.int .i64) ∧ ∀ k ∈ ks, -9223372036854775808 ≤ k ∧ k ≤ 9223372036854775807
  | [], ks, h => by cases (show some [] = some ks from h); exact ⟨rfl, (fun _ h => nomatch h)⟩
  | e :: l, ks, h => by
    obtain ⟨k, hk, h⟩ := ob_some.1 (show ob (keyI e) (fun v => ob (keysI l) fun t => some (v :: t)) = some ks from h)
    obtain ⟨r, hr, h⟩ := ob_some.1 h
    cases h
    obtain ⟨p, hp, k1⟩ := ob_some.1 hk
    obtain ⟨k2, k3⟩ := bi_none.1 k1
    cases k3
    obtain ⟨k4, k5⟩ := ba_iff.1 k2
    obtain ⟨k5, k6⟩ := ba_iff.1 k5
    have k4 := ikeq_iff k4
    have k5 := (ileB_iff _ _).1 k5
    have k6 := (ileB_iff _ _).1 k6
    have := vInt_some hp
    obtain ⟨kk, n⟩ := p
    have k4 : kk = .i64 := k4
    subst k4
    obtain ⟨h3, h4⟩ := keysI_ok hr
    refine ⟨by rw [List.map_cons, List.map_cons, h3, this], fun x hx => ?_⟩
    rcases List.mem_cons.1 hx with rfl | hx
    · exact ⟨k5, k6⟩
    · exact h4 x hx
theorem hWaits_nn {elem : TypeId} {args : List Value} {H H' : AH} {v : Value} (h : hWaits elem args H = some (v, H')) : H.next ≤ H'.next := by
  obtain ⟨r, hr, h⟩ := ob_some.1 h
  obtain ⟨k1, h⟩ := bi_none.1 h
  obtain ⟨a, ha, h⟩ := ob_some.1 h
  obtain ⟨p, hp, h⟩ := ob_some.1 h
  obtain ⟨c, hc, h⟩ := ob_some.1 h
  obtain ⟨l, hl, h⟩ := ob_some.1 h
  obtain ⟨sv, hsv, h⟩ := ob_some.1 h
  obtain ⟨mv, hmv, h⟩ := ob_some.1 h
  obtain ⟨q, hq, h⟩ := ob_some.1 h
  obtain ⟨mo, hmo, h⟩ := ob_some.1 h
  obtain ⟨mb, hmb, h⟩ := ob_some.1 h
  obtain ⟨m, hm, h⟩ := ob_some.1 h
  obtain ⟨ks, hks, h⟩ := ob_some.1 h
  obtain ⟨k2, h⟩ := bi_none.1 h
  rcases bi_or.1 h with ⟨-, h⟩ | ⟨-, h⟩
  · cases h; exact Nat.le_refl _
  · cases h; exact Nat.le_succ _
theorem L2_keys {ι : Ren} : ∀ {es : List (Value × Value × Nat)} {l : List MapEntry} {ks : List Int}, L2 (ER ι) es l → es.map (·.1) = ks.map (.int .i64) → l.map (·.key) = ks.map (.int .i64) ∧ l.map (·.born) = es.map (·.2.2)
  | [], l, ks, h, e => by
    cases h
    exact ⟨e, rfl⟩
  | x :: es, l, [], h, e => nomatch e
  | x :: es, l, k :: ks, h, e => by
    cases h with
    | cons h1 h2 =>
      rw [List.map_cons, List.map_cons] at e
      injection e with e1 e2
      obtain ⟨h3, h4⟩ := L2_keys h2 e2
      have h5 := h1.1
      rw [e1] at h5
      exact ⟨by rw [List.map_cons, List.map_cons, h3, h5.int_inv], by rw [List.map_cons, List.map_cons, h4, h1.2.2]⟩
theorem hWaits_ok {E : En} {P : Program} {f : FuncId} {elem : TypeId} {i : TypeInfo} (hP : E.P = P) (hi : P.info? elem = some i) (hz : i.size = 1)
    (hcon : ∀ (g o mb n cap clk : Nat) (sa : Option Addr) (es : Array MapEntry) (ks : List Int) (w : World), WaitsAt w g o mb n cap clk sa es ks → Calls P f #[.pointer (some ⟨g, o, none⟩)] w fun e w' => (ks = [] → e = .returned (.slice none 0 0) ∧ RowKit.Below w.heap.size w w') ∧ (ks ≠ [] → ∃ v, e = .returned v ∧ NewRowAt P w w' elem ((isort ks).map (.int .i64)) v))
    {N : Nat} {ι : Ren} {H : AH} {w : World} {args : List Value} {args' : Array Value} {v : Value} {H' : AH} (hN : H'.next ≤ N) (hwx : Wx E N ι H w) (hargs : VRs ι args args'.toList) (h : hWaits elem args H = some (v, H')) : CallsIn Fence.wide 0 E.P f args' w (CallQ E N ι H w (.val v H')) := by
  obtain ⟨r, hr, h⟩ := ob_some.1 h
  obtain ⟨k1, h⟩ := bi_none.1 h
  obtain ⟨a, ha, h⟩ := ob_some.1 h
  obtain ⟨p, hp, h⟩ := ob_some.1 h
  obtain ⟨c, hc, h⟩ := ob_some.1 h
  obtain ⟨l, hl, h⟩ := ob_some.1 h
  obtain ⟨sv, hsv, h⟩ := ob_some.1 h
  obtain ⟨mv, hmv, h⟩ := ob_some.1 h
  obtain ⟨q, hq, h⟩ := ob_some.1 h
  obtain ⟨mo, hmo, h⟩ := ob_some.1 h
  obtain ⟨mb, hmb, h⟩ := ob_some.1 h
  obtain ⟨m, hm, h⟩ := ob_some.1 h
  obtain ⟨ks, hks, h⟩ := ob_some.1 h
  obtain ⟨k2, hfin⟩ := bi_none.1 h
  obtain ⟨c1, k2⟩ := ba_iff.1 k2
  obtain ⟨c2, k2⟩ := ba_iff.1 k2
  obtain ⟨c3, k2⟩ := ba_iff.1 k2
  obtain ⟨c4, k2⟩ := ba_iff.1 k2
  obtain ⟨c5, c6⟩ := ba_iff.1 k2
  have c1 := blt_iff.1 c1
  have c2 := blt_iff.1 c2
  have c3 := blt_iff.1 c3
  have c4 := bornB_ok c4
  have c5 := nodL_ok (fun a b => beq_iff) c5
  have c6 := nodL_ok ieqB_iff c6
  rw [lenL_eq] at c3
  rw [bornsL_eq] at c5
  obtain ⟨x, rfl, hx⟩ := oneArg hr k1 hargs
  have := vPtr_some ha; subst this
  obtain ⟨g, d, hxe, hg⟩ := hx.ptr_inv hp
  subst hxe
  obtain ⟨cs, fz, hh, hcs, hss⟩ := hwx.hr.cells hc hg
  obtain ⟨l1, l2, l', l3, l4⟩ := hcs.from hl
  have := vSl_some hq; subst this
  have := vMap_some hmo; subst this
  obtain ⟨qa, n, cap⟩ := q
  have c1 : 0 < n := c1
  have c2 : n < 1099511627776 := c2
  have hmb : mo = some mb := hmb
  subst hmb
  rw [getL_eq] at hsv hmv
  match l, l1 with
  | [u1, u2], _ =>
  have hsv : some u1 = some _ := hsv
  have hmv : some u2 = some _ := hmv
  cases hsv
  cases hmv
  obtain ⟨v1, e1, r1⟩ := l3.get (show ([(.slice qa n cap), .map (some mb)] : List Value)[0]? = some _ from rfl)
  obtain ⟨v2, e2, r2⟩ := l3.get (show ([(.slice qa n cap), .map (some mb)] : List Value)[1]? = some _ from rfl)
  have z1 := l4 0 v1 e1
  have z2 := l4 1 v2 e2
  rcases r2.map_inv with ⟨h0, -⟩ | ⟨r0, cc, h0, rfl, hgm⟩
  · cases h0
  cases h0
  obtain ⟨gm, dm, hgm2, hbr⟩ := hwx.hr.blk _ _ (AH.map_some hm)
  rw [hgm] at hgm2
  cases hgm2
  obtain ⟨-, es', hblk, hL2⟩ := hbr
  obtain ⟨k3, k4⟩ := keysI_ok hks
  obtain ⟨k5, k6⟩ := L2_keys hL2 k3
  have hv1 : ∃ sa cap', v1 = .slice sa n cap' := by
    rcases r1.sl_inv with ⟨-, rfl⟩ | ⟨b0, o0, b', o', c', -, rfl, -, -, -⟩
    · exact ⟨_, _, rfl⟩
    · exact ⟨_, _, rfl⟩
  obtain ⟨sa, cap', rfl⟩ := hv1
  have hc := hcon g (p.2 + d) cc n cap' m.2 sa es' ks w ⟨by unfold World.cell?; simp only [hh]; exact z1, by unfold World.cell?; simp only [hh]; exact z2, c1, c2, hblk, k5, fun x hx => ?_, by rw [k6]; exact c5, c6, k4, c3⟩
  · rcases bi_or.1 hfin with ⟨hn, h⟩ | ⟨hn, h⟩
    · cases h
      have hn := nilL_iff.1 hn
      exact readC_ok hwx rfl (hP ▸ hc.mono fun e w' q => q.1 hn)
    · cases h
      have hn : ks ≠ [] := fun e => by rw [e] at hn; cases hn
      rw [lenL_eq, i64L_eq]
      refine newRow_ok hP hi hz ?_ hwx hN ?_
      · have : ∀ l : List Int, allL plain (l.map (.int .i64)) = true := by
          intro l
          induction l with
          | nil => rfl
          | cons x l ih => exact ih
        exact this _
      · exact hc.mono fun e w' q => q.2 hn
  · have : x.born ∈ es'.toList.map (·.born) := List.mem_map_of_mem hx
    rw [k6] at this
    obtain ⟨e, he, h1⟩ := List.mem_map.1 this
    rw [← h1]
    exact c4 e he
end Go.Proofs.YthikcbbfnicnlaaGreatDoor.Ev
namespace Go.Proofs.YthikcbbfnicnlaaGreatDoor.Ev
open Go
set_option linter.unusedVariables false
set_option linter.unusedSimpArgs false
structure MemIn (E : En) (m : Mem2) : Prop where
  le : m.next ≤ m.next'
  run : ∃ (E1 : En) (n : Nat), E.P = E1.P ∧ E.g = E1.g ∧ E.w0 = E1.w0 ∧ E.roB = E1.roB ∧ EnOk E1 ∧ mem2Chk E1 n m = true
theorem EnOk.memsIn {E : En} (hE : EnOk E) {l : List Mem2} (hl : ∀ m ∈ l, MemIn E m) : EnOk (E.mems l) where
  mix := hE.mix
  hx := hE.hx.like (E1 := E) (E2 := E.mems l) rfl rfl rfl
  hxn := hE.hxn
  he := fun f h hf N ι H w args args' v H' hN hwx hargs hr => by
    cases (show some _ = some h from hf)
    have lk : Like (E.mems l) E := ⟨rfl, rfl, rfl, rfl⟩
    rcases oc_some.1 (show oc (mem2F l f args H) (heOf E f args H) (fun p => some p) = some (v, H') from hr) with ⟨-, h1⟩ | ⟨p, h1, h2⟩
    · obtain ⟨g, h2, h3⟩ := heOf_some h1
      exact CallsIn.mono (hE.he f g h2 N ι H w args args' v H' hN (hwx.like lk) hargs h3) fun e w' q => q.like lk.symm
    · cases h2
      obtain ⟨m, hm, rfl, h3⟩ := mem2F_some h1
      obtain ⟨E1, n, e1, e2, e3, e4, ok, hc⟩ := (hl m hm).run
      exact hMem2_ok (E1 := E1) (E2 := E.mems l) e1 e2 e3 e4 ok.mix ok.hx ok.hxn ok.he ok.hen hc hN hwx hargs h3
  hen := fun f h hf args H v H' hr => by
    cases (show some _ = some h from hf)
    rcases oc_some.1 (show oc (mem2F l f args H) (heOf E f args H) (fun p => some p) = some (v, H') from hr) with ⟨-, h1⟩ | ⟨p, h1, h2⟩
    · obtain ⟨g, h2, h3⟩ := heOf_some h1
      exact hE.hen f g h2 args H v H' h3
    · cases h2
      obtain ⟨m, hm, rfl, h3⟩ := mem2F_some h1
      exact hMem2_nn (hl m hm).le h3
theorem memInNil (E : En) : ∀ m ∈ ([] : List Mem2), MemIn E m := fun _ h => nomatch h
theorem memInCons {E E1 : En} {m : Mem2} {l : List Mem2} {n : Nat} (h1 : Nat.ble m.next m.next' = true) (e1 : E.P = E1.P) (e2 : E.g = E1.g) (e3 : E.w0 = E1.w0) (e4 : E.roB = E1.roB) (hE : EnOk E1) (h2 : mem2Chk E1 n m = true) (h : ∀ m ∈ l, MemIn E m) : ∀ x ∈ m :: l, MemIn E x := fun x hx => by
  rcases List.mem_cons.1 hx with rfl | hx
  · exact ⟨ble_iff.1 h1, E1, n, e1, e2, e3, e4, hE, h2⟩
  · exact h x hx
/-- Many at once, at the same stage. -/
noncomputable def memsChk (E : En) (n : Nat) (l : List Mem2) : Bool := List.rec (motive := fun _ => Bool) true (fun m _ r => ba (ba (Nat.ble m.next m.next') (mem2Chk E n m)) r) l
theorem memsChk_in {E : En} (hE : EnOk E) {n : Nat} : ∀ {l : List Mem2}, memsChk E n l = true → ∀ m ∈ l, MemIn E m
  | [], _, _, h => nomatch h
  | x :: l, h, m, hm => by
    obtain ⟨h1, h2⟩ := ba_iff.1 (show ba (ba (Nat.ble x.next x.next') (mem2Chk E n x)) (memsChk E n l) = true from h)
    obtain ⟨h3, h4⟩ := ba_iff.1 h1
    rcases List.mem_cons.1 hm with rfl | hm
    · exact ⟨ble_iff.1 h3, E, n, rfl, rfl, rfl, rfl, hE, h4⟩
    · exact memsChk_in hE h2 m hm
theorem MemIn.like {E E2 : En} (e1 : E2.P = E.P) (e2 : E2.g = E.g) (e3 : E2.w0 = E.w0) (e4 : E2.roB = E.roB) {m : Mem2} (h : MemIn E m) : MemIn E2 m := by
  obtain ⟨h0, E1, n, h1, h2, h3, h4, h5, h6⟩ := h
  exact ⟨h0, E1, n, e1.trans h1, e2.trans h2, e3.trans h3, e4.trans h4, h5, h6⟩
theorem EnOk.newsIn {E E1 : En} (hE : EnOk E) (e1 : E.P = E1.P) (e3 : E.w0 = E1.w0) (e4 : E.roB = E1.roB) (hE1 : EnOk E1) {ι0 : Ren} {H0 : AH} (hs : StartOk E1 ι0 H0) {l : List Fresh} (hl : ∀ m ∈ l, ∃ n, freshChk E1 n H0 m = true) : EnOk (E.news l) where
  mix := hE.mix
  hx := hE.hx.like (E1 := E) (E2 := E.news l) rfl rfl rfl
  hxn := hE.hxn
  he := fun f h hf N ι H w args args' v H' hN hwx hargs hr => by
    cases (show some _ = some h from hf)
    have lk : Like (E.news l) E := ⟨rfl, rfl, rfl, rfl⟩
    rcases oc_some.1 (show oc (freshF l f args H) (heOf E f args H) (fun p => some p) = some (v, H') from hr) with ⟨-, h1⟩ | ⟨p, h1, h2⟩
    · obtain ⟨g, h2, h3⟩ := heOf_some h1
      exact CallsIn.mono (hE.he f g h2 N ι H w args args' v H' hN (hwx.like lk) hargs h3) fun e w' q => q.like lk.symm
    · cases h2
      obtain ⟨m, hm, rfl, h3⟩ := freshF_some h1
      obtain ⟨n, hc⟩ := hl m hm
      exact hFresh_ok (E1 := E1) (E2 := E.news l) hs e1 e3 e4 hE1.mix hE1.hx hE1.hxn hE1.he hE1.hen hc hN hwx hargs h3
  hen := fun f h hf args H v H' hr => by
    cases (show some _ = some h from hf)
    rcases oc_some.1 (show oc (freshF l f args H) (heOf E f args H) (fun p => some p) = some (v, H') from hr) with ⟨-, h1⟩ | ⟨p, h1, h2⟩
    · obtain ⟨g, h2, h3⟩ := heOf_some h1
      exact hE.hen f g h2 args H v H' h3
    · cases h2
      obtain ⟨m, hm, rfl, h3⟩ := freshF_some h1
      exact hFresh_nn h3
end Go.Proofs.YthikcbbfnicnlaaGreatDoor.Ev
namespace Go.Proofs.YthikcbbfnicnlaaGreatDoor.Ev
open Go
set_option linter.unusedVariables false
set_option linter.unusedSimpArgs false
noncomputable def memL (g : Nat → Mem2) (n : Nat) : Nat → List Mem2 := Nat.rec (motive := fun _ => Nat → List Mem2) (fun _ => []) (fun _ h a => g a :: h (Nat.succ a)) n
noncomputable def En.memsR (E : En) (f0 lo hi : Nat) (l : List Mem2) : En := ⟨E.P, E.g, fun f => some fun args H => oc (bi (Nat.beq f0 f) (bi (ba (Nat.ble lo H.next) (Nat.blt H.next hi)) (mem2F l f args H) none) none) (heOf E f args H) fun p => some p, E.hx, E.w0, E.roB⟩
theorem EnOk.memsRIn {E : En} (hE : EnOk E) {f0 lo hi : Nat} {l : List Mem2} (hl : ∀ m ∈ l, MemIn E m) : EnOk (E.memsR f0 lo hi l) where
  mix := hE.mix
  hx := hE.hx.like (E1 := E) (E2 := E.memsR f0 lo hi l) rfl rfl rfl
  hxn := hE.hxn
  he := fun f h hf N ι H w args args' v H' hN hwx hargs hr => by
    cases (show some _ = some h from hf)
    have lk : Like (E.memsR f0 lo hi l) E := ⟨rfl, rfl, rfl, rfl⟩
    rcases oc_some.1 (show oc (bi (Nat.beq f0 f) (bi (ba (Nat.ble lo H.next) (Nat.blt H.next hi)) (mem2F l f args H) none) none) (heOf E f args H) (fun p => some p) = some (v, H') from hr) with ⟨-, h1⟩ | ⟨p, h1, h2⟩
    · obtain ⟨g, h2, h3⟩ := heOf_some h1
      exact CallsIn.mono (hE.he f g h2 N ι H w args args' v H' hN (hwx.like lk) hargs h3) fun e w' q => q.like lk.symm
    · cases h2
      obtain ⟨-, h1⟩ := bi_none.1 h1
      obtain ⟨-, h1⟩ := bi_none.1 h1
      obtain ⟨m, hm, rfl, h3⟩ := mem2F_some h1
      obtain ⟨E1, n, e1, e2, e3, e4, ok, hc⟩ := (hl m hm).run
      exact hMem2_ok (E1 := E1) (E2 := E.memsR f0 lo hi l) e1 e2 e3 e4 ok.mix ok.hx ok.hxn ok.he ok.hen hc hN hwx hargs h3
  hen := fun f h hf args H v H' hr => by
    cases (show some _ = some h from hf)
    rcases oc_some.1 (show oc (bi (Nat.beq f0 f) (bi (ba (Nat.ble lo H.next) (Nat.blt H.next hi)) (mem2F l f args H) none) none) (heOf E f args H) (fun p => some p) = some (v, H') from hr) with ⟨-, h1⟩ | ⟨p, h1, h2⟩
    · obtain ⟨g, h2, h3⟩ := heOf_some h1
      exact hE.hen f g h2 args H v H' h3
    · cases h2
      obtain ⟨-, h1⟩ := bi_none.1 h1
      obtain ⟨-, h1⟩ := bi_none.1 h1
      obtain ⟨m, hm, rfl, h3⟩ := mem2F_some h1
      exact hMem2_nn (hl m hm).le h3
theorem StartOk.memsR {E : En} {ι0 : Ren} {H0 : AH} (hs : StartOk E ι0 H0) (f0 lo hi : Nat) (l : List Mem2) : StartOk (E.memsR f0 lo hi l) ι0 H0 := hs.like (E1 := E) (E2 := E.memsR f0 lo hi l) ⟨rfl, rfl, rfl, rfl⟩
/-- A chunk of memos that were checked at another stage. -/
theorem chunk_in {E E1 : En} (hE : EnOk E1) {n : Nat} {l : List Mem2} (h : memsChk E1 n l = true) (e1 : E.P = E1.P) (e2 : E.g = E1.g) (e3 : E.w0 = E1.w0) (e4 : E.roB = E1.roB) : ∀ m ∈ l, MemIn E m := fun m hm => (memsChk_in hE h m hm).like e1 e2 e3 e4
end Go.Proofs.YthikcbbfnicnlaaGreatDoor.Ev
namespace Go.Proofs.YthikcbbfnicnlaaGreatDoor.Ev
open Go
set_option linter.unusedVariables false
set_option linter.unusedSimpArgs false
noncomputable def trEqB (t : Tr Blk) : Tr Blk → Bool :=
  Tr.rec (motive := fun _ => Tr Blk → Bool) (fun u => Tr.rec (motive := fun _ => Bool) true (fun _ _ _ _ _ => false) u)
    (fun _ v _ gl gr u => Tr.rec (motive := fun _ => Bool) false (fun l x r _ _ => ba (eqO bkEq v x) (ba (gl l) (gr r))) u) t
theorem trEqB_ok : ∀ (t u : Tr Blk), trEqB t u = true → t = u
  | .nil, .nil, _ => rfl
  | .nil, .node .., h => nomatch (show false = true from h)
  | .node .., .nil, h => nomatch (show false = true from h)
  | .node l v r, .node l' v' r', h => by
    obtain ⟨h1, h⟩ := ba_iff.1 (show ba (eqO bkEq v v') (ba (trEqB l l') (trEqB r r')) = true from h)
    obtain ⟨h2, h3⟩ := ba_iff.1 h
    have h1 := eqO_ok bkEq_ok h1
    have h2 := trEqB_ok l l' h2
    have h3 := trEqB_ok r r' h3
    subst h1 h2 h3
    rfl
noncomputable def ahEq (a b : AH) : Bool := ba (Nat.beq a.next b.next) (trEqB a.t b.t)
theorem ahEq_ok {a b : AH} (h : ahEq a b = true) : a = b := by
  obtain ⟨h1, h2⟩ := ba_iff.1 h
  have h1 := beq_iff.1 h1
  have h2 := trEqB_ok _ _ h2
  obtain ⟨n, t⟩ := a
  obtain ⟨m, u⟩ := b
  have h1 : n = m := h1
  have h2 : t = u := h2
  rw [h1, h2]
noncomputable def stEq (a b : St) : Bool := ba (trEq a.T b.T) (eqAll Nat.beq a.ds b.ds)
theorem stEq_ok {a b : St} (h : stEq a b = true) : a = b := by
  obtain ⟨h1, h2⟩ := ba_iff.1 h
  have h1 := trEq_ok _ _ h1
  have h2 := eqAll_ok (fun a b h => beq_iff.1 h) h2
  obtain ⟨n, t⟩ := a
  obtain ⟨m, u⟩ := b
  have h1 : n = m := h1
  have h2 : t = u := h2
  rw [h1, h2]
noncomputable def xIs (id : Nat) (x : X) : Bool := X.rec (motive := fun _ => Bool) false (fun i => Nat.beq i id) false x
noncomputable def cdChk (E : En) (n : Nat) (tk : Tk) (H : AH) (q : X → Bool) (S1 : St) (H1 : AH) : Bool := oc (ev E n tk H) false fun r => oc (rCd r) false fun p => ba (q p.1) (ba (stEq p.2.1 S1) (ahEq p.2.2 H1))
theorem cdChk_ok {E : En} {n : Nat} {tk : Tk} {H : AH} {q : X → Bool} {S1 : St} {H1 : AH} (h : cdChk E n tk H q S1 H1 = true) : ∃ x, q x = true ∧ ev E n tk H = some (.cd x S1 H1) := by
  obtain ⟨r, hr, h⟩ := ocB h
  obtain ⟨p, hp, h⟩ := ocB h
  obtain ⟨h1, h⟩ := ba_iff.1 h
  obtain ⟨h2, h3⟩ := ba_iff.1 h
  have := rCd_some hp
  have h2 := stEq_ok h2
  have h3 := ahEq_ok h3
  exact ⟨p.1, h1, by rw [hr, this, h2, h3]⟩
theorem cdN {E : En} {n : Nat} {tk : Tk} {H : AH} {S1 : St} {H1 : AH} (h : cdChk E n tk H isNormal S1 H1 = true) : ev E n tk H = some (.cd .normal S1 H1) := by
  obtain ⟨x, h1, h2⟩ := cdChk_ok h
  cases x with
  | normal => exact h2
  | exit id => exact nomatch (show false = true from h1)
  | ret => exact nomatch (show false = true from h1)
theorem cdX {E : En} {n : Nat} {tk : Tk} {H : AH} {id : Nat} {S1 : St} {H1 : AH} (h : cdChk E n tk H (xIs id) S1 H1 = true) : ev E n tk H = some (.cd (.exit id) S1 H1) := by
  obtain ⟨x, h1, h2⟩ := cdChk_ok h
  cases x with
  | normal => exact nomatch (show false = true from h1)
  | exit i =>
    have : i = id := beq_iff.1 h1
    rw [h2, this]
  | ret => exact nomatch (show false = true from h1)
theorem ev_seq {E : En} {n : Nat} {fi : Fi} {a b : Code} {S S1 : St} {H H1 : AH} (h : ev E n (.code fi a S) H = some (.cd .normal S1 H1)) : ev E (n + 1) (.code fi (.seq a b) S) H = ev E n (.code fi b S1) H1 := by
  show thenD (ev E n) (ev E n (.code fi a S) H) (.code fi b) = _
  rw [h]
  rfl
theorem ev_block {E : En} {n : Nat} {fi : Fi} {c : Code} {S S1 : St} {H H1 : AH} {id : Nat} {x : X} (h : ev E n (.code fi c S) H = some (.cd x S1 H1)) : ev E (n + 1) (.code fi (.block id c) S) H = some (.cd (blockX x id) S1 H1) := by
  show ob (ev E n (.code fi c S) H) (fun x => ob (rCd x) fun p => some (Res.cd (blockX p.1 id) p.2.1 p.2.2)) = _
  rw [h]
  rfl
/-- So many rounds, from fuel n on. -/
noncomputable def itR (E : En) (fi : Fi) (c : Code) (m : Nat) : Nat → St → AH → Option (St × AH) := Nat.rec (motive := fun _ => Nat → St → AH → Option (St × AH)) (fun _ S H => some (S, H))
  (fun _ g n S H => ob (ev E (Nat.pred n) (.code fi c S) H) fun x => ob (rCd x) fun p => bi (isNormal p.1) (g (Nat.pred n) p.2.1 p.2.2) none) m
theorem itR_ok {E : En} {fi : Fi} {c : Code} : ∀ (m n : Nat) {S S' : St} {H H' : AH}, m < n → itR E fi c m n S H = some (S', H') → ev E n (.rounds fi c S) H = ev E (n - m) (.rounds fi c S') H'
  | 0, n, S, S', H, H', _, h => by
    cases (show some (S, H) = some (S', H') from h)
    rfl
  | m + 1, 0, S, S', H, H', hn, h => absurd hn (by omega)
  | m + 1, n + 1, S, S', H, H', hn, h => by
    obtain ⟨x, hx, h⟩ := ob_some.1 (show ob (ev E n (.code fi c S) H) (fun x => ob (rCd x) fun p => bi (isNormal p.1) (itR E fi c m n p.2.1 p.2.2) none) = some (S', H') from h)
    obtain ⟨p, hp, h⟩ := ob_some.1 h
    obtain ⟨h1, h⟩ := bi_none.1 h
    have := rCd_some hp
    obtain ⟨px, pS, pH⟩ := p
    cases px with
    | exit i => exact nomatch (show false = true from h1)
    | ret => exact nomatch (show false = true from h1)
    | normal =>
      have hx : ev E n (.code fi c S) H = some (.cd .normal pS pH) := by rw [hx, this]
      have ih := itR_ok m n (by omega) h
      show thenD (ev E n) (ev E n (.code fi c S) H) (.rounds fi c) = _
      rw [hx]
      show ev E n (.rounds fi c pS) pH = _
      rw [ih, show n + 1 - (m + 1) = n - m by omega]
noncomputable def itChk (E : En) (fi : Fi) (c : Code) (m n : Nat) (S : St) (H : AH) (S1 : St) (H1 : AH) : Bool := oc (itR E fi c m n S H) false fun p => ba (stEq p.1 S1) (ahEq p.2 H1)
theorem itChk_ok {E : En} {fi : Fi} {c : Code} {m n : Nat} {S S1 : St} {H H1 : AH} (hm : m < n) (h : itChk E fi c m n S H S1 H1 = true) : ev E n (.rounds fi c S) H = ev E (n - m) (.rounds fi c S1) H1 := by
  obtain ⟨p, hp, h⟩ := ocB h
  obtain ⟨h2, h3⟩ := ba_iff.1 h
  have h2 := stEq_ok h2
  have h3 := ahEq_ok h3
  obtain ⟨a, b⟩ := p
  have h2 : a = S1 := h2
  have h3 : b = H1 := h3
  subst h2 h3
  exact itR_ok m n hm hp
noncomputable def finChk (E : En) (n : Nat) (rs : List ResultVar) (tk : Tk) (H : AH) (v : Value) (H1 : AH) : Bool := oc (retD E.P rs (ev E n tk H)) false fun r => oc (rVal r) false fun p => ba (veq 6 v p.1) (ahEq p.2 H1)
theorem finChk_ok {E : En} {n : Nat} {rs : List ResultVar} {tk : Tk} {H H1 : AH} {v : Value} (h : finChk E n rs tk H v H1 = true) : retD E.P rs (ev E n tk H) = some (.val v H1) := by
  obtain ⟨r, hr, h⟩ := ocB h
  obtain ⟨p, hp, h⟩ := ocB h
  obtain ⟨h2, h3⟩ := ba_iff.1 h
  have h2 := veq_ok 6 _ _ h2
  have h3 := ahEq_ok h3
  have := rVal_some hp
  rw [hr, this, h2, h3]
theorem enter_none {E : En} {f : FuncId} {args : List Value} {n : Nat} {H : AH} {fd : Func} {c : Code} (h0 : heOf E f args H = none) (h1 : E.P.funcs[f]? = some fd) (h2 : fd.body = some c) (h3 : Nat.ble (lenL args) fd.ntmps = true) :
    ev E (n + 1) (.call (.enter f args)) H = retD E.P fd.results.toList (ev E n (.code ⟨f, fd.ntmps, none⟩ c ⟨Tr.ofList args, []⟩) H) := by
  show oc (ob (E.he f) fun h => h args H) (ob E.P.funcs[f]? fun fd => ob fd.body fun c => bi (Nat.ble (lenL args) fd.ntmps) (retD E.P fd.results.toList (ev E n (.code ⟨f, fd.ntmps, none⟩ c ⟨Tr.ofList args, []⟩) H)) none) (fun p => some (Res.val p.1 p.2)) = _
  have h4 : (ob (E.he f) fun h => h args H) = none := by
    unfold heOf at h0
    cases hh : E.he f with
    | none => rfl
    | some g => rw [hh] at h0; exact h0
  rw [h4, h1]
  show ob fd.body (fun c => bi (Nat.ble (lenL args) fd.ntmps) (retD E.P fd.results.toList (ev E n (.code ⟨f, fd.ntmps, none⟩ c ⟨Tr.ofList args, []⟩) H)) none) = _
  rw [h2]
  show bi (Nat.ble (lenL args) fd.ntmps) (retD E.P fd.results.toList (ev E n (.code ⟨f, fd.ntmps, none⟩ c ⟨Tr.ofList args, []⟩) H)) none = _
  rw [h3]
  rfl
/-- A call of the form: some code, a test, more code, a loop of m rounds, an end. -/
theorem loop_call {E : En} {f : FuncId} {args : List Value} {H0 : AH} {fd : Func} {m : Nat} {B R0 IFc R3 R4 LB END : Code} {S1 S2 S3 S4 S5 S6 : St} {H1 H2 H3 H4 H5 H6 Hend : AH} {v : Value}
    (h0 : heOf E f args H0 = none) (h1 : E.P.funcs[f]? = some fd) (h2 : fd.body = some B) (h3 : Nat.ble (lenL args) fd.ntmps = true) (hB : B = .seq R0 (.seq IFc (.seq R3 (.seq (.seq R4 (.block 0 (.loop LB))) END))))
    (c0 : cdChk E 999998 (.code ⟨f, fd.ntmps, none⟩ R0 ⟨Tr.ofList args, []⟩) H0 isNormal S1 H1 = true)
    (c1 : cdChk E 999997 (.code ⟨f, fd.ntmps, none⟩ IFc S1) H1 isNormal S2 H2 = true)
    (c2 : cdChk E 999996 (.code ⟨f, fd.ntmps, none⟩ R3 S2) H2 isNormal S3 H3 = true)
    (c3 : cdChk E 999994 (.code ⟨f, fd.ntmps, none⟩ R4 S3) H3 isNormal S4 H4 = true)
    (s : ev E 999993 (.rounds ⟨f, fd.ntmps, none⟩ LB S4) H4 = ev E m (.rounds ⟨f, fd.ntmps, none⟩ LB S5) H5)
    (c4 : cdChk E m (.rounds ⟨f, fd.ntmps, none⟩ LB S5) H5 (xIs 0) S6 H6 = true)
    (c5 : finChk E 999995 fd.results.toList (.code ⟨f, fd.ntmps, none⟩ END S6) H6 v Hend = true) :
    ev E 1000000 (.call (.enter f args)) H0 = some (.val v Hend) := by
  rw [show (1000000 : Nat) = 999999 + 1 from rfl, enter_none h0 h1 h2 h3, hB]
  rw [show (999999 : Nat) = 999998 + 1 from rfl, ev_seq (cdN c0)]
  rw [show (999998 : Nat) = 999997 + 1 from rfl, ev_seq (cdN c1)]
  rw [show (999997 : Nat) = 999996 + 1 from rfl, ev_seq (cdN c2)]
  have hl : ev E 999993 (.code ⟨f, fd.ntmps, none⟩ (.loop LB) S4) H4 = some (.cd (.exit 0) S6 H6) := by
    have : ev E 999993 (.code ⟨f, fd.ntmps, none⟩ (.loop LB) S4) H4 = ev E 999993 (.rounds ⟨f, fd.ntmps, none⟩ LB S4) H4 := rfl
    rw [this, s, cdX c4]
  have hb : ev E (999993 + 1) (.code ⟨f, fd.ntmps, none⟩ (.block 0 (.loop LB)) S4) H4 = some (.cd .normal S6 H6) := ev_block hl
  have ha : ev E (999994 + 1) (.code ⟨f, fd.ntmps, none⟩ (.seq R4 (.block 0 (.loop LB))) S3) H3 = some (.cd .normal S6 H6) := (ev_seq (cdN c3)).trans hb
  rw [show (999996 : Nat) = 999995 + 1 from rfl, ev_seq (show ev E 999995 (.code ⟨f, fd.ntmps, none⟩ (.seq R4 (.block 0 (.loop LB))) S3) H3 = some (.cd .normal S6 H6) from ha)]
  exact finChk_ok c5
theorem mem2Chk_of {E : En} {m : Mem2} {v : Value} {Hend : AH} (h : ev E 1000000 (.call (.enter m.f m.args)) (putB m.keep (putB m.sub ⟨m.next, .nil⟩)) = some (.val v Hend)) (h2 : ba (veq 6 m.v v) (ba (Nat.beq Hend.next m.next') (ba (hasB Hend m.keep) (hasB Hend m.out))) = true) : mem2Chk E 1000000 m = true := by
  unfold mem2Chk
  rw [h]
  exact h2
end Go.Proofs.YthikcbbfnicnlaaGreatDoor.Ev
namespace Go.Proofs.YthikcbbfnicnlaaGreatDoor.Ev
open Go
set_option linter.unusedVariables false
set_option linter.unusedSimpArgs false
noncomputable def i64Of (v : Value) : Option Int := ob (vInt v) fun p => bi (ikeq p.1 .i64) (some p.2) none
theorem i64Of_some {v : Value} {n : Int} (h : i64Of v = some n) : v = .int .i64 n := by
  obtain ⟨p, hp, h⟩ := ob_some.1 h
  obtain ⟨h1, h2⟩ := bi_none.1 h
  cases h2
  have := vInt_some hp
  have h1 := ikeq_iff h1
  obtain ⟨k, i⟩ := p
  have h1 : k = .i64 := h1
  subst h1
  exact this
noncomputable def twoI (H : AH) (v : Value) : Option (Int × Int) := ob (vPtr v) fun a => ob (place a) fun p => ob (H.cells p.1) fun c => ob (c.from p.2 2) fun l => ob (getL l 0) fun x => ob (getL l 1) fun y => ob (i64Of x) fun x => ob (i64Of y) fun y => some (x, y)
theorem twoI_ok {E : En} {N : Nat} {ι : Ren} {H : AH} {w : World} (hwx : Wx E N ι H w) {v v' : Value} {q : Int × Int} (hv : VR ι v v') (h : twoI H v = some q) : ∃ b o, v' = .pointer (some ⟨b, o, none⟩) ∧ w.cell? ⟨b, o, none⟩ = some (.int .i64 q.1) ∧ w.cell? ⟨b, o + 1, none⟩ = some (.int .i64 q.2) := by
  obtain ⟨a, ha, h⟩ := ob_some.1 h
  obtain ⟨p, hp, h⟩ := ob_some.1 h
  obtain ⟨c, hc, h⟩ := ob_some.1 h
  obtain ⟨l, hl, h⟩ := ob_some.1 h
  obtain ⟨x, hx, h⟩ := ob_some.1 h
  obtain ⟨y, hy, h⟩ := ob_some.1 h
  obtain ⟨x1, hx1, h⟩ := ob_some.1 h
  obtain ⟨y1, hy1, h⟩ := ob_some.1 h
  cases h
  have := vPtr_some ha; subst this
  obtain ⟨g, d, hxe, hg⟩ := hv.ptr_inv hp
  subst hxe
  obtain ⟨cs, fz, hh, hcs, hss⟩ := hwx.hr.cells hc hg
  obtain ⟨l1, l2, l', l3, l4⟩ := hcs.from hl
  have := i64Of_some hx1; subst this
  have := i64Of_some hy1; subst this
  rw [getL_eq] at hx hy
  match l, l1 with
  | [u1, u2], _ =>
  cases (show some u1 = some _ from hx)
  cases (show some u2 = some _ from hy)
  obtain ⟨v1, e1, r1⟩ := l3.get (show ([.int .i64 x1, .int .i64 y1] : List Value)[0]? = some _ from rfl)
  obtain ⟨v2, e2, r2⟩ := l3.get (show ([.int .i64 x1, .int .i64 y1] : List Value)[1]? = some _ from rfl)
  have z1 := l4 0 v1 e1
  have z2 := l4 1 v2 e2
  rw [r1.int_inv] at z1
  rw [r2.int_inv] at z2
  refine ⟨g, p.2 + d, rfl, ?_, ?_⟩
  · unfold World.cell?
    simp only [hh]
    exact z1
  · unfold World.cell?
    simp only [hh]
    exact z2
noncomputable def hKey : Hook := fun args H => ob (getL args 0) fun a => ob (getL args 1) fun b => bi (Nat.beq (lenL args) 2) (ob (twoI H a) fun p => ob (twoI H b) fun q => some (.bool (ba (ieqB p.1 q.1) (ieqB p.2 q.2)), H)) none
theorem hKey_nn {args : List Value} {H H' : AH} {v : Value} (h : hKey args H = some (v, H')) : H.next ≤ H'.next := by
  obtain ⟨a, ha, h⟩ := ob_some.1 h
  obtain ⟨b, hb, h⟩ := ob_some.1 h
  obtain ⟨k, h⟩ := bi_none.1 h
  obtain ⟨p, hp, h⟩ := ob_some.1 h
  obtain ⟨q, hq, h⟩ := ob_some.1 h
  cases h
  exact Nat.le_refl _
theorem hKey_ok {E : En} {f : FuncId} (hcon : ∀ (b o c p : Nat) (x y u v : Int) (w : World), w.cell? ⟨b, o, none⟩ = some (.int .i64 x) → w.cell? ⟨b, o + 1, none⟩ = some (.int .i64 y) → w.cell? ⟨c, p, none⟩ = some (.int .i64 u) → w.cell? ⟨c, p + 1, none⟩ = some (.int .i64 v) →
      Calls E.P f #[.pointer (some ⟨b, o, none⟩), .pointer (some ⟨c, p, none⟩)] w fun e w' => e = .returned (.bool (x == u && y == v)) ∧ RowKit.Below w.heap.size w w')
    {N : Nat} {ι : Ren} {H : AH} {w : World} {args : List Value} {args' : Array Value} {v : Value} {H' : AH} (hwx : Wx E N ι H w) (hargs : VRs ι args args'.toList) (h : hKey args H = some (v, H')) : CallsIn Fence.wide 0 E.P f args' w (CallQ E N ι H w (.val v H')) := by
  obtain ⟨a, ha, h⟩ := ob_some.1 h
  obtain ⟨b, hb, h⟩ := ob_some.1 h
  obtain ⟨k, h⟩ := bi_none.1 h
  obtain ⟨p, hp, h⟩ := ob_some.1 h
  obtain ⟨q, hq, h⟩ := ob_some.1 h
  cases h
  obtain ⟨x, y, rfl, hx, hy⟩ := twoArg ha hb k hargs
  obtain ⟨b1, o1, rfl, e1, e2⟩ := twoI_ok hwx hx hp
  obtain ⟨b2, o2, rfl, e3, e4⟩ := twoI_ok hwx hy hq
  have heq : ba (ieqB p.1 q.1) (ieqB p.2 q.2) = (p.1 == q.1 && p.2 == q.2) := by
    have h1 : ieqB p.1 q.1 = (p.1 == q.1) := by
      cases h : ieqB p.1 q.1 with
      | true => simp [(ieqB_iff _ _).1 h]
      | false => exact (beq_eq_false_iff_ne.2 fun e => by rw [(ieqB_iff _ _).2 e] at h; cases h).symm
    have h2 : ieqB p.2 q.2 = (p.2 == q.2) := by
      cases h : ieqB p.2 q.2 with
      | true => simp [(ieqB_iff _ _).1 h]
      | false => exact (beq_eq_false_iff_ne.2 fun e => by rw [(ieqB_iff _ _).2 e] at h; cases h).symm
    rw [h1, h2]
    cases (p.1 == q.1) <;> rfl
  rw [heq]
  exact readC_ok hwx rfl (hcon b1 o1 b2 o2 p.1 p.2 q.1 q.2 w e1 e2 e3 e4)
end Go.Proofs.YthikcbbfnicnlaaGreatDoor.Ev
