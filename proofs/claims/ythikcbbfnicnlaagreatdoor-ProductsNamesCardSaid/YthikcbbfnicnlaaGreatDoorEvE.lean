/- The evaluator: hooks, the start, calls on a part of the heap, chains of stages. -/
import Derived.Test.YthikcbbfnicnlaaGreatDoorEvD
import Derived.Lib.Index
import Derived.Lib.Strings
import Derived.Lib.AppendZerosOnto
namespace Go.Proofs.YthikcbbfnicnlaaGreatDoor.Ev
open Go
set_option linter.unusedVariables false
set_option linter.unusedSimpArgs false
theorem vPtrO_some {v : Value} {a : Option Addr} (h : vPtrO v = some a) : v = .pointer a := by
  cases v <;> first | (cases (show some _ = some a from h); rfl) | exact nomatch (show (none : Option (Option Addr)) = some a from h)
theorem hCopyCheck_ok {E : En} {elem : TypeId} {f : FuncId}
    (hfresh : ∀ (b : Nat) (w : World), w.cell? ⟨b, 0, none⟩ = some (.pointer none) → w.shape? b = some (elem, 2) → w.frozen? ⟨b, 0, none⟩ = false →
      Calls E.P f #[.pointer (some ⟨b, 0, none⟩)] w fun e w' => e = .returned (.tuple #[]) ∧ w' = w.setCell ⟨b, 0, none⟩ (.pointer (some ⟨b, 0, none⟩)))
    (hused : ∀ (b : Nat) (w : World), w.cell? ⟨b, 0, none⟩ = some (.pointer (some ⟨b, 0, none⟩)) →
      Calls E.P f #[.pointer (some ⟨b, 0, none⟩)] w fun e w' => e = .returned (.tuple #[]) ∧ w' = w)
    {N : Nat} {ι : Ren} {H : AH} {w : World} {args : List Value} {args' : Array Value} {v : Value} {H' : AH} (hwx : Wx E N ι H w) (hargs : VRs ι args args'.toList) (h : hCopyCheck elem args H = some (v, H')) :
    CallsIn Fence.wide 0 E.P f args' w (CallQ E N ι H w (.val v H')) := by
  obtain ⟨u, hu, k1⟩ := ob_some.1 h
  obtain ⟨a, ha, k2⟩ := ob_some.1 k1
  obtain ⟨p, hp, k3⟩ := ob_some.1 k2
  obtain ⟨k4, k5⟩ := bi_none.1 k3
  obtain ⟨c, hc, k6⟩ := ob_some.1 k5
  obtain ⟨k7, k8⟩ := bi_none.1 k6
  obtain ⟨u0, hu0, k9⟩ := ob_some.1 k8
  obtain ⟨q, hq, k10⟩ := ob_some.1 k9
  obtain ⟨k11, k12⟩ := ba_iff.1 k4
  have k11 := beq_iff.1 k11
  have k12 := beq_iff.1 k12
  rw [lenL_eq] at k11
  rw [getL_eq] at hu
  obtain ⟨k13, k14⟩ := ba_iff.1 k7
  obtain ⟨k14, k15⟩ := ba_iff.1 k14
  have k14 := beq_iff.1 k14
  have k15 := beq_iff.1 k15
  have hdf : c.dflt ≠ [] := by
    intro e
    have := nilL_iff.2 e
    rw [this] at k13
    exact Bool.noConfusion k13
  have := vPtr_some ha; subst this
  have := place_some hp
  obtain ⟨b, o⟩ := p
  have k12 : o = 0 := k12
  subst k12
  have this : a = ⟨b, 0, none⟩ := this
  subst this
  have : args = [.pointer (some ⟨b, 0, none⟩)] := by
    match args, k11 with
    | [x], _ => simp at hu; rw [hu]
  subst this
  obtain ⟨y, hy, hrel⟩ : ∃ y, args' = #[y] ∧ VR ι (.pointer (some ⟨b, 0, none⟩)) y := by
    generalize hl : args'.toList = l at hargs
    cases hargs with
    | cons h1 h2 =>
      cases h2
      exact ⟨_, by rw [← Array.toList_inj, hl], h1⟩
  obtain ⟨g, d, rfl, hg⟩ := hrel.ptr_inv hp
  obtain ⟨cs, fz, hh, hcs, hs⟩ := hwx.hr.cells hc hg
  obtain ⟨rfl, hsz, -⟩ := hcs.ex hdf
  subst hy
  obtain ⟨z, hz, hzr⟩ := hcs.cell 0 u0 (by omega) hu0
  have hcell : w.cell? ⟨g, 0, none⟩ = some z := by rw [cell_of hh]; exact hz
  have := vPtrO_some hq; subst this
  have hg : ι.f b = some (g, 0) := hg
  show CallsIn Fence.wide 0 E.P f #[.pointer (some ⟨g, 0, none⟩)] w _
  rcases q with _ | a2
  · obtain ⟨H1, hw1, k16⟩ := ob_some.1 (show ob (writeB H b 0 [.pointer (some ⟨b, 0, none⟩)] c) (fun H' => some ((.tuple ⟨[]⟩ : Value), H')) = some (v, H') from k10)
    cases k16
    have hz0 : z = .pointer none := by cases hzr; rfl
    subst hz0
    have hfz : w.frozen? ⟨g, 0, none⟩ = false := by
      obtain ⟨h1, h2⟩ := bi_none.1 hw1
      obtain ⟨a1, h1⟩ := ba_iff.1 h1
      obtain ⟨a2, h1⟩ := ba_iff.1 h1
      obtain ⟨a3, a4⟩ := ba_iff.1 h1
      have a2 := ble_iff.1 a2
      have a3 : c.ro = false := by simpa using a3
      rw [frozen_of hh]
      by_cases e1 : fz.1 ≤ 0
      · by_cases e2 : 0 < fz.2
        · have := hcs.frz a3 0 (by omega) e1 e2
          omega
        · simp [e2]
      · simp [e1]
    have hsh : w.shape? g = some (elem, 2) := by
      have : w.shape? g = some (c.elem, cs.size) := by simp [World.shape?, hh]
      rw [this, k15, hsz, k14]
    obtain ⟨w1, hst, hgo⟩ := writeB_ok (P := E.P) hwx.hr hwx.bnd hc hg hw1 (l' := [.pointer (some ⟨g, 0, none⟩)]) (.cons (VR.ptr b 0 g 0 hg) .nil)
    refine CallsIn.mono (callsIn_wide.2 (hfresh g w hcell hsh hfz)) ?_
    rintro e w' ⟨rfl, rfl⟩
    have hne : ¬ (fz.1 ≤ 0 ∧ 0 < fz.2) := by
      rintro ⟨e1, e2⟩
      rw [frozen_of hh] at hfz
      simp [e1, e2] at hfz
    have hrun := (store_run (P := E.P) (v := .pointer (some ⟨g, 0, none⟩)) hh (show 0 < cs.size by omega) hne rfl).1
    have : (storeCells ⟨g, 0 + 0, none⟩ [.pointer (some ⟨g, 0, none⟩)]).run E.P w = .ok () (w.setCell ⟨g, 0, none⟩ (.pointer (some ⟨g, 0, none⟩))) := by
      simp only [storeCells, Sem.run_bind, Addr.add_lit, Nat.add_zero, hrun, Result.andThen_ok, Sem.run_pure]
    rw [this] at hst
    cases hst
    exact ⟨_, _, _, rfl, rfl, ι, hwx.aft hgo, VR.tupL .nil⟩
  · obtain ⟨k16, k17⟩ := bi_none.1 (show bi (eqAddr a2 ⟨b, 0, none⟩) (some ((.tuple ⟨[]⟩ : Value), H)) none = some (v, H') from k10)
    cases k17
    have := eqAddr_ok k16
    subst this
    have hz0 : z = .pointer (some ⟨g, 0, none⟩) := by
      obtain ⟨c1, d1, e1, e2⟩ := hzr.ptr_inv (p := (b, 0)) rfl
      have : ι.f b = some (c1, d1) := e2
      rw [hg] at this
      cases this
      exact e1
    subst hz0
    refine CallsIn.mono (callsIn_wide.2 (hused g w hcell)) ?_
    rintro e w' ⟨rfl, rfl⟩
    exact ⟨_, _, _, rfl, rfl, ι, Aft.refl hwx, VR.tupL .nil⟩
theorem hCopyCheck_nn {elem : TypeId} {args : List Value} {H H' : AH} {v : Value} (h : hCopyCheck elem args H = some (v, H')) : H.next ≤ H'.next := by
  obtain ⟨u, hu, k1⟩ := ob_some.1 h
  obtain ⟨a, ha, k2⟩ := ob_some.1 k1
  obtain ⟨p, hp, k3⟩ := ob_some.1 k2
  obtain ⟨k4, k5⟩ := bi_none.1 k3
  obtain ⟨c, hc, k6⟩ := ob_some.1 k5
  obtain ⟨k7, k8⟩ := bi_none.1 k6
  obtain ⟨u0, hu0, k9⟩ := ob_some.1 k8
  obtain ⟨q, hq, k10⟩ := ob_some.1 k9
  rcases q with _ | a2
  · obtain ⟨H1, hw1, k16⟩ := ob_some.1 (show ob (writeB H p.1 0 [.pointer (some ⟨p.1, 0, none⟩)] c) (fun H' => some ((.tuple ⟨[]⟩ : Value), H')) = some (v, H') from k10)
    cases k16
    rw [writeB_nn hw1]
    exact Nat.le_refl _
  · obtain ⟨k16, k17⟩ := bi_none.1 (show bi (eqAddr a2 ⟨p.1, 0, none⟩) (some ((.tuple ⟨[]⟩ : Value), H)) none = some (v, H') from k10)
    cases k17
    exact Nat.le_refl _
theorem hMake_nn {elem : TypeId} {args : List Value} {H H' : AH} {v : Value} (h : hMakeNoZero elem args H = some (v, H')) : H.next ≤ H'.next := by
  obtain ⟨u, hu, k1⟩ := ob_some.1 h
  obtain ⟨p, hp, k2⟩ := ob_some.1 k1
  obtain ⟨k3, k4⟩ := bi_none.1 k2
  obtain ⟨n, hn2, k5⟩ := ob_some.1 k4
  obtain ⟨k6, k7⟩ := bi_none.1 k5
  cases k7
  exact Nat.le_succ _
theorem hTab_nn {l : List (List Value × Value)} {args : List Value} {H H' : AH} {v : Value} (h : hTab l args H = some (v, H')) : H.next ≤ H'.next := by
  rw [(hTab_some h).2]
  exact Nat.le_refl _
end Go.Proofs.YthikcbbfnicnlaaGreatDoor.Ev
namespace Go.Proofs.YthikcbbfnicnlaaGreatDoor.Ev
open Go
set_option linter.unusedVariables false
set_option linter.unusedSimpArgs false
abbrev Tab := Nat × TypeId × List Value
noncomputable def Tab.blk (p : Tab) : Blk := .cells p.2.1 (lenL p.2.2) 0 true [] (Tr.ofList p.2.2)
noncomputable def startH (g : Nat) (tabs : List Tab) : AH := List.rec (motive := fun _ => AH) ⟨g, .nil⟩ (fun p _ H => H.put p.1 (some p.blk)) tabs
def TabAt (w : World) (p : Tab) : Prop := ∃ f, w.heap[p.1]? = some (.cells p.2.2.toArray p.2.1 f)
def shapeOf (w : World) (c : Nat) : Option (Nat × TypeId) :=
  match w.heap[c]? with
  | some (.cells cs e _) => some (cs.size, e)
  | _ => none
def ren0 (P : Program) (g rb : Nat) (w : World) : Ren := ⟨fun k => if k < g then some (k, 0) else none, fun c => if c < rb then shapeOf w c else none, fun t => match P.info? t with | some i => i.size | none => 0⟩
theorem startH_next (g : Nat) : ∀ tabs : List Tab, (startH g tabs).next = g
  | [] => rfl
  | p :: r => (show (startH g r).next = g from startH_next g r)
theorem startH_get (g : Nat) : ∀ (tabs : List Tab) (b : Nat) (k : Blk), (startH g tabs).get b = some k → ∃ p ∈ tabs, p.1 = b ∧ k = p.blk
  | [], b, k, h => by
    have : (Tr.nil : Tr Blk).get b = some k := h
    simp [Tr.get_nil] at this
  | p :: r, b, k, h => by
    have h : ((startH g r).put p.1 (some p.blk)).get b = some k := h
    rw [AH.put_get] at h
    unfold upd at h
    split at h
    · rename_i e
      cases h
      exact ⟨p, List.mem_cons_self .., e.symm, rfl⟩
    · obtain ⟨q, hq, e1, e2⟩ := startH_get g r b k h
      exact ⟨q, List.mem_cons_of_mem _ hq, e1, e2⟩
theorem start_ok {E : En} {tabs : List Tab} (hB : E.g ≤ E.roB) (hsz : E.roB ≤ E.w0.heap.size) (hg : ∀ p ∈ tabs, p.1 < E.g) (hp : ∀ p ∈ tabs, allL plain p.2.2 = true) (ht : ∀ p ∈ tabs, TabAt E.w0 p) :
    StartOk E (ren0 E.P E.g E.roB E.w0) (startH E.g tabs) := by
  have hown : ∀ c, ¬ Own (ren0 E.P E.g E.roB E.w0) (startH E.g tabs).get c := by
    rintro c ⟨b, k, d, h1, h2, h3⟩
    obtain ⟨p, hpm, rfl, rfl⟩ := startH_get _ _ _ _ h1
    exact Bool.noConfusion (show true = false from h2)
  refine ⟨fun w N hle hsame => ?_, hown⟩
  refine ⟨⟨fun b k hk => ?_, fun b1 b2 k1 k2 c d1 d2 h1 h2 e1 e2 => ?_, fun c p h => ?_⟩, fun b k hk => ?_, fun k hk => ?_, fun t i hi => ?_, fun b h1 h2 => ?_, hle, hsame, fun c hc => hown c⟩
  · obtain ⟨p, hpm, rfl, rfl⟩ := startH_get _ _ _ _ hk
    have hlt := hg p hpm
    refine ⟨p.1, 0, show (if p.1 < E.g then some (p.1, 0) else none) = _ by rw [if_pos hlt], ?_⟩
    obtain ⟨f, hf⟩ := ht p hpm
    refine ⟨p.2.2.toArray, f, by rw [hsame _ (by omega), hf], ⟨?_, fun i v hi hv => ?_, fun h => Bool.noConfusion (show true = false from h), fun h => absurd rfl h⟩, ?_⟩
    · show 0 + lenL p.2.2 ≤ _
      rw [lenL_eq]
      simp
    · have hv : oc ((Tr.ofList p.2.2).get i) (getL [] (i % lenL ([] : List Value))) (fun v => some v) = some v := hv
      rw [Tr.get_ofList] at hv
      cases hx : p.2.2[i]? with
      | none => rw [hx] at hv; rw [getL_eq] at hv; simp [oc] at hv
      | some x =>
        rw [hx] at hv
        cases (show some x = some v from hv)
        refine ⟨v, by rw [Nat.zero_add]; simpa using hx, plain_self _ ?_⟩
        have key : ∀ (l : List Value), allL plain l = true → ∀ x ∈ l, plain x = true := by
          intro l
          induction l with
          | nil => exact fun _ _ h => nomatch h
          | cons y l ih =>
            intro h x hx
            have h : bi (plain y) (allL plain l) false = true := h
            cases hy : plain y with
            | false => rw [hy] at h; cases h
            | true =>
              rw [hy] at h
              rcases List.mem_cons.1 hx with rfl | hx
              · exact hy
              · exact ih h x hx
        exact key _ (hp p hpm) v (List.mem_of_getElem? hx)
    · show (if p.1 < E.roB then shapeOf E.w0 p.1 else none) = _
      rw [if_pos (by omega)]
      unfold shapeOf
      rw [hf]
  · have k1 : (if b1 < E.g then some (b1, 0) else none) = some (c, d1) := e1
    have k2 : (if b2 < E.g then some (b2, 0) else none) = some (c, d2) := e2
    split at k1 <;> split at k2 <;> first | (cases k1; cases k2; rfl) | contradiction
  · have h : (if c < E.roB then shapeOf E.w0 c else none) = some p := h
    split at h
    · omega
    · cases h
  · obtain ⟨p, hpm, rfl, rfl⟩ := startH_get _ _ _ _ hk
    rw [startH_next]
    exact hg p hpm
  · show (if k < E.g then some (k, 0) else none) = _
    rw [if_pos hk]
  · show (match E.P.info? t with | some i => i.size | none => 0) = i.size
    rw [hi]
  · rw [startH_next] at h1
    show (if b < E.g then some (b, 0) else none) = none
    rw [if_neg (by omega)]
end Go.Proofs.YthikcbbfnicnlaaGreatDoor.Ev
namespace Go.Proofs.YthikcbbfnicnlaaGreatDoor.Ev
open Go
set_option linter.unusedVariables false
set_option linter.unusedSimpArgs false
/-- Is a list of bytes at the head of another? -/
noncomputable def pfx (a : List UInt8) : List UInt8 → Bool := List.rec (motive := fun _ => List UInt8 → Bool) (fun _ => true) (fun x _ g b => ls b false fun y b => bi (Nat.beq x.toNat y.toNat) (g b) false) a
noncomputable def idx (sub s : List UInt8) : Option Nat := List.rec (motive := fun _ => Option Nat) (bi (nilL sub) (some 0) none) (fun b l r => bi (pfx sub (b :: l)) (some 0) (ob r fun n => some (Nat.succ n))) s
noncomputable def idxI (sub s : List UInt8) : Int := oc (idx sub s) (-1) Int.ofNat
theorem pfx_eq : ∀ (a b : List UInt8), pfx a b = a.isPrefixOf b
  | [], b => by cases b <;> rfl
  | x :: a, [] => rfl
  | x :: a, y :: b => by
    show bi (Nat.beq x.toNat y.toNat) (pfx a b) false = _
    rw [List.isPrefixOf_cons_cons, ← pfx_eq a b]
    by_cases h : x = y
    · subst h
      rw [beq_iff.2 rfl]
      simp [bi]
    · have : ¬ x.toNat = y.toNat := fun e => h (UInt8.toNat.inj e)
      rw [beq_false.2 this]
      simp [h, bi]
theorem idx_eq (sub : List UInt8) : ∀ s : List UInt8, idxI sub s = Lib.index s sub
  | [] => by
    show oc (bi (nilL sub) (some 0) none) (-1) Int.ofNat = _
    cases sub <;> rfl
  | b :: l => by
    have ih := idx_eq sub l
    show oc (bi (pfx sub (b :: l)) (some 0) (ob (idx sub l) fun n => some (Nat.succ n))) (-1) Int.ofNat = if sub.isPrefixOf (b :: l) then 0 else if Lib.index l sub == -1 then -1 else Lib.index l sub + 1
    rw [pfx_eq, ← ih]
    cases h : sub.isPrefixOf (b :: l) with
    | true => rfl
    | false =>
      show oc (ob (idx sub l) fun n => some (Nat.succ n)) (-1) Int.ofNat = _
      unfold idxI
      cases h2 : idx sub l with
      | none => rfl
      | some n =>
        show ((n + 1 : Nat) : Int) = if false = true then 0 else if ((n : Int) == -1) = true then -1 else (n : Int) + 1
        rw [if_neg (by simp), if_neg (by simp)]
        omega
noncomputable def hIndex : Hook := fun args H => ob (getL args 0) fun a => ob (getL args 1) fun b => ob (vStr a) fun s => ob (vStr b) fun t => bi (ba (Nat.beq (lenL args) 2) (Nat.blt (lenL s.data.toList) 4294967281)) (some (.int .i64 (idxI t.data.toList s.data.toList), H)) none
noncomputable def hPrefix : Hook := fun args H => ob (getL args 0) fun a => ob (getL args 1) fun b => ob (vStr a) fun s => ob (vStr b) fun t => bi (Nat.beq (lenL args) 2) (some (.bool (pfx t.data.toList s.data.toList), H)) none
theorem pureC_ok {E : En} {f : FuncId} {N : Nat} {ι : Ren} {H : AH} {w : World} {args : List Value} {args' : Array Value} {v : Value} (hwx : Wx E N ι H w) (hargs : VRs ι args args'.toList) (hpl : allL plain args = true) (hv : plain v = true)
    (hc : Calls E.P f ⟨args⟩ w fun e w' => e = .returned v ∧ w' = w) : CallsIn Fence.wide 0 E.P f args' w (CallQ E N ι H w (.val v H)) := by
  have := plainL_eq hpl hargs
  have : args' = ⟨args⟩ := by rw [← Array.toList_inj, ← this]
  subst this
  refine CallsIn.mono (callsIn_wide.2 hc) ?_
  rintro e w' ⟨rfl, rfl⟩
  exact ⟨v, H, v, rfl, rfl, ι, Aft.refl hwx, plain_self ι hv⟩
theorem twoArgs {args : List Value} {a b : Value} (h0 : getL args 0 = some a) (h1 : getL args 1 = some b) (hl : Nat.beq (lenL args) 2 = true) : args = [a, b] := by
  have := beq_iff.1 hl
  rw [lenL_eq] at this
  rw [getL_eq] at h0 h1
  match args, this with
  | [x, y], _ => simp at h0 h1; rw [h0, h1]
theorem hIndex_ok {E : En} {f : FuncId} {g : Nat} {m : Int} (hg : g < E.roB) (hm : E.w0.cell? ⟨g, 0, none⟩ = some (.int .i64 m))
    (hc : ∀ (s sub : ByteArray) (w : World), s.size < 4294967281 → w.cell? ⟨g, 0, none⟩ = some (.int .i64 m) → Calls E.P f #[.string s, .string sub] w fun e w' => e = .returned (.int .i64 (Lib.index s.data.toList sub.data.toList)) ∧ w' = w)
    {N : Nat} {ι : Ren} {H : AH} {w : World} {args : List Value} {args' : Array Value} {v : Value} {H' : AH} (hwx : Wx E N ι H w) (hargs : VRs ι args args'.toList) (h : hIndex args H = some (v, H')) : CallsIn Fence.wide 0 E.P f args' w (CallQ E N ι H w (.val v H')) := by
  obtain ⟨a, ha, k1⟩ := ob_some.1 h
  obtain ⟨b, hb, k2⟩ := ob_some.1 k1
  obtain ⟨s, hs, k3⟩ := ob_some.1 k2
  obtain ⟨t, ht, k4⟩ := ob_some.1 k3
  obtain ⟨k5, k6⟩ := bi_none.1 k4
  cases k6
  obtain ⟨k7, k8⟩ := ba_iff.1 k5
  have := twoArgs ha hb k7
  subst this
  have := vStr_some hs; subst this
  have := vStr_some ht; subst this
  have k8 := blt_iff.1 k8
  rw [lenL_eq] at k8
  refine pureC_ok hwx hargs rfl rfl ?_
  rw [idx_eq]
  refine hc s t w k8 ?_
  rw [← hm]
  have := hwx.base.same g hg
  unfold World.cell?
  simp only [this]
theorem hPrefix_ok {E : En} {f : FuncId}
    (hc : ∀ (s p : ByteArray) (w : World), Calls E.P f #[.string s, .string p] w fun e w' => e = .returned (.bool (Lib.hasPrefix s.data.toList p.data.toList)) ∧ w' = w)
    {N : Nat} {ι : Ren} {H : AH} {w : World} {args : List Value} {args' : Array Value} {v : Value} {H' : AH} (hwx : Wx E N ι H w) (hargs : VRs ι args args'.toList) (h : hPrefix args H = some (v, H')) : CallsIn Fence.wide 0 E.P f args' w (CallQ E N ι H w (.val v H')) := by
  obtain ⟨a, ha, k1⟩ := ob_some.1 h
  obtain ⟨b, hb, k2⟩ := ob_some.1 k1
  obtain ⟨s, hs, k3⟩ := ob_some.1 k2
  obtain ⟨t, ht, k4⟩ := ob_some.1 k3
  obtain ⟨k5, k6⟩ := bi_none.1 k4
  cases k6
  have := twoArgs ha hb k5
  subst this
  have := vStr_some hs; subst this
  have := vStr_some ht; subst this
  refine pureC_ok hwx hargs rfl rfl ?_
  rw [pfx_eq]
  exact hc s t w
theorem hIndex_nn {args : List Value} {H H' : AH} {v : Value} (h : hIndex args H = some (v, H')) : H.next ≤ H'.next := by
  obtain ⟨a, ha, k1⟩ := ob_some.1 h
  obtain ⟨b, hb, k2⟩ := ob_some.1 k1
  obtain ⟨s, hs, k3⟩ := ob_some.1 k2
  obtain ⟨t, ht, k4⟩ := ob_some.1 k3
  obtain ⟨k5, k6⟩ := bi_none.1 k4
  cases k6
  exact Nat.le_refl _
theorem hPrefix_nn {args : List Value} {H H' : AH} {v : Value} (h : hPrefix args H = some (v, H')) : H.next ≤ H'.next := by
  obtain ⟨a, ha, k1⟩ := ob_some.1 h
  obtain ⟨b, hb, k2⟩ := ob_some.1 k1
  obtain ⟨s, hs, k3⟩ := ob_some.1 k2
  obtain ⟨t, ht, k4⟩ := ob_some.1 k3
  obtain ⟨k5, k6⟩ := bi_none.1 k4
  cases k6
  exact Nat.le_refl _
end Go.Proofs.YthikcbbfnicnlaaGreatDoor.Ev
namespace Go.Proofs.YthikcbbfnicnlaaGreatDoor.Ev
open Go
set_option linter.unusedVariables false
set_option linter.unusedSimpArgs false
theorem Go.sameW {ι ι' : Ren} {h h' : Hp} {n n' : Nat} {w w1 w2 : World} (g : Go ι h n w ι' h' n' w1) (hh : w2.heap = w1.heap) (ho : w2.os = w1.os) (ht : w2.tape = w1.tape) (hu : w2.output = w1.output) : Go ι h n w ι' h' n' w2 :=
  ⟨g.ext, g.out, g.hr.same hh, g.nn, g.old, g.bnd, g.loc, fun c hc hn => by rw [hh]; exact g.frame c hc hn, by rw [hh]; exact g.size, ho.trans g.os, ht.trans g.tape, hu.trans g.output⟩
theorem copy_go {P : Program} {st e ty : TypeId} {i : TypeInfo} (ht : P.underlying st = some (.slice e)) (hi : P.info? e = some i) {b1 o1 dl dc b2 o2 sl sc k : Nat} {l' : List Value} {w w' : World} (hk : Nat.min sl dl = k) (hl : l'.length = k * i.size)
    {cs : Array Value} {e2 : TypeId} {f2 : Nat × Nat} (hh : w.heap[b2]? = some (.cells cs e2 f2)) (hcs : ∀ (j : Nat) (v : Value), l'[j]? = some v → cs[o2 + j]? = some v) (hst : (storeCells ⟨b1, o1, none⟩ l').run P w = .ok () w') :
    (Builtin.copy_ #[st, st] ty #[.slice (some ⟨b1, o1, none⟩) dl dc, .slice (some ⟨b2, o2, none⟩) sl sc]).run P w = .ok (goInt k) w' := by
  have hld := r_loadCells (P := P) hh l' hcs
  rw [hl] at hld
  have hld : (Builtin.firstCells i.size k (.slice (some ⟨b2, o2, none⟩) sl sc)).run P w = .ok ⟨l'⟩ w := hld
  have gl : (Builtin.lenOf (.slice (some ⟨b2, o2, none⟩) sl sc)).run P w = .ok sl w := rfl
  simp only [Builtin.copy_, List.getElem?_toArray, List.getElem?_cons_zero, List.getElem?_cons_succ, Sem.run_bind, run_underlying ht, Result.andThen_ok, gl, r_size hi, hld, hst, Sem.run_pure, hk]
theorem aget {cs : Array Value} {i j : Nat} (h : i = j) : cs[i]? = cs[j]? := by rw [h]
theorem lget {l : List Value} {i j : Nat} (h : i = j) : l[i]? = l[j]? := by rw [h]
theorem len3 {l : List Value} (h : l.length = 3) : ∃ x y z, l = [x, y, z] := by
  match l, h with
  | [x, y, z], _ => exact ⟨x, y, z, rfl⟩
theorem ofList_cells {ι : Ren} {l : List Value} {cs : Array Value} {d : Nat} (h : ∀ (j : Nat) (x : Value), l[j]? = some x → ∃ u, cs[d + j]? = some u ∧ VR ι x u) (j : Nat) (v : Value) (hj : j < lenL l) (hv : cellOf [] (Tr.ofList l) j = some v) : ∃ u, cs[d + j]? = some u ∧ VR ι v u := by
  rw [lenL_eq] at hj
  exact h j v (cell_ofList hj hv)
section
variable {E : En}
/-- What the library's text does, its copies given. -/
structure InsLaw (P : Program) (f : FuncId) (st e : TypeId) (i : TypeInfo) (z : Value) : Prop where
  und : P.underlying st = some (.slice e)
  info : P.info? e = some i
  zero : i.zero = some z
  zsz : z.cells.size = i.size
  pos : 0 < i.size
  bytes : i.bytes ≤ 8192
  shift : ∀ (b off n c k vb voff vc : Nat) (w W1 W2 : World) (k1 k2 : Nat), k < n → n + 1 ≤ c → n + 1 ≤ 9223372036854775807 → vb ≠ b → ∀ (tA tB : TypeId) (kA kB : Nat), w.shape? vb = some (tA, kA) → w.shape? b = some (tB, kB) → kB ≠ 0 → w.frozen? ⟨vb, voff, none⟩ = false → w.frozen? ⟨vb, kA, none⟩ = false →
    (∀ ty dc sc, (Builtin.copy_ #[st, st] ty #[.slice (some ⟨b, off + (k + 1) * i.size, none⟩) (n - k) dc, .slice (some ⟨b, off + k * i.size, none⟩) (n + 1 - k) sc]).run P w.drew = .ok (goInt k1) W1) →
    (∀ ty dc, (Builtin.copy_ #[st, st] ty #[.slice (some ⟨b, off + k * i.size, none⟩) (n + 1 - k) dc, .slice (some ⟨vb, voff, none⟩) 1 vc]).run P W1 = .ok (goInt k2) W2) →
    Calls P f #[.slice (some ⟨b, off, none⟩) n c, .int .i64 k, .slice (some ⟨vb, voff, none⟩) 1 vc] w fun e w' => e = .returned (.slice (some ⟨b, off, none⟩) (n + 1) c) ∧ w' = W2
  grow : ∀ (b off n c k vb voff vc nb G : Nat) (w W1 W2 W3 : World) (k1 k2 : Nat), k < n → n ≤ c → c < n + 1 → n + 1 ≤ 9223372036854775807 → n + 1 ≤ G →
    (∀ ty, (Builtin.append_ #[st, 3] ty #[.slice (some ⟨b, off, none⟩) k c, .int .i64 ((n : Int) + 1 - (k : Int))]).run P w = .ok (.slice (some ⟨nb, 0, none⟩) (n + 1) G) W1) →
    (∀ ty dc, (Builtin.copy_ #[st, st] ty #[.slice (some ⟨nb, k * i.size, none⟩) (n + 1 - k) dc, .slice (some ⟨vb, voff, none⟩) 1 vc]).run P W1 = .ok (goInt k1) W2) →
    (∀ ty dc sc, (Builtin.copy_ #[st, st] ty #[.slice (some ⟨nb, (k + 1) * i.size, none⟩) (n - k) dc, .slice (some ⟨b, off + k * i.size, none⟩) (n - k) sc]).run P W2.drew = .ok (goInt k2) W3) →
    Calls P f #[.slice (some ⟨b, off, none⟩) n c, .int .i64 k, .slice (some ⟨vb, voff, none⟩) 1 vc] w fun e w' => e = .returned (.slice (some ⟨nb, 0, none⟩) (n + 1) G) ∧ w' = W3
  int : P.underlying 3 = some (.int .i64)
theorem min_a (n k : Nat) (h : k < n) : Nat.min (n + 1 - k) (n - k) = n - k := by show min _ _ = _; omega
theorem min_b (n k : Nat) (h : k < n) : Nat.min 1 (n + 1 - k) = 1 := by show min _ _ = _; omega
theorem hInsert_ok {f : FuncId} {st elem : TypeId} {i : TypeInfo} {z : Value} (L : InsLaw E.P f st elem i z)
    {N : Nat} {ι : Ren} {H : AH} {w : World} {args : List Value} {args' : Array Value} {v : Value} {H' : AH} (hN : H'.next ≤ N) (hwx : Wx E N ι H w) (hargs : VRs ι args args'.toList) (h : hInsert E.P elem args H = some (v, H')) : CallsIn Fence.wide 0 E.P f args' w (CallQ E N ι H w (.val v H')) := by
  obtain ⟨s, hs, k1⟩ := ob_some.1 h
  obtain ⟨iv, hiv, k2⟩ := ob_some.1 k1
  obtain ⟨va, hva, k3⟩ := ob_some.1 k2
  obtain ⟨q, hq, k4⟩ := ob_some.1 k3
  obtain ⟨pi, hpi, k5⟩ := ob_some.1 k4
  obtain ⟨m, hm, k6⟩ := ob_some.1 k5
  obtain ⟨u, hu, k7⟩ := ob_some.1 k6
  obtain ⟨size, hsize, k8⟩ := ob_some.1 k7
  obtain ⟨k9, k10⟩ := bi_none.1 k8
  obtain ⟨a, ha, k11⟩ := ob_some.1 k10
  obtain ⟨p, hp, k12⟩ := ob_some.1 k11
  obtain ⟨av, hav, k13⟩ := ob_some.1 k12
  obtain ⟨pv, hpv, k14⟩ := ob_some.1 k13
  obtain ⟨cv, hcv, k15⟩ := ob_some.1 k14
  obtain ⟨new, hnew, k16⟩ := ob_some.1 k15
  obtain ⟨c, hc, k17⟩ := ob_some.1 k16
  obtain ⟨c1, k9⟩ := ba_iff.1 k9
  obtain ⟨c2, k9⟩ := ba_iff.1 k9
  obtain ⟨c3, k9⟩ := ba_iff.1 k9
  obtain ⟨c4, k9⟩ := ba_iff.1 k9
  obtain ⟨c5, c6⟩ := ba_iff.1 k9
  have c1 := beq_iff.1 c1
  rw [lenL_eq] at c1
  have c2 := ikeq_iff c2
  have c3 := blt_iff.1 c3
  have c4 := beq_iff.1 c4
  have c5 := beq_iff.1 c5
  obtain ⟨r1, r2⟩ := roomy_iff c6
  obtain ⟨i0, hi0, e0⟩ := sizeA_some hsize
  have : i0 = i := Option.some.inj (hi0.symm.trans L.info)
  subst this
  subst e0
  have := vSl_some hq; subst this
  have := vSl_some hu; subst this
  have := vInt_some hpi; subst this
  obtain ⟨kk, mm⟩ := pi
  have c2 : kk = .i64 := c2
  have := iNat_some hm
  have this : mm = (m : Int) := this
  subst c2
  subst this
  obtain ⟨qa, n, qc⟩ := q
  obtain ⟨ua, ul, uc⟩ := u
  have c3 : m < n := c3
  have c4 : ul = 1 := c4
  have c5 : qc = openCap := c5
  have ha : qa = some a := ha
  have hav : ua = some av := hav
  subst c4 c5 ha hav
  have := place_some hp
  obtain ⟨b, o⟩ := p
  have this : a = ⟨b, o, none⟩ := this
  subst this
  have := place_some hpv
  obtain ⟨vb, vo⟩ := pv
  have this : av = ⟨vb, vo, none⟩ := this
  subst this
  rw [getL_eq] at hs hiv hva
  have hargs0 : args = [.slice (some ⟨b, o, none⟩) n openCap, .int .i64 (m : Int), .slice (some ⟨vb, vo, none⟩) 1 uc] := by
    obtain ⟨x, y, z, rfl⟩ := len3 c1
    rw [Option.some.inj (show some x = some _ from hs), Option.some.inj (show some y = some _ from hiv), Option.some.inj (show some z = some _ from hva)]
  subst hargs0
  obtain ⟨x, y, hargs', hx, hy⟩ : ∃ x y, args' = #[x, .int .i64 (m : Int), y] ∧ VR ι (.slice (some ⟨b, o, none⟩) n openCap) x ∧ VR ι (.slice (some ⟨vb, vo, none⟩) 1 uc) y := by
    generalize hl : args'.toList = l at hargs
    cases hargs with
    | cons h1 h2 =>
      cases h2 with
      | cons h2 h3 =>
        cases h3 with
        | cons h3 h4 =>
          cases h4
          rw [h2.int_inv] at hl
          exact ⟨_, _, by rw [← Array.toList_inj, hl], h1, h3⟩
  subst hargs'
  -- the row
  obtain ⟨d1, d2⟩ := bi_none.1 k17
  obtain ⟨d3, d1⟩ := ba_iff.1 d1
  obtain ⟨d4, d5⟩ := ba_iff.1 d1
  have d3 : c.ro = false := by simpa using d3
  have d4 := beq_iff.1 d4
  have d5 := beq_iff.1 d5
  obtain ⟨l, hl, d6⟩ := ob_some.1 d2
  obtain ⟨r, hr, d7⟩ := ob_some.1 d6
  obtain ⟨d8, d9⟩ := bi_none.1 d7
  cases d9
  obtain ⟨d10, d11⟩ := ba_iff.1 d8
  -- the element
  obtain ⟨e1, e2⟩ := bi_none.1 hnew
  obtain ⟨e3, e1⟩ := ba_iff.1 e1
  obtain ⟨e4, e1⟩ := ba_iff.1 e1
  obtain ⟨e5, e6⟩ := ba_iff.1 e1
  have e4 : cv.ro = false := by simpa using e4
  have e6 := beq_iff.1 e6
  have e5 : vb ≠ b := by
    intro e
    rw [beq_iff.2 e] at e5
    exact Bool.noConfusion e5
  have e3 : cv.dflt ≠ [] := by
    intro e
    rw [nilL_iff.2 e] at e3
    exact Bool.noConfusion e3
  obtain ⟨g, d, hg, -⟩ := hwx.hr.blk _ _ (AH.cells_some hc)
  obtain ⟨gv, dv, hgv, -⟩ := hwx.hr.blk _ _ (AH.cells_some hcv)
  obtain ⟨cs, fz, hh, hcs, hss⟩ := hwx.hr.cells hc hg
  obtain ⟨csv, fzv, hhv, hcsv, hssv⟩ := hwx.hr.cells hcv hgv
  have hgne : gv ≠ g := fun e => e5 (hwx.hr.inj _ _ _ _ _ _ _ (AH.cells_some hcv) (AH.cells_some hc) (e ▸ hgv) hg)
  obtain ⟨hdv, hszv, hfv⟩ := hcsv.ex e3
  have hfv := hfv e4
  subst hfv
  subst hdv
  have hze : ι.z c.elem = i0.size := by rw [d5]; exact hwx.z elem i0 L.info
  have hpos := L.pos
  -- the arguments
  obtain ⟨c', o', hxe, hlc, hcap, ho'⟩ : ∃ c' o', x = .slice (some ⟨g, o', none⟩) n c' ∧ n ≤ c' ∧ o' + c' * i0.size ≤ cs.size ∧ o' = o + d := by
    rcases hx.sl_inv with ⟨h0, -⟩ | ⟨b0, o0, b', o', c', e7, rfl, hlc, hcc, had⟩
    · cases h0
    · cases e7
      rcases had with h0 | ⟨d', h1, h2⟩
      · omega
      · rw [hg] at h1
        cases h1
        refine ⟨c', o', rfl, hlc, ?_, h2⟩
        rcases hcc with ⟨-, h3⟩ | ⟨-, h3⟩
        · exact absurd rfl h3
        · rcases h3 with h3 | ⟨sz, ee, h3, h4⟩
          · omega
          · rw [hss] at h3
            cases h3
            rwa [hze] at h4
  obtain ⟨cv', ov', hye, hov⟩ : ∃ cv' ov', y = .slice (some ⟨gv, ov', none⟩) 1 cv' ∧ ov' = vo := by
    rcases hy.sl_inv with ⟨h0, -⟩ | ⟨b0, o0, b', o', c', e7, rfl, hlc, hcc, had⟩
    · cases h0
    · cases e7
      rcases had with h0 | ⟨d', h1, h2⟩
      · omega
      · rw [hgv] at h1
        cases h1
        exact ⟨c', o', rfl, h2⟩
  subst hxe hye hov
  have hl : c.from o (m * i0.size) = some l := hl
  have hr : c.from (o + m * i0.size) ((n - m) * i0.size) = some r := hr
  have r1 : (n + 1) * 8192 < 8796093022208 := r1
  have r2 : n + 1 < 8796093022208 := r2
  obtain ⟨l1, l2, l', l3, l4⟩ := hcs.from hl
  obtain ⟨m1, m2, r', m3, m4⟩ := hcs.from hr
  obtain ⟨n1, n2, new', n3, n4⟩ := hcsv.from e2
  have hlr : r'.length = (n - m) * i0.size := by rw [← m3.length, m1]
  have hll : l'.length = m * i0.size := by rw [← l3.length, l1]
  have hln : new'.length = 1 * i0.size := by rw [← n3.length, n1, Nat.one_mul]
  have hmul : n * i0.size = m * i0.size + (n - m) * i0.size := by rw [← Nat.add_mul, Nat.add_sub_cancel' (Nat.le_of_lt c3)]
  have hmul1 : (m + 1) * i0.size = m * i0.size + i0.size := Nat.succ_mul _ _
  have hmul2 : (n + 1) * i0.size = n * i0.size + i0.size := Nat.succ_mul _ _
  have hn63 : n + 1 ≤ 9223372036854775807 := by
    have r2 : n + 1 < 8796093022208 := r2
    omega
  have hncs : o' + n * i0.size ≤ cs.size := Nat.le_trans (Nat.add_le_add_left (Nat.mul_le_mul_right _ hlc) _) hcap
  have hfrz : ∀ j, o' ≤ j → j < cs.size → ¬ (fz.1 ≤ j ∧ j < fz.2) := fun j h1 h2 h3 => by
    have := hcs.frz d3 j h2 h3.1 h3.2
    omega
  have hnone : ι.f H.next = none := hwx.fresh H.next (Nat.le_refl _) (Nat.lt_of_lt_of_le (Nat.lt_succ_self _) hN)
  have hro1 := one1_VRs m3 d10
  have hno1 := one1_VRs n3 d11
  have hcat : ∀ (ι1 : Ren) (_ : Ext ι ι1) (F : Array Value) (D : Nat), (∀ j, j < m * i0.size → F[D + j]? = l'[j]?) → (∀ j, j < i0.size → F[D + (m * i0.size + j)]? = new'[j]?) → (∀ j, j < (n - m) * i0.size → F[D + ((m + 1) * i0.size + j)]? = r'[j]?) →
      ∀ (j : Nat) (x : Value), (l ++ (new ++ r))[j]? = some x → ∃ u, F[D + j]? = some u ∧ VR ι1 x u := by
    intro ι1 hext F D f1 f2 f3 j x hj
    by_cases g1 : j < l.length
    · rw [List.getElem?_append_left g1] at hj
      obtain ⟨y, hy, hr⟩ := l3.get hj
      exact ⟨y, by rw [f1 j (by omega)]; exact hy, hr.mono hext⟩
    · rw [List.getElem?_append_right (by omega)] at hj
      by_cases g2 : j - l.length < new.length
      · rw [List.getElem?_append_left g2] at hj
        obtain ⟨y, hy, hr⟩ := n3.get hj
        refine ⟨y, ?_, hr.mono hext⟩
        have := f2 (j - l.length) (by omega)
        rw [show D + (m * i0.size + (j - l.length)) = D + j by omega] at this
        rw [this]; exact hy
      · rw [List.getElem?_append_right (by omega)] at hj
        obtain ⟨y, hy, hr⟩ := m3.get hj
        have hlt := (List.getElem?_eq_some_iff.1 hj).1
        refine ⟨y, ?_, hr.mono hext⟩
        have := f3 (j - l.length - new.length) (by omega)
        rw [show D + ((m + 1) * i0.size + (j - l.length - new.length)) = D + j by omega] at this
        rw [this]; exact hy
  have hlen : lenL (l ++ (new ++ r)) = (n + 1) * i0.size := by
    rw [lenL_eq, List.length_append, List.length_append, l1, n1, m1]; omega
  by_cases hroom : n + 1 ≤ c'
  · -- it lies where it lay
    have hcap1 : o' + (n + 1) * i0.size ≤ cs.size := Nat.le_trans (Nat.add_le_add_left (Nat.mul_le_mul_right _ hroom) _) hcap
    obtain ⟨W1, cs1, s1, s2, s3, s4, s5⟩ := storeCells_run (P := E.P) (c := g) (off := o' + (m + 1) * i0.size) r' 0 w.drew cs hh (by omega) (fun j h1 h2 => hfrz j (by omega) (by omega)) hro1
    obtain ⟨W2, cs2, t1, t2, t3, t4, t5⟩ := storeCells_run (P := E.P) (c := g) (off := o' + m * i0.size) new' 0 W1 cs1 s3 (by omega) (fun j h1 h2 => hfrz j (by omega) (by omega)) hno1
    have hhv1 : W1.heap[gv]? = some (.cells csv cv.elem (0, 0)) := by rw [s2.other gv hgne]; exact hhv
    have hcall := L.shift g o' n c' m gv ov' cv' w W1 W2 (n - m) 1 c3 hroom hn63 hgne cv.elem c.elem csv.size cs.size (by simp [World.shape?, hhv]) (by simp [World.shape?, hh]) (by omega)
      (by rw [frozen_of hhv]; simp) (by rw [frozen_of hhv]; simp)
      (fun ty dc sc => copy_go L.und L.info (min_a n m c3) hlr (w := w.drew) hh (fun j v hj => (aget (by omega)).trans (m4 j v hj)) s1)
      (fun ty dc => copy_go L.und L.info (min_b n m c3) hln (w := W1) hhv1 (fun j v hj => (aget (by omega)).trans (n4 j v hj)) t1)
    refine CallsIn.mono (callsIn_wide.2 hcall) ?_
    rintro e w' ⟨rfl, rfl⟩
    have hW : Wr g w w' := (show Wr g w w.drew from ⟨rfl, rfl, rfl, rfl, fun _ _ => rfl⟩).trans (s2.trans t2)
    have he := updR_ext (c := g) (d := o') hnone
    refine ⟨_, _, .slice (some ⟨g, o', none⟩) (n + 1) c', rfl, rfl, updR ι H.next g o', hwx.aft ?_, .sl _ _ _ _ _ _ _ hroom (.inr ⟨rfl, .inr ⟨cs.size, c.elem, he.s _ _ hss, ?_⟩⟩) (.inr ⟨o', updR_same _ _ _ _, by omega⟩)⟩
    · unfold newRow
      rw [AH.new_get, AH.put_get]
      refine Go.move hwx.hr hwx.bnd hnone (AH.cells_some hc) d3 hg hW rfl ⟨cs2, fz, by rw [← d5]; exact t3, ⟨?_, ?_, fun _ j h1 h2 h3 => ?_, fun h => absurd rfl h⟩, by rw [t4, s4, ← d5]; exact he.s _ _ hss⟩
      · show o' + lenL (l ++ (new ++ r)) ≤ cs2.size
        rw [hlen, t4, s4]; exact hcap1
      · refine ofList_cells (hcat _ he cs2 o' (fun j hj => ?_) (fun j hj => ?_) (fun j hj => ?_))
        · rw [t5, if_neg (by omega), s5, if_neg (by omega)]
          have hj' : j < l'.length := by omega
          rw [List.getElem?_eq_getElem hj']
          have := l4 j _ (List.getElem?_eq_getElem hj')
          rw [← this]; exact aget (by omega)
        · rw [t5, if_pos (by omega)]
          exact lget (by omega)
        · rw [t5, if_neg (by omega), s5, if_pos (by omega)]
          exact lget (by omega)
      · rw [t4, s4] at h1
        have := hcs.frz d3 j h1 h2 h3
        show j < o' + 0
        omega
    · rw [(show (updR ι H.next g o').z = ι.z from rfl), hze]; exact hcap
  · -- it is laid anew
    have hcn : c' = n := by omega
    subst hcn
    have hold : (Builtin.firstCells i0.size m (.slice (some ⟨g, o', none⟩) m c')).run E.P w.drew = .ok l'.toArray w.drew := by
      have := r_loadCells (P := E.P) (w := w.drew) (o := o') hh l' (fun j v hj => (aget (by omega)).trans (l4 j v hj))
      rw [hll] at this
      exact this
    have hb1 : (c' + 1) * i0.bytes ≤ (c' + 1) * 8192 := Nat.mul_le_mul_left _ L.bytes
    have r1 : (c' + 1) * 8192 < 8796093022208 := r1
    have r2 : c' + 1 < 8796093022208 := r2
    have hk1 : m + (c' + 1 - m) = c' + 1 := by omega
    have hrz := fun ty => Lib.run_append_grow_zeros w st 3 ty elem i0 z .i64 .i64 L.und L.int L.info L.zero (some ⟨g, o', none⟩) m c' l' hold (c' + 1 - m) (by omega) L.pos (by omega) (by rw [hk1]; omega) (by
        have : (c' + 1 - m) * i0.bytes ≤ (c' + 1) * i0.bytes := Nat.mul_le_mul_right _ (by omega)
        omega) (by rw [hk1]; exact growslice_fits (by omega) (by omega))
    rw [hk1] at hrz
    have hint : ((c' + 1 - m : Nat) : Int) = (c' : Int) + 1 - (m : Int) := by omega
    rw [hint] at hrz
    obtain ⟨G, hG⟩ : ∃ G, G = grownCap w (c' + 1) c' elem := ⟨_, rfl⟩
    rw [← hG] at hrz
    have hGn : c' + 1 ≤ G := by rw [hG]; exact grownCap_ge w _ _ _
    obtain ⟨ROW, hROW⟩ : ∃ ROW : Array Value, ROW = l'.toArray ++ Builtin.zeroCells z.cells (c' + 1 - m) ++ Builtin.zeroCells z.cells (G - (c' + 1)) := ⟨_, rfl⟩
    rw [← hROW] at hrz
    have hGs : (c' + 1) * i0.size ≤ G * i0.size := Nat.mul_le_mul_right _ hGn
    have hRs : ROW.size = G * i0.size := by
      rw [hROW, Array.size_append, Array.size_append, size_zeroCells, size_zeroCells, L.zsz, Nat.sub_mul, Nat.sub_mul]
      simp only [List.size_toArray, hll]
      have : m * i0.size ≤ (c' + 1) * i0.size := Nat.mul_le_mul_right _ (by omega)
      omega
    have hRl : ∀ j, j < m * i0.size → ROW[j]? = l'[j]? := fun j hj => by
      rw [hROW, Array.append_assoc, Array.getElem?_append_left (by simp; omega)]
      simp
    obtain ⟨w1, hw1⟩ : ∃ w1, w1 = w.drew.alloc (.cells ROW elem) := ⟨_, rfl⟩
    rw [← hw1] at hrz
    have hnb : w1.heap[w.heap.size]? = some (.cells ROW elem (0, 0)) := by rw [hw1]; exact heap_alloc_new _ _
    have hg_lt : g < w.heap.size := (show BR ι (.cells c.elem c.n c.fz c.ro c.dflt c.t) g d w from ⟨cs, fz, hh, hcs, hss⟩).lt
    have hgv_lt : gv < w.heap.size := (show BR ι (.cells cv.elem cv.n cv.fz cv.ro cv.dflt cv.t) gv 0 w from ⟨csv, (0, 0), hhv, hcsv, hssv⟩).lt
    have hoth : ∀ k, k < w.heap.size → w1.heap[k]? = w.heap[k]? := fun k hk => by rw [hw1]; exact heap_alloc_old (w := w.drew) _ hk
    obtain ⟨W2, cs1, s1, s2, s3, s4, s5⟩ := storeCells_run (P := E.P) (c := w.heap.size) (off := m * i0.size) new' 0 w1 ROW hnb (by omega) (fun j _ _ h => by simp at h) hno1
    obtain ⟨W3, cs2, t1, t2, t3, t4, t5⟩ := storeCells_run (P := E.P) (c := w.heap.size) (off := (m + 1) * i0.size) r' 0 W2.drew cs1 s3 (by omega) (fun j _ _ h => by simp at h) hro1
    have hg2 : W2.drew.heap[g]? = some (.cells cs c.elem fz) := by
      show W2.heap[g]? = _
      rw [s2.other g (by omega), hoth g hg_lt]; exact hh
    have hgv1 : w1.heap[gv]? = some (.cells csv cv.elem (0, 0)) := by rw [hoth gv hgv_lt]; exact hhv
    have hcall := L.grow g o' c' c' m gv ov' cv' w.heap.size G w w1 W2 W3 1 (c' - m) c3 (Nat.le_refl _) (by omega) hn63 hGn hrz
      (fun ty dc => copy_go L.und L.info (min_b c' m c3) hln (w := w1) hgv1 (fun j v hj => (aget (by omega)).trans (n4 j v hj)) s1)
      (fun ty dc sc => copy_go L.und L.info (by show min _ _ = _; omega) hlr (w := W2.drew) hg2 (fun j v hj => (aget (by omega)).trans (m4 j v hj)) t1)
    refine CallsIn.mono (callsIn_wide.2 hcall) ?_
    rintro e w' ⟨rfl, rfl⟩
    have hb2 := hwx.bnd.kill b
    have hr2 : HR ι (upd H.get b none) w.drew := (Go.kill hwx.hr hwx.bnd b).hr.same rfl
    have g1 : Go ι H.get H.next w ι (upd H.get b none) H.next w.drew := (Go.kill hwx.hr hwx.bnd b).trans hwx.hr (Go.drew (Go.kill hwx.hr hwx.bnd b).hr hb2)
    have hcs2 : cs2.size = G * i0.size := by rw [t4, s4, hRs]
    have g2 := go_row (H := H.put b none) (w := w.drew) (by rw [AH.put_get]; exact hr2) (by rw [AH.put_get]; exact hb2) hnone ⟨elem, lenL (l ++ (new ++ r)), 0, false, [], Tr.ofList (l ++ (new ++ r))⟩ cs2 (0, 0) rfl (by show lenL (l ++ (new ++ r)) ≤ _; rw [hlen, hcs2]; exact hGs) (fun j v hj hv => by
      have := ofList_cells (ι := ι) (cs := cs2) (d := 0) (hcat ι (Ext.refl ι) cs2 0 (fun j hj => ?_) (fun j hj => ?_) (fun j hj => ?_)) j v hj hv
      · rwa [Nat.zero_add] at this
      · rw [Nat.zero_add, t5, if_neg (by omega), s5, if_neg (by omega)]
        exact hRl j hj
      · rw [Nat.zero_add, t5, if_neg (by omega), s5, if_pos (by omega)]
        exact lget (by omega)
      · rw [Nat.zero_add, t5, if_pos (by omega)]
        exact lget (by omega)) (fun j _ _ h => by omega) (fun h => absurd rfl h)
    rw [AH.put_get] at g2
    have g3 := g1.trans hwx.hr g2
    have hheap : w'.heap = (w.drew.alloc (.cells cs2 elem)).heap := by
      apply Array.ext_getElem?
      intro k
      by_cases hk : k = w.heap.size
      · subst hk
        rw [t3]
        exact (heap_alloc_new (w := w.drew) _).symm
      · rw [t2.other k hk]
        show W2.heap[k]? = _
        rw [s2.other k hk, hw1]
        show (w.drew.alloc (.cells ROW elem)).heap[k]? = _
        by_cases hk2 : k < w.heap.size
        · rw [heap_alloc_old (w := w.drew) _ hk2, heap_alloc_old (w := w.drew) _ hk2]
        · rw [Array.getElem?_eq_none, Array.getElem?_eq_none]
          · simp [World.alloc]; omega
          · simp [World.alloc]; omega
    refine ⟨_, _, .slice (some ⟨w.heap.size, 0, none⟩) (c' + 1) G, rfl, rfl, _, hwx.aft (Go.sameW g3 hheap ?_ ?_ ?_), .sl _ _ _ _ _ _ _ hGn (.inr ⟨rfl, .inr ⟨cs2.size, elem, updA_s _ _ _ _, ?_⟩⟩) (.inr ⟨0, updA_same _ _ _ _, rfl⟩)⟩
    · rw [t2.os]; show W2.os = _; rw [s2.os, hw1]; rfl
    · rw [t2.tape]; show W2.tape = _; rw [s2.tape, hw1]; rfl
    · rw [t2.output]; show W2.output = _; rw [s2.output, hw1]; rfl
    · show 0 + G * ι.z elem ≤ _
      rw [hcs2, ← d5, hze]; omega
theorem hInsert_nn {P : Program} {elem : TypeId} {args : List Value} {H H' : AH} {v : Value} (h : hInsert P elem args H = some (v, H')) : H.next ≤ H'.next := by
  obtain ⟨s, hs, k1⟩ := ob_some.1 h
  obtain ⟨iv, hiv, k2⟩ := ob_some.1 k1
  obtain ⟨va, hva, k3⟩ := ob_some.1 k2
  obtain ⟨q, hq, k4⟩ := ob_some.1 k3
  obtain ⟨pi, hpi, k5⟩ := ob_some.1 k4
  obtain ⟨m, hm, k6⟩ := ob_some.1 k5
  obtain ⟨u, hu, k7⟩ := ob_some.1 k6
  obtain ⟨size, hsize, k8⟩ := ob_some.1 k7
  obtain ⟨k9, k10⟩ := bi_none.1 k8
  obtain ⟨a, ha, k11⟩ := ob_some.1 k10
  obtain ⟨p, hp, k12⟩ := ob_some.1 k11
  obtain ⟨av, hav, k13⟩ := ob_some.1 k12
  obtain ⟨pv, hpv, k14⟩ := ob_some.1 k13
  obtain ⟨cv, hcv, k15⟩ := ob_some.1 k14
  obtain ⟨new, hnew, k16⟩ := ob_some.1 k15
  obtain ⟨c, hc, k17⟩ := ob_some.1 k16
  obtain ⟨d1, d2⟩ := bi_none.1 k17
  obtain ⟨l, hl, d6⟩ := ob_some.1 d2
  obtain ⟨r, hr, d7⟩ := ob_some.1 d6
  obtain ⟨d8, d9⟩ := bi_none.1 d7
  cases d9
  exact Nat.le_succ _
end
end Go.Proofs.YthikcbbfnicnlaaGreatDoor.Ev
namespace Go.Proofs.YthikcbbfnicnlaaGreatDoor.Ev
open Go
set_option linter.unusedVariables false
set_option linter.unusedSimpArgs false
def Cs.all (c : Cs) : Blk := .cells c.elem c.n c.fz c.ro c.dflt c.t
structure Memo where
  f : FuncId
  next : Nat
  args : List Value
  sub : List (Nat × Cs)
  v : Value
  next' : Nat
  out : List (Nat × Cs)
noncomputable def putAll (l : List (Nat × Cs)) (H : AH) : AH := List.rec (motive := fun _ => AH) H (fun p _ H => H.put p.1 (some p.2.all)) l
noncomputable def killAll (l : List (Nat × Cs)) (H : AH) : AH := List.rec (motive := fun _ => AH) H (fun p _ H => H.put p.1 none) l
noncomputable def belowB (f : Nat → Bool) (n : Nat) : Bool := Nat.rec (motive := fun _ => Bool) true (fun i r => bi (f i) r false) n
/-- c tells no more of a row than k. -/
noncomputable def simC (k c : Cs) : Bool :=
  ba (Nat.beq k.elem c.elem) (ba (Nat.beq k.n c.n) (ba (Nat.beq k.fz c.fz) (ba (bi k.ro c.ro (not c.ro)) (ba (eqAll (veq 6) k.dflt c.dflt) (belowB (fun i => oc (cellOf c.dflt c.t i) true fun v => oc (cellOf k.dflt k.t i) false fun u => veq 6 u v) c.n)))))
noncomputable def subAll (H : AH) (l : List (Nat × Cs)) : Bool := List.rec (motive := fun _ => Bool) true (fun p _ r => bi (oc (H.cells p.1) false fun k => simC k p.2) r false) l
noncomputable def memoH (m : Memo) (H : AH) : AH := ⟨m.next', (putAll m.out (killAll m.sub H)).t⟩
noncomputable def hMemo (m : Memo) : Hook := fun args H => bi (ba (eqAll (veq 6) m.args args) (ba (Nat.beq H.next m.next) (subAll H m.sub))) (some (m.v, memoH m H)) none
noncomputable def hMemos (l : List Memo) : Hook := List.rec (motive := fun _ => Hook) (fun _ _ => none) (fun m _ g args H => oc (hMemo m args H) (g args H) fun p => some p) l
noncomputable def memoChk (E : En) (n : Nat) (m : Memo) : Bool := oc (ev E n (.call (.enter m.f m.args)) (putAll m.sub ⟨m.next, .nil⟩)) false fun r => oc (rVal r) false fun q => ba (veq 6 m.v q.1) (ba (Nat.beq q.2.next m.next') (subAll q.2 m.out))
def lk : List (Nat × Cs) → Nat → Option Cs
  | [], _ => none
  | p :: l, b => if b = p.1 then some p.2 else lk l b
theorem ocB {α : Type} {x : Option α} {f : α → Bool} (h : oc x false f = true) : ∃ a, x = some a ∧ f a = true := by
  cases x with
  | none => exact Bool.noConfusion (show false = true from h)
  | some a => exact ⟨a, rfl, h⟩
theorem lk_mem : ∀ {l : List (Nat × Cs)} {b : Nat} {c : Cs}, lk l b = some c → (b, c) ∈ l
  | [], b, c, h => nomatch h
  | p :: l, b, c, h => by
    unfold lk at h
    split at h
    · rename_i e
      cases h
      subst e
      exact List.mem_cons_self ..
    · exact List.mem_cons_of_mem _ (lk_mem h)
theorem putAll_get (H : AH) : ∀ (l : List (Nat × Cs)) (b : Nat), (putAll l H).get b = match lk l b with | some c => some c.all | none => H.get b
  | [], b => rfl
  | p :: l, b => by
    show ((putAll l H).put p.1 (some p.2.all)).get b = _
    rw [AH.put_get]
    unfold upd lk
    split
    · rfl
    · exact putAll_get H l b
theorem killAll_get (H : AH) : ∀ (l : List (Nat × Cs)) (b : Nat), (killAll l H).get b = match lk l b with | some _ => none | none => H.get b
  | [], b => rfl
  | p :: l, b => by
    show ((killAll l H).put p.1 none).get b = _
    rw [AH.put_get]
    unfold upd lk
    split
    · rfl
    · exact killAll_get H l b
theorem putAll_next (H : AH) : ∀ (l : List (Nat × Cs)), (putAll l H).next = H.next
  | [] => rfl
  | p :: l => putAll_next H l
theorem belowB_iff {f : Nat → Bool} : ∀ {n : Nat}, belowB f n = true → ∀ i, i < n → f i = true
  | 0, _, i, hi => absurd hi (Nat.not_lt_zero i)
  | n + 1, h, i, hi => by
    have h : bi (f n) (belowB f n) false = true := h
    cases hf : f n with
    | false => rw [hf] at h; cases h
    | true =>
      rw [hf] at h
      by_cases e : i = n
      · rw [e]; exact hf
      · exact belowB_iff h i (by omega)
theorem subAll_iff {H : AH} : ∀ {l : List (Nat × Cs)}, subAll H l = true → ∀ p ∈ l, ∃ k, H.cells p.1 = some k ∧ simC k p.2 = true
  | [], _, p, hp => nomatch hp
  | q :: l, h, p, hp => by
    have h : bi (oc (H.cells q.1) false fun k => simC k q.2) (subAll H l) false = true := h
    cases hf : (oc (H.cells q.1) false fun k => simC k q.2) with
    | false => rw [hf] at h; cases h
    | true =>
      rw [hf] at h
      rcases List.mem_cons.1 hp with rfl | hp
      · exact ocB hf
      · exact subAll_iff h p hp
theorem simC_ok {ι : Ren} {k c : Cs} {g d : Nat} {w : World} (h : simC k c = true) (hb : BR ι k.all g d w) : BR ι c.all g d w ∧ isRo c.all = isRo k.all := by
  obtain ⟨h1, h⟩ := ba_iff.1 h
  obtain ⟨h2, h⟩ := ba_iff.1 h
  obtain ⟨h3, h⟩ := ba_iff.1 h
  obtain ⟨h4, h⟩ := ba_iff.1 h
  obtain ⟨h5, h6⟩ := ba_iff.1 h
  obtain ⟨e, n, fz, ro, dflt, t⟩ := k
  obtain ⟨e', n', fz', ro', dflt', t'⟩ := c
  have z1 : e = e' := beq_iff.1 h1
  have z2 : n = n' := beq_iff.1 h2
  have z3 : fz = fz' := beq_iff.1 h3
  have z4 : ro = ro' := by
    have h4 : bi ro ro' (not ro') = true := h4
    cases ro <;> cases ro' <;> first | rfl | exact Bool.noConfusion h4
  have z5 : dflt = dflt' := eqAll_ok (veq_ok 6) h5
  clear h1 h2 h3 h4 h5 h
  subst z1 z2 z3 z4 z5
  obtain ⟨cs, f, a1, a2, a3⟩ := hb
  refine ⟨⟨cs, f, a1, ⟨a2.size, fun i v hi hv => ?_, a2.frz, a2.ex⟩, a3⟩, rfl⟩
  have := belowB_iff h6 i hi
  have hv : cellOf dflt t' i = some v := hv
  have this : oc (cellOf dflt t' i) true (fun v => oc (cellOf dflt t i) false fun u => veq 6 u v) = true := this
  rw [hv] at this
  obtain ⟨u, h1, h2⟩ := ocB (show oc (cellOf dflt t i) false (fun u => veq 6 u v) = true from this)
  have := veq_ok 6 _ _ h2
  subst this
  exact a2.cell i u hi h1
theorem Go.recast {ι : Ren} {h h2 : Hp} {n : Nat} {w : World} (hr : HR ι h w) (hb : Bnd h n) (hs : ∀ b k2, h2 b = some k2 → ∃ k, h b = some k ∧ isRo k2 = isRo k ∧ ∀ c d, BR ι k c d w → BR ι k2 c d w) : Go ι h n w ι h2 n w := by
  refine ⟨Ext.refl ι, fun _ h _ => h, ⟨fun b k2 hk => ?_, fun b1 b2 k1 k2 c d1 d2 e1 e2 i1 i2 => ?_, hr.slt⟩, Nat.le_refl _, fun b k2 _ hk => ?_, fun b k2 hk => ?_, fun b k2 c d hn hk => ?_, fun _ _ _ => rfl, Nat.le_refl _, rfl, rfl, rfl⟩
  · obtain ⟨k, h1, -, h3⟩ := hs b k2 hk
    obtain ⟨c, d, h4, h5⟩ := hr.blk b k h1
    exact ⟨c, d, h4, h3 c d h5⟩
  · obtain ⟨q1, f1, -⟩ := hs b1 k1 e1
    obtain ⟨q2, f2, -⟩ := hs b2 k2 e2
    exact hr.inj _ _ _ _ _ _ _ f1 f2 i1 i2
  · obtain ⟨k, h1, h2, -⟩ := hs b k2 hk
    exact ⟨k, h1, fun e => by rw [← h2]; exact e⟩
  · obtain ⟨k, h1, -⟩ := hs b k2 hk
    exact hb b k h1
  · obtain ⟨k, h1, -⟩ := hs b k2 hk
    have := hb b k h1
    omega
theorem Go.later {ι : Ren} {h : Hp} {n m : Nat} {w : World} (hr : HR ι h w) (hb : Bnd h n) (hm : n ≤ m) : Go ι h n w ι h m w :=
  ⟨Ext.refl ι, fun _ h _ => h, hr, hm, fun b k _ hk => ⟨k, hk, id⟩, fun b k hk => Nat.lt_of_lt_of_le (hb b k hk) hm, fun b k c d hn hk => absurd (hb b k hk) (by omega), fun _ _ _ => rfl, Nat.le_refl _, rfl, rfl, rfl⟩
/-- A call that stage E1 has run on a part of the heap is a hook of stage E2. -/
theorem hMemo_ok {E1 E2 : En} (hP : E2.P = E1.P) (hg : E2.g = E1.g) (hw : E2.w0 = E1.w0) (hR : E2.roB = E1.roB) (hmix : E1.P.follows .mixedOrders = true) (hx : HxOk E1) (hxn : HxNN E1) (he : HeOk E1) (hen : HeNN E1) {n : Nat} {m : Memo} (hchk : memoChk E1 n m = true)
    {N : Nat} {ι : Ren} {H : AH} {w : World} {args : List Value} {args' : Array Value} {v : Value} {H' : AH} (hN : H'.next ≤ N) (hwx : Wx E2 N ι H w) (hargs : VRs ι args args'.toList) (h : hMemo m args H = some (v, H')) : CallsIn Fence.wide 0 E2.P m.f args' w (CallQ E2 N ι H w (.val v H')) := by
  obtain ⟨k1, k2⟩ := bi_none.1 h
  cases k2
  obtain ⟨k3, k4⟩ := ba_iff.1 k1
  obtain ⟨k5, k6⟩ := ba_iff.1 k4
  have k3 := eqAll_ok (veq_ok 6) k3
  subst k3
  have k5 := beq_iff.1 k5
  have k6 := subAll_iff k6
  obtain ⟨r, hr, q1⟩ : ∃ r, ev E1 n (.call (.enter m.f m.args)) (putAll m.sub ⟨m.next, .nil⟩) = some r ∧ (oc (rVal r) false fun q => ba (veq 6 m.v q.1) (ba (Nat.beq q.2.next m.next') (subAll q.2 m.out))) = true := ocB hchk
  obtain ⟨q, hq, q2⟩ : ∃ q, rVal r = some q ∧ ba (veq 6 m.v q.1) (ba (Nat.beq q.2.next m.next') (subAll q.2 m.out)) = true := ocB q1
  have := rVal_some hq
  subst this
  obtain ⟨q3, q2⟩ := ba_iff.1 q2
  obtain ⟨q4, q5⟩ := ba_iff.1 q2
  have q3 := veq_ok 6 _ _ q3
  have q4 := beq_iff.1 q4
  have q5 := subAll_iff q5
  obtain ⟨qv, Hs'⟩ := q
  have q3 : m.v = qv := q3
  have q4 : Hs'.next = m.next' := q4
  have q5 : ∀ p ∈ m.out, ∃ k, Hs'.cells p.1 = some k ∧ simC k p.2 = true := q5
  have hr : ev E1 n (.call (.enter m.f m.args)) (putAll m.sub ⟨m.next, .nil⟩) = some (.val qv Hs') := hr
  subst q3
  -- the part
  obtain ⟨Hs, hHs⟩ : ∃ Hs, Hs = putAll m.sub ⟨m.next, .nil⟩ := ⟨_, rfl⟩
  have hHn : Hs.next = H.next := by rw [hHs, putAll_next, k5]
  have hHg : ∀ b, Hs.get b = match lk m.sub b with | some c => some c.all | none => none := fun b => by
    rw [hHs, putAll_get]
    cases lk m.sub b with
    | some c => rfl
    | none => exact Tr.get_nil b
  have hH2 : ∀ b, (putAll m.sub H).get b = match lk m.sub b with | some c => some c.all | none => H.get b := putAll_get H m.sub
  have hcast : Go ι H.get H.next w ι (putAll m.sub H).get H.next w := Go.recast hwx.hr hwx.bnd fun b k2 hk => by
    rw [hH2] at hk
    cases hl : lk m.sub b with
    | none => rw [hl] at hk; exact ⟨k2, hk, rfl, fun _ _ h => h⟩
    | some c =>
      rw [hl] at hk
      cases hk
      obtain ⟨k, e1, e2⟩ := k6 _ (lk_mem hl)
      have e1 := AH.cells_some e1
      refine ⟨k.all, e1, ?_, fun _ _ h => (simC_ok e2 h).1⟩
      obtain ⟨g, d, -, e3⟩ := hwx.hr.blk _ _ e1
      exact (simC_ok e2 e3).2
  have hsub : ∀ b k, Hs.get b = some k → (putAll m.sub H).get b = some k := fun b k hk => by
    rw [hHg] at hk
    rw [hH2]
    cases hl : lk m.sub b with
    | none => rw [hl] at hk; cases hk
    | some c => rw [hl] at hk; exact hk
  have hwx2 : Wx E2 N ι (putAll m.sub H) w := hwx.step (show Go ι H.get H.next w ι (putAll m.sub H).get (putAll m.sub H).next w by rw [putAll_next]; exact hcast)
  have hwxs : Wx E1 N ι Hs w := ⟨⟨fun b k hk => hwx2.hr.blk b k (hsub b k hk), fun b1 b2 c1 c2 c d1 d2 h1 h2 => hwx2.hr.inj b1 b2 c1 c2 c d1 d2 (hsub _ _ h1) (hsub _ _ h2), hwx2.hr.slt⟩,
    fun b k hk => by
      have := hwx2.bnd b k (hsub b k hk)
      rw [putAll_next] at this
      rw [hHn]; exact this,
    fun k hk => hwx.gl k (by rw [hg]; exact hk), fun t i hi => hwx.z t i (by rw [hP]; exact hi), fun b hb hbN => hwx.fresh b (by rw [← hHn]; exact hb) hbN,
    by
      have := hwx2.base.sub hsub
      exact ⟨by rw [← hR]; exact this.le, fun c hc => by rw [← hw]; exact this.same c (by rw [hR]; exact hc), fun c hc => this.nown c (by rw [hR]; exact hc)⟩⟩
  rw [← hHs] at hr
  have hrun := (ev_ok hmix hx hxn he hen n).ok _ _ _ hr N (by show Hs'.next ≤ N; rw [q4]; exact hN) ι w args' hwxs hargs
  rw [hP]
  refine CallsIn.mono hrun ?_
  rintro e w' ⟨v1, H1, v', e1, rfl, ι', haft, hvr⟩
  cases e1
  refine ⟨m.v, memoH m H, v', rfl, rfl, ι', hwx.aft ?_, hvr⟩
  have gw := Go.widen hwx2.hr (Go.later hwx2.hr hwx2.bnd (m := Hs'.next) (by rw [putAll_next, ← hHn]; exact haft.go.nn)) haft.go hsub (by rw [putAll_next, hHn]; exact Nat.le_refl _) (Nat.le_refl _) fun b k hk _ => .inl (by
    have := hwx2.bnd b k hk
    rw [putAll_next] at this
    rw [hHn]; exact this)
  rw [putAll_next] at gw
  have g1 := hcast.trans hwx.hr gw
  have g2 : Go ι' (beside Hs'.get Hs.get (putAll m.sub H).get) Hs'.next w' ι' (memoH m H).get Hs'.next w' := Go.recast gw.hr gw.bnd fun b k2 hk => by
    have hk : (putAll m.out (killAll m.sub H)).get b = some k2 := hk
    rw [putAll_get, killAll_get] at hk
    cases hl : lk m.out b with
    | some c =>
      rw [hl] at hk
      cases hk
      obtain ⟨k, e1, e2⟩ := q5 _ (lk_mem hl)
      have e1 := AH.cells_some e1
      refine ⟨k.all, beside_iff.2 (.inl e1), ?_, fun _ _ h => (simC_ok e2 h).1⟩
      obtain ⟨g, d, -, e3⟩ := gw.hr.blk _ _ (beside_iff.2 (.inl e1))
      exact (simC_ok e2 e3).2
    | none =>
      rw [hl] at hk
      cases hl2 : lk m.sub b with
      | some c => rw [hl2] at hk; cases hk
      | none =>
        rw [hl2] at hk
        have hHb : Hs.get b = none := by rw [hHg, hl2]
        refine ⟨k2, beside_iff.2 (.inr ⟨?_, hHb, by rw [hH2, hl2]; exact hk⟩), rfl, fun _ _ h => h⟩
        cases e : Hs'.get b with
        | none => rfl
        | some k1 =>
          have hbn := hwx.bnd b k2 hk
          obtain ⟨k3, e3, -⟩ := haft.go.old b k1 (by rw [hHn]; exact hbn) e
          rw [hHb] at e3; cases e3
  have g3 := g1.trans hwx.hr g2
  show Go ι H.get H.next w ι' (memoH m H).get (memoH m H).next w'
  rw [show (memoH m H).next = Hs'.next from q4.symm]
  exact g3
theorem hMemo_nn {m : Memo} (hm : m.next ≤ m.next') {args : List Value} {H H' : AH} {v : Value} (h : hMemo m args H = some (v, H')) : H.next ≤ H'.next := by
  obtain ⟨k1, k2⟩ := bi_none.1 h
  cases k2
  obtain ⟨-, k4⟩ := ba_iff.1 k1
  obtain ⟨k5, -⟩ := ba_iff.1 k4
  have k5 := beq_iff.1 k5
  rw [k5]
  exact hm
theorem hMemos_some : ∀ {l : List Memo} {args : List Value} {H H' : AH} {v : Value}, hMemos l args H = some (v, H') → ∃ m ∈ l, hMemo m args H = some (v, H')
  | [], args, H, H', v, h => nomatch (show (none : Option (Value × AH)) = some (v, H') from h)
  | m :: l, args, H, H', v, h => by
    rcases oc_some.1 (show oc (hMemo m args H) (hMemos l args H) (fun p => some p) = some (v, H') from h) with ⟨-, h1⟩ | ⟨p, h1, h2⟩
    · obtain ⟨m', hm, h3⟩ := hMemos_some h1
      exact ⟨m', List.mem_cons_of_mem _ hm, h3⟩
    · cases h2
      exact ⟨m, List.mem_cons_self .., h1⟩
end Go.Proofs.YthikcbbfnicnlaaGreatDoor.Ev
namespace Go.Proofs.YthikcbbfnicnlaaGreatDoor.Ev
open Go
set_option linter.unusedVariables false
set_option linter.unusedSimpArgs false
abbrev TabE := FuncId × List Value × Value
noncomputable def memF (l : List Memo) (f : FuncId) : Hook := List.rec (motive := fun _ => Hook) (fun _ _ => none) (fun m _ g args H => bi (Nat.beq m.f f) (oc (hMemo m args H) (g args H) fun p => some p) (g args H)) l
noncomputable def tabF (T : List TabE) (f : FuncId) : Hook := List.rec (motive := fun _ => Hook) (fun _ _ => none) (fun p _ g args H => bi (ba (Nat.beq p.1 f) (eqAll (veq 6) p.2.1 args)) (some (p.2.2, H)) (g args H)) T
noncomputable def heG (bh : FuncId → Hook) (l : List Memo) (T : List TabE) (f : FuncId) : Option Hook := some fun args H => oc (bh f args H) (oc (memF l f args H) (tabF T f args H) fun p => some p) fun p => some p
/-- What is the same at all stages. -/
structure Gr where
  P : Program
  g : Nat
  bh : FuncId → Hook
  hx : FuncId → Option Hook
  w : World
noncomputable def Gr.en (G : Gr) (l : List Memo) (T : List TabE) : En := ⟨G.P, G.g, heG G.bh l T, G.hx, G.w, G.w.heap.size⟩
structure GrOk (G : Gr) : Prop where
  mix : G.P.follows .mixedOrders = true
  hx : ∀ l T, HxOk (G.en l T)
  hxn : ∀ l T, HxNN (G.en l T)
  bh : ∀ l T f N ι H w args (args' : Array Value) v H', H'.next ≤ N → Wx (G.en l T) N ι H w → VRs ι args args'.toList → G.bh f args H = some (v, H') → CallsIn Fence.wide 0 G.P f args' w (CallQ (G.en l T) N ι H w (.val v H'))
  bhn : ∀ f args H v H', G.bh f args H = some (v, H') → H.next ≤ H'.next
inductive Chain (G : Gr) : List Memo → Prop where
  | nil : Chain G []
  | cons {l : List Memo} {m : Memo} {n : Nat} (h : memoChk (G.en l []) n m = true) (hn : m.next ≤ m.next') (hl : Chain G l) : Chain G (m :: l)
theorem memF_some : ∀ {l : List Memo} {f : FuncId} {args : List Value} {H H' : AH} {v : Value}, memF l f args H = some (v, H') → ∃ m ∈ l, m.f = f ∧ hMemo m args H = some (v, H')
  | [], f, args, H, H', v, h => nomatch (show (none : Option (Value × AH)) = some (v, H') from h)
  | m :: l, f, args, H, H', v, h => by
    rcases bi_or.1 (show bi (Nat.beq m.f f) (oc (hMemo m args H) (memF l f args H) fun p => some p) (memF l f args H) = some (v, H') from h) with ⟨h0, h⟩ | ⟨-, h⟩
    · rcases oc_some.1 h with ⟨-, h1⟩ | ⟨p, h1, h2⟩
      · obtain ⟨m', hm, h3⟩ := memF_some h1
        exact ⟨m', List.mem_cons_of_mem _ hm, h3⟩
      · cases h2
        exact ⟨m, List.mem_cons_self .., beq_iff.1 h0, h1⟩
    · obtain ⟨m', hm, h3⟩ := memF_some h
      exact ⟨m', List.mem_cons_of_mem _ hm, h3⟩
theorem tabF_some : ∀ {T : List TabE} {f : FuncId} {args : List Value} {H H' : AH} {v : Value}, tabF T f args H = some (v, H') → (f, args, v) ∈ T ∧ H' = H
  | [], f, args, H, H', v, h => nomatch (show (none : Option (Value × AH)) = some (v, H') from h)
  | p :: T, f, args, H, H', v, h => by
    rcases bi_or.1 (show bi (ba (Nat.beq p.1 f) (eqAll (veq 6) p.2.1 args)) (some (p.2.2, H)) (tabF T f args H) = some (v, H') from h) with ⟨h0, h⟩ | ⟨-, h⟩
    · obtain ⟨h1, h2⟩ := ba_iff.1 h0
      cases h
      have h1 := beq_iff.1 h1
      have h2 := eqAll_ok (veq_ok 6) h2
      obtain ⟨f0, a0, v0⟩ := p
      have h1 : f0 = f := h1
      have h2 : a0 = args := h2
      subst h1 h2
      exact ⟨List.mem_cons_self .., rfl⟩
    · obtain ⟨h1, h2⟩ := tabF_some h
      exact ⟨List.mem_cons_of_mem _ h1, h2⟩
section
variable {G : Gr}
theorem chain_at {l : List Memo} (h : Chain G l) : ∀ m ∈ l, m.next ≤ m.next' ∧ ∃ l' n, Chain G l' ∧ l'.length < l.length ∧ memoChk (G.en l' []) n m = true := by
  induction h with
  | nil => intro m hm; cases hm
  | @cons l m n h hn hl ih =>
    intro m' hm
    rcases List.mem_cons.1 hm with rfl | hm
    · exact ⟨hn, l, n, hl, Nat.lt_succ_self _, h⟩
    · obtain ⟨h1, l', n', h2, h3, h4⟩ := ih m' hm
      exact ⟨h1, l', n', h2, Nat.lt_succ_of_lt h3, h4⟩
theorem he_nn (hG : GrOk G) {l : List Memo} (hl : Chain G l) (T : List TabE) : HeNN (G.en l T) := by
  intro f h hf args H v H' hr
  cases (show some _ = some h from hf)
  rcases oc_some.1 (show oc (G.bh f args H) (oc (memF l f args H) (tabF T f args H) fun p => some p) (fun p => some p) = some (v, H') from hr) with ⟨-, h1⟩ | ⟨p, h1, h2⟩
  · rcases oc_some.1 h1 with ⟨-, h2⟩ | ⟨p, h2, h3⟩
    · rw [(tabF_some h2).2]
      exact Nat.le_refl _
    · cases h3
      obtain ⟨m, hm, -, h4⟩ := memF_some h2
      exact hMemo_nn (chain_at hl m hm).1 h4
  · cases h2
    exact hG.bhn _ _ _ _ _ h1
/-- What a table's entry has to be. -/
def TabGood (G : Gr) (ι0 : Ren) (H0 : AH) (p : TabE) : Prop := allL plain p.2.1 = true ∧ plain p.2.2 = true ∧ ∃ l n H', Chain G l ∧ ev (G.en l []) n (.call (.enter p.1 p.2.1)) H0 = some (.val p.2.2 H')
theorem he_ok0 (hG : GrOk G) : ∀ (k : Nat) (l : List Memo), l.length < k → Chain G l → ∀ (ι0 : Ren) (H0 : AH) (T : List TabE), (∀ l, StartOk (G.en l []) ι0 H0) → (∀ p ∈ T, TabGood G ι0 H0 p) → (∀ p ∈ T, ∀ l, Chain G l → HeOk (G.en l [])) → HeOk (G.en l T)
  | 0, l, hk, _ => absurd hk (Nat.not_lt_zero _)
  | k + 1, l, hk, hl => by
    intro ι0 H0 T hs hT hTl f h hf N ι H w args args' v H' hN hwx hargs hr
    cases (show some _ = some h from hf)
    rcases oc_some.1 (show oc (G.bh f args H) (oc (memF l f args H) (tabF T f args H) fun p => some p) (fun p => some p) = some (v, H') from hr) with ⟨-, h1⟩ | ⟨p, h1, h2⟩
    · rcases oc_some.1 h1 with ⟨-, h2⟩ | ⟨p, h2, h3⟩
      · obtain ⟨h3, rfl⟩ := tabF_some h2
        obtain ⟨h4, h5, l', n, H1, h6, h7⟩ := hT _ h3
        exact stage (E1 := G.en l' []) (E2 := G.en l T) (hs l') rfl rfl rfl hG.mix (hG.hx l' []) (hG.hxn l' []) (hTl _ h3 l' h6) (he_nn hG h6 []) h7 h4 h5 hwx hargs
      · cases h3
        obtain ⟨m, hm, rfl, h4⟩ := memF_some h2
        obtain ⟨-, l', n, h5, h6, h7⟩ := chain_at hl m hm
        have hin := he_ok0 hG k l' (by omega) h5 ι0 H0 [] hs (fun p hp => nomatch hp) (fun p hp => nomatch hp)
        exact hMemo_ok (E1 := G.en l' []) (E2 := G.en l T) rfl rfl rfl rfl hG.mix (hG.hx l' []) (hG.hxn l' []) hin (he_nn hG h5 []) h7 hN hwx hargs h4
    · cases h2
      exact hG.bh l T f N ι H w args args' _ _ hN hwx hargs h1
theorem he_ok (hG : GrOk G) {l : List Memo} (hl : Chain G l) {ι0 : Ren} {H0 : AH} {T : List TabE} (hs : ∀ l, StartOk (G.en l []) ι0 H0) (hT : ∀ p ∈ T, TabGood G ι0 H0 p) : HeOk (G.en l T) :=
  he_ok0 hG (l.length + 1) l (Nat.lt_succ_self _) hl ι0 H0 T hs hT fun p hp l' hl' => he_ok0 hG (l'.length + 1) l' (Nat.lt_succ_self _) hl' ι0 H0 [] hs (fun p hp => nomatch hp) (fun p hp => nomatch hp)
/-- The whole: a call that the last stage has run. -/
theorem chain_calls (hG : GrOk G) {l : List Memo} (hl : Chain G l) {ι0 : Ren} {H0 : AH} {T : List TabE} (hs : ∀ l T, StartOk (G.en l T) ι0 H0) (hT : ∀ p ∈ T, TabGood G ι0 H0 p) {n : Nat} {f : FuncId} {v : Value} {H' : AH} (hev : ev (G.en l T) n (.call (.enter f [])) H0 = some (.val v H')) (hv : plain v = true) :
    Calls G.P f #[] G.w fun e w' => e = .returned v ∧ RowKit.Below G.w.heap.size G.w w' :=
  ev_calls (E := G.en l T) hG.mix (hG.hx l T) (hG.hxn l T) (he_ok hG hl (fun l => hs l []) hT) (he_nn hG hl T) hev ((hs l T).wx G.w _ (Nat.le_refl _) fun _ _ => rfl) .nil (hs l T).nown hv
end
/-- As the kernel is asked. -/
noncomputable def tabChk (E : En) (n : Nat) (H0 : AH) (p : TabE) : Bool := ba (ba (allL plain p.2.1) (plain p.2.2)) (oc (ev E n (.call (.enter p.1 p.2.1)) H0) false fun r => oc (rVal r) false fun q => veq 6 p.2.2 q.1)
theorem tabChk_ok {G : Gr} {ι0 : Ren} {H0 : AH} {l : List Memo} {n : Nat} {p : TabE} (hl : Chain G l) (h : tabChk (G.en l []) n H0 p = true) : TabGood G ι0 H0 p := by
  obtain ⟨h1, h2⟩ := ba_iff.1 h
  obtain ⟨h3, h4⟩ := ba_iff.1 h1
  obtain ⟨r, h5, h6⟩ := ocB h2
  obtain ⟨q, h7, h8⟩ := ocB h6
  have h8 := veq_ok 6 _ _ h8
  have h7 := rVal_some h7
  exact ⟨h3, h4, l, n, q.2, hl, by rw [h5, h7, h8]⟩
noncomputable def lawChk (E : En) (n : Nat) (f : FuncId) (H0 : AH) (v : Value) : Bool := oc (ev E n (.call (.enter f [])) H0) false fun r => oc (rVal r) false fun q => veq 6 v q.1
theorem lawChk_ok {E : En} {n : Nat} {f : FuncId} {H0 : AH} {v : Value} (h : lawChk E n f H0 v = true) : ∃ H', ev E n (.call (.enter f [])) H0 = some (.val v H') := by
  obtain ⟨r, h5, h6⟩ := ocB h
  obtain ⟨q, h7, h8⟩ := ocB h6
  have h8 := veq_ok 6 _ _ h8
  have h7 := rVal_some h7
  exact ⟨q.2, by rw [h5, h7, h8]⟩
end Go.Proofs.YthikcbbfnicnlaaGreatDoor.Ev
