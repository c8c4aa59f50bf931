/- The evaluator: every order of a drawn region; the whole; stages. -/
import Derived.Test.YthikcbbfnicnlaaGreatDoorEvC
import Derived.OrdersIn
import Derived.Lib.MakeNoZero
import Derived.Laws.Externs
namespace Go.Proofs.YthikcbbfnicnlaaGreatDoor.Ev
open Go
set_option linter.unusedVariables false
set_option linter.unusedSimpArgs false
def beside (h1 h hs : Hp) : Hp := fun b => match h1 b with
  | some k => some k
  | none => match h b with
    | some _ => none
    | none => hs b
theorem beside_iff {h1 h hs : Hp} {b : Nat} {k : Blk} : beside h1 h hs b = some k ↔ h1 b = some k ∨ (h1 b = none ∧ h b = none ∧ hs b = some k) := by
  unfold beside
  cases e1 : h1 b with
  | some k1 => simp
  | none => cases e2 : h b <;> simp
theorem HR.sub {ι : Ren} {h hs : Hp} {w : World} (hr : HR ι hs w) (sub : ∀ b k, h b = some k → hs b = some k) : HR ι h w :=
  ⟨fun b k hk => hr.blk b k (sub b k hk), fun b1 b2 k1 k2 c d1 d2 h1 h2 e1 e2 => hr.inj _ _ _ _ _ _ _ (sub _ _ h1) (sub _ _ h2) e1 e2, hr.slt⟩
theorem Go.widen {ι0 ι ι1 : Ren} {h0 hs h h1 : Hp} {n0 m n n1 : Nat} {w0 w w1 : World} (hb0 : HR ι0 h0 w0) (a : Go ι0 h0 n0 w0 ι hs m w) (g : Go ι h n w ι1 h1 n1 w1) (sub : ∀ b k, h b = some k → hs b = some k) (hn : n0 ≤ n) (hm : n1 ≤ m)
    (early : ∀ b k, hs b = some k → h b = none → b < n ∨ n1 ≤ b) : Go ι0 h0 n0 w0 ι1 (beside h1 h hs) m w1 := by
  have none1 : ∀ b k, hs b = some k → h b = none → h1 b = none := by
    intro b k hk hn0
    cases e : h1 b with
    | none => rfl
    | some k1 =>
      rcases early b k hk hn0 with hlt | hge
      · obtain ⟨k2, hk2, -⟩ := g.old b k1 hlt e
        rw [hn0] at hk2; cases hk2
      · have := g.bnd b k1 e; omega
  have notOwn : ∀ b k c d, hs b = some k → h b = none → ι.f b = some (c, d) → ¬ Own ι h c := by
    rintro b k c d hk hn0 hι ⟨b', k', d', hk', -, hι'⟩
    have := a.hr.inj _ _ _ _ _ _ _ hk (sub _ _ hk') hι hι'
    subst this
    rw [hn0] at hk'; cases hk'
  have at1 : ∀ b k, hs b = some k → ∃ c d, ι.f b = some (c, d) ∧ ι1.f b = some (c, d) ∧ BR ι k c d w := by
    intro b k hk
    obtain ⟨c, d, h2, h3⟩ := a.hr.blk b k hk
    exact ⟨c, d, h2, g.ext.f _ _ h2, h3⟩
  have own : ∀ c, c < w0.heap.size → Own ι h c → Own ι0 h0 c := by
    rintro c hc ⟨q, k, d, hk, hro, hι⟩
    rcases Nat.lt_or_ge q n0 with hq | hq
    · obtain ⟨k0, hk0, e⟩ := a.old q k hq (sub _ _ hk)
      obtain ⟨c0, d0, hc0, -⟩ := hb0.blk q k0 hk0
      have := a.ext.f _ _ hc0
      rw [hι] at this
      cases this
      exact ⟨q, k0, d, hk0, e hro, hc0⟩
    · exact a.loc q k c d hq (sub _ _ hk) hι hc
  refine ⟨a.ext.trans g.ext, fun b h2 h3 => g.out b (a.out b h2 h3) (by omega), ⟨fun b k hk => ?_, fun b1 b2 k1 k2 c d1 d2 e1 e2 i1 i2 => ?_, g.hr.slt⟩, a.nn, fun b k hb hk => ?_, fun b k hk => ?_, fun b k c d hb hk hι hc => ?_, fun c hc ho => ?_, Nat.le_trans a.size g.size, g.os.trans a.os, g.tape.trans a.tape, g.output.trans a.output⟩
  · rcases beside_iff.1 hk with h2 | ⟨-, h3, h4⟩
    · exact g.hr.blk b k h2
    · obtain ⟨c, d, i1, i2, hbr⟩ := at1 b k h4
      exact ⟨c, d, i2, hbr.mono g.ext (g.frame c hbr.lt (notOwn b k c d h4 h3 i1))⟩
  · have mix : ∀ b1 b2 k1 k2 d1 d2, h1 b1 = some k1 → h b2 = none → hs b2 = some k2 → ι1.f b1 = some (c, d1) → ι1.f b2 = some (c, d2) → False := by
      intro b1 b2 k1 k2 d1 d2 q1 q2 q3 i1 i2
      obtain ⟨c', d', j1, j2, hbr⟩ := at1 b2 k2 q3
      rw [i2] at j2; cases j2
      rcases Nat.lt_or_ge b1 n with hq | hq
      · obtain ⟨k0, hk0, -⟩ := g.old b1 k1 hq q1
        obtain ⟨c0, d0, hc0, -⟩ := a.hr.blk b1 k0 (sub _ _ hk0)
        have := g.ext.f _ _ hc0
        rw [i1] at this; cases this
        have := a.hr.inj _ _ _ _ _ _ _ (sub _ _ hk0) q3 hc0 j1
        subst this
        rw [q2] at hk0; cases hk0
      · exact notOwn b2 k2 c d2 q3 q2 j1 (g.loc b1 k1 c d1 hq q1 i1 hbr.lt)
    rcases beside_iff.1 e1 with e1 | ⟨-, e1', e1⟩ <;> rcases beside_iff.1 e2 with e2 | ⟨-, e2', e2⟩
    · exact g.hr.inj _ _ _ _ _ _ _ e1 e2 i1 i2
    · exact (mix b1 b2 k1 k2 d1 d2 e1 e2' e2 i1 i2).elim
    · exact (mix b2 b1 k2 k1 d2 d1 e2 e1' e1 i2 i1).elim
    · obtain ⟨c1, q1, j1, j1', -⟩ := at1 b1 k1 e1
      obtain ⟨c2, q2, j2, j2', -⟩ := at1 b2 k2 e2
      rw [i1] at j1'; cases j1'
      rw [i2] at j2'; cases j2'
      exact a.hr.inj _ _ _ _ _ _ _ e1 e2 j1 j2
  · rcases beside_iff.1 hk with h2 | ⟨-, h3, h4⟩
    · obtain ⟨k1, hk1, e1⟩ := g.old b k (by omega) h2
      obtain ⟨k0, hk0, e0⟩ := a.old b k1 hb (sub _ _ hk1)
      exact ⟨k0, hk0, e0 ∘ e1⟩
    · exact a.old b k hb h4
  · rcases beside_iff.1 hk with h2 | ⟨-, h3, h4⟩
    · have := g.bnd b k h2; omega
    · exact a.bnd b k h4
  · rcases beside_iff.1 hk with h2 | ⟨-, h3, h4⟩
    · rcases Nat.lt_or_ge b n with hq | hq
      · obtain ⟨k1, hk1, e1⟩ := g.old b k hq h2
        obtain ⟨c1, d1, hc1, -⟩ := a.hr.blk b k1 (sub _ _ hk1)
        have := g.ext.f _ _ hc1
        rw [hι] at this; cases this
        exact a.loc b k1 c d hb (sub _ _ hk1) hc1 hc
      · exact own c hc (g.loc b k c d hq h2 hι (Nat.lt_of_lt_of_le hc a.size))
    · obtain ⟨c1, d1, j1, j2, -⟩ := at1 b k h4
      rw [hι] at j2; cases j2
      exact a.loc b k c d hb h4 j1 hc
  · exact (g.frame c (Nat.lt_of_lt_of_le hc a.size) fun h => ho (own c hc h)).trans (a.frame c hc ho)
section
variable {d : Dn} {r : Rec} {T0 : Tr Value} {H0 : AH}
theorem effV_nn (hxn : HxNN d.E) (hrn : ∀ tk H res, r tk H = some res → H.next ≤ res.nx) {o : Oper} {T : Tr Value} {H H' : AH} {v : Value} (h : effR d r o T H = some (.val v H')) : H.next ≤ H'.next := by
  obtain ⟨a, ha, k1⟩ := ob_some.1 h
  have h1 := aop_nn hxn (show aop o.op d.E o.type T H = some (a.1, a.2) from ha)
  rcases oc_some.1 k1 with ⟨hn, k2⟩ | ⟨v, hv, k2⟩
  · obtain ⟨x, hx, k3⟩ := ob_some.1 k2
    obtain ⟨y, hy, k4⟩ := ob_some.1 k3
    cases k4
    have h2 := hrn _ _ _ hx
    rw [rVal_some hy] at h2
    exact Nat.le_trans h1 h2
  · cases k2; exact h1
theorem EntOk.nn (hxn : HxNN d.E) (hrn : ∀ tk H res, r tk H = some res → H.next ≤ res.nx) {F : List Ent} {e : Ent} (h : EntOk d r T0 H0 F e) : e.H.next ≤ e.H'.next ∧ (∀ k, e.kd ≠ 2 → e.blk = some k → e.H'.next = e.H.next + 1) := by
  rcases h.kind with ⟨hk, -, -, hb, hH⟩ | ⟨hk, -, hH, -⟩ | ⟨hk, -, -, hR⟩
  · rw [hH]; exact ⟨Nat.le_refl _, fun k _ e => by rw [hb] at e; cases e⟩
  · rw [hH]
    refine ⟨?_, fun k _ e => by rw [e]; rfl⟩
    cases e.blk with
    | none => exact Nat.le_refl _
    | some k => exact Nat.le_succ _
  · exact ⟨effV_nn hxn hrn hR, fun k h => absurd hk h⟩
/-- Numbers along a trace. -/
theorem stH_nn (hxn : HxNN d.E) (hrn : ∀ tk H res, r tk H = some res → H.next ≤ res.nx) : ∀ {B A : List Ent}, AllOk d r T0 H0 (B ++ A) → (stH H0 A).next ≤ (stH H0 (B ++ A)).next
  | [], A, _ => Nat.le_refl _
  | e :: B, A, h => by
    have h1 := stH_nn hxn hrn (B := B) h.2
    have h2 := (h.1.nn hxn hrn).1
    rw [h.1.H] at h2
    exact Nat.le_trans h1 h2
/-- Behind a phase's beginning, where no effect lies between. -/
theorem stH_char (hxn : HxNN d.E) (hrn : ∀ tk H res, r tk H = some res → H.next ≤ res.nx) : ∀ {B A : List Ent}, AllOk d r T0 H0 (B ++ A) → (∀ e ∈ B, e.kd ≠ 2) → Bnd (stH H0 A).get (stH H0 A).next →
    Bnd (stH H0 (B ++ A)).get (stH H0 (B ++ A)).next ∧ ∀ b k, (stH H0 (B ++ A)).get b = some k ↔ (stH H0 A).get b = some k ∨ ∃ e ∈ B, e.blk = some k ∧ b = e.H.next
  | [], A, _, _, hb => ⟨hb, fun b k => by simp⟩
  | e :: B, A, h, hq, hb => by
    obtain ⟨h1, h2⟩ := stH_char hxn hrn (B := B) h.2 (fun e' he' => hq e' (List.mem_cons_of_mem _ he')) hb
    have hH : e.H = stH H0 (B ++ A) := h.1.H
    have hst : stH H0 (e :: B ++ A) = e.H' := rfl
    have hnx : e.H' = nx e.H e.blk := by
      rcases h.1.kind with ⟨-, -, -, hbk, hH'⟩ | ⟨-, -, hH', -⟩ | ⟨hk, -⟩
      · rw [hbk]; exact hH'
      · exact hH'
      · exact absurd hk (hq e (List.mem_cons_self ..))
    rw [hst, hnx]
    cases hbk : e.blk with
    | none =>
      show Bnd e.H.get e.H.next ∧ _
      rw [hH]
      refine ⟨h1, fun b k => ?_⟩
      show (stH H0 (B ++ A)).get b = some k ↔ _
      rw [h2]
      constructor
      · rintro (h3 | ⟨e', he', h3⟩)
        · exact .inl h3
        · exact .inr ⟨e', List.mem_cons_of_mem _ he', h3⟩
      · rintro (h3 | ⟨e', he', h3⟩)
        · exact .inl h3
        · rcases List.mem_cons.1 he' with rfl | he'
          · rw [hbk] at h3; cases h3.1
          · exact .inr ⟨e', he', h3⟩
    | some k0 =>
      have hg : ∀ b, (nx e.H (some k0)).get b = if b = e.H.next then some k0 else (stH H0 (B ++ A)).get b := by
        intro b
        show (e.H.new k0).get b = _
        rw [AH.new_get, ← hH]; rfl
      refine ⟨fun b k hk => ?_, fun b k => ?_⟩
      · show b < e.H.next + 1
        rw [hg] at hk
        by_cases hbe : b = e.H.next
        · omega
        · rw [if_neg hbe] at hk
          have := h1 b k hk
          rw [← hH] at this; omega
      · rw [hg]
        by_cases hbe : b = e.H.next
        · rw [if_pos hbe]
          constructor
          · intro h3; cases h3; exact .inr ⟨e, List.mem_cons_self .., hbk, hbe⟩
          · intro h3
            have hno : (stH H0 (B ++ A)).get b ≠ some k := fun h4 => by
              have := h1 b k h4
              rw [← hH] at this; omega
            rcases h3 with h3 | ⟨e', he', h3, h4⟩
            · exact absurd ((h2 b k).2 (.inl h3)) hno
            · rcases List.mem_cons.1 he' with rfl | he'
              · rw [← hbk]; exact h3
              · exact absurd ((h2 b k).2 (.inr ⟨e', he', h3, h4⟩)) hno
        · rw [if_neg hbe, h2]
          constructor
          · rintro (h3 | ⟨e', he', h3⟩)
            · exact .inl h3
            · exact .inr ⟨e', List.mem_cons_of_mem _ he', h3⟩
          · rintro (h3 | ⟨e', he', h3, h4⟩)
            · exact .inl h3
            · rcases List.mem_cons.1 he' with rfl | he'
              · exact absurd h4 hbe
              · exact .inr ⟨e', he', h3, h4⟩
end
end Go.Proofs.YthikcbbfnicnlaaGreatDoor.Ev
namespace Go.Proofs.YthikcbbfnicnlaaGreatDoor.Ev
open Go
set_option linter.unusedVariables false
set_option linter.unusedSimpArgs false
theorem dst_bit {e : Ent} {t : Nat} (h : e.o.dst = some t) : tb e.W t = true := by
  rw [tb_eq]
  show (dstM e.o.dst).testBit t = true
  rw [h]
  exact bit_self t
theorem bit_dst {e : Ent} {t : Nat} (h : tb e.W t = true) : e.o.dst = some t := by
  rw [tb_eq] at h
  have h : (dstM e.o.dst).testBit t = true := h
  cases hd : e.o.dst with
  | none => rw [hd] at h; rw [show dstM none = 0 from rfl, Nat.zero_testBit] at h; cases h
  | some u =>
    rw [hd] at h
    have h : (bit u).testBit t = true := h
    rw [bit_eq, Nat.testBit_two_pow] at h
    have : u = t := by simpa using h
    rw [this]
theorem meet {a b t : Nat} (h : noMeet a b = true) (ha : tb a t = true) (hb : tb b t = true) : False := by
  rw [tb_eq] at ha hb
  have h0 : a &&& b = 0 := beq_iff.1 h
  have := Nat.testBit_and a b t
  rw [h0, Nat.zero_testBit, ha, hb] at this
  cases this
theorem tb_lor (a b t : Nat) : tb (Nat.lor a b) t = (tb a t || tb b t) := by rw [tb_eq, tb_eq, tb_eq, lor_bit]
noncomputable def stL (T0 : Tr Value) (L : Nat → Bool) : List Ent → Tr Value
  | [] => T0
  | e :: F => bi (L e.i) (putD (stL T0 L F) e.o.dst e.v) (stL T0 L F)
theorem putD_get (T : Tr Value) (d : Option Tmp) (v : Value) (t : Nat) : (putD T d v).get t = if d = some t then some v else T.get t := by
  cases d with
  | none => simp [putD]
  | some u =>
    show (T.put u (some v)).get t = _
    rw [Tr.get_put]
    by_cases h : t = u
    · subst h; simp
    · rw [if_neg h, if_neg (by simpa using Ne.symm h)]
theorem stL_all {T0 : Tr Value} {L : Nat → Bool} {t : Nat} : ∀ {O : List Ent}, (∀ x ∈ O, x.o.dst = some t → L x.i = true) → (stL T0 L O).get t = (stT T0 O).get t
  | [], _ => rfl
  | x :: O, h => by
    have ih := stL_all (T0 := T0) (L := L) (O := O) fun y hy => h y (List.mem_cons_of_mem _ hy)
    show (bi (L x.i) (putD (stL T0 L O) x.o.dst x.v) (stL T0 L O)).get t = (putD (stT T0 O) x.o.dst x.v).get t
    rw [putD_get]
    by_cases hd : x.o.dst = some t
    · rw [h x (List.mem_cons_self ..) hd, bi_true, putD_get, if_pos hd, if_pos hd]
    · rw [if_neg hd]
      cases L x.i with
      | true => rw [bi_true, putD_get, if_neg hd]; exact ih
      | false => rw [bi_false]; exact ih
theorem stL_none {T0 : Tr Value} {L : Nat → Bool} {t : Nat} {O : List Ent} : ∀ {B : List Ent}, (∀ x ∈ B, x.o.dst = some t → L x.i = false) → (stL T0 L (B ++ O)).get t = (stL T0 L O).get t
  | [], _ => rfl
  | x :: B, h => by
    have ih := stL_none (T0 := T0) (L := L) (O := O) (B := B) fun y hy => h y (List.mem_cons_of_mem _ hy)
    show (bi (L x.i) (putD (stL T0 L (B ++ O)) x.o.dst x.v) (stL T0 L (B ++ O))).get t = _
    cases hL : L x.i with
    | false => rw [bi_false]; exact ih
    | true =>
      rw [bi_true, putD_get, if_neg fun hd => by have := h x (List.mem_cons_self ..) hd; rw [hL] at this; cases this]
      exact ih
theorem wantedA_cg {all : List Oper} {g : Option (Nat × Bool)} {T T' : Tr Value} (h : Ag (guardM all g) T T') : wantedA all T g = wantedA all T' g := by
  cases g with
  | none => rfl
  | some q =>
    show oc (getL all q.1) false (dstIs T q.2) = oc (getL all q.1) false (dstIs T' q.2)
    have h : Ag (oc (getL all q.1) 0 fun o => dstM o.dst) T T' := h
    cases ho : getL all q.1 with
    | none => rfl
    | some o =>
      rw [ho] at h
      have h : Ag (dstM o.dst) T T' := h
      show oc o.dst false (fun d => oc (T.get d) false (boolIs q.2)) = oc o.dst false (fun d => oc (T'.get d) false (boolIs q.2))
      cases hd : o.dst with
      | none => rfl
      | some t =>
        rw [hd] at h
        show oc (T.get t) false (boolIs q.2) = oc (T'.get t) false (boolIs q.2)
        rw [h t (bit_self t)]
def upL (L : Nat → Bool) (i : Nat) : Nat → Bool := fun j => if j = i then true else L j
section
variable {d : Dn} {r : Rec} {T0 : Tr Value} {H0 : AH} {L : Nat → Bool}
/-- Slots that an operation names are as they were in the trace. -/
theorem later_not {B1 O : List Ent} {e : Ent} (hF : AllOk d r T0 H0 (B1 ++ e :: O)) (hc : Closed d.all fun i => L i = true) (hL : L e.i = false) {t : Nat} (ht : tb (Nat.lor (e.R d.all) e.W) t = true) : ∀ x ∈ B1, x.o.dst = some t → L x.i = false := by
  intro x hx hd
  obtain ⟨C, D, rfl⟩ := List.append_of_mem hx
  rw [List.append_assoc] at hF
  have hxk := (AllOk.at (B := C) (F := D ++ e :: O) (e := x) hF).1
  cases hLx : L x.i with
  | false => rfl
  | true =>
    have hxt := dst_bit hd
    rcases hxk.apart e (by simp) with h1 | ⟨h1, h2⟩
    · have := hxk.mask e.i h1 _ hc (hc x.i x.o hLx hxk.op)
      rw [hL] at this; cases this
    · rw [tb_lor, Bool.or_eq_true] at ht
      rcases ht with ht | ht
      · exact (meet h2 hxt ht).elim
      · exact (meet h1 ht (by rw [tb_lor, hxt, Bool.or_true])).elim
theorem earlier_done {O : List Ent} {e : Ent} (hk : EntOk d r T0 H0 O e) (hc : Closed d.all fun i => L i = true) (hr : Ready (fun i => L i = true) e.o) {t : Nat} (ht : tb (Nat.lor (e.R d.all) e.W) t = true) : ∀ x ∈ O, x.o.dst = some t → L x.i = true := by
  intro x hx hd
  rcases hk.apart x hx with h1 | ⟨h1, -⟩
  · exact hk.mask x.i h1 _ hc hr
  · exact (meet h1 (dst_bit hd) ht).elim
theorem slots {B1 O : List Ent} {e : Ent} (hF : AllOk d r T0 H0 (B1 ++ e :: O)) (hc : Closed d.all fun i => L i = true) (hL : L e.i = false) (hr : Ready (fun i => L i = true) e.o) : Ag (Nat.lor (e.R d.all) e.W) (stL T0 L (B1 ++ e :: O)) e.T := by
  intro t ht
  rw [← tb_eq] at ht
  have hk := (AllOk.at hF).1
  rw [stL_none (later_not hF hc hL ht)]
  show (bi (L e.i) _ (stL T0 L O)).get t = _
  rw [hL, bi_false, stL_all (earlier_done hk hc hr ht), hk.T]
theorem stL_same {e : Ent} {t : Nat} : ∀ {O : List Ent}, (∀ x ∈ O, x.i ≠ e.i) → (stL T0 (upL L e.i) O).get t = (stL T0 L O).get t
  | [], _ => rfl
  | x :: O, h => by
    have ih := stL_same (t := t) (O := O) fun y hy => h y (List.mem_cons_of_mem _ hy)
    show (bi (upL L e.i x.i) (putD (stL T0 (upL L e.i) O) x.o.dst x.v) (stL T0 (upL L e.i) O)).get t = (bi (L x.i) (putD (stL T0 L O) x.o.dst x.v) (stL T0 L O)).get t
    have hx : upL L e.i x.i = L x.i := by unfold upL; rw [if_neg (h x (List.mem_cons_self ..))]
    rw [hx]
    cases L x.i with
    | true => rw [bi_true, bi_true, putD_get, putD_get, ih]
    | false => exact ih
/-- One more is done. -/
theorem stL_put {O : List Ent} {e : Ent} : ∀ {B1 : List Ent}, AllOk d r T0 H0 (B1 ++ e :: O) → L e.i = false → ∀ t, (tb e.W t = true → ∀ x ∈ B1, x.o.dst = some t → L x.i = false) → (stL T0 (upL L e.i) (B1 ++ e :: O)).get t = (putD (stL T0 L (B1 ++ e :: O)) e.o.dst e.v).get t
  | [], hF, hL, t, _ => by
    have h1 : upL L e.i e.i = true := by simp [upL]
    show (bi (upL L e.i e.i) (putD (stL T0 (upL L e.i) O) e.o.dst e.v) (stL T0 (upL L e.i) O)).get t = (putD (bi (L e.i) (putD (stL T0 L O) e.o.dst e.v) (stL T0 L O)) e.o.dst e.v).get t
    rw [h1, hL, bi_true, bi_false, putD_get, putD_get, stL_same hF.1.new]
  | x :: B1, hF, hL, t, hB => by
    have ih := stL_put (B1 := B1) hF.2 hL t (fun ht y hy => hB ht y (List.mem_cons_of_mem _ hy))
    have hxe : x.i ≠ e.i := fun h => hF.1.new e (by simp) h.symm
    have hx : upL L e.i x.i = L x.i := by unfold upL; rw [if_neg hxe]
    show (bi (upL L e.i x.i) (putD (stL T0 (upL L e.i) (B1 ++ e :: O)) x.o.dst x.v) (stL T0 (upL L e.i) (B1 ++ e :: O))).get t = (putD (bi (L x.i) (putD (stL T0 L (B1 ++ e :: O)) x.o.dst x.v) (stL T0 L (B1 ++ e :: O))) e.o.dst e.v).get t
    rw [hx]
    cases hLx : L x.i with
    | false => rw [bi_false, bi_false]; exact ih
    | true =>
      rw [bi_true, bi_true, putD_get, putD_get, putD_get, ih, putD_get]
      by_cases h1 : e.o.dst = some t
      · have h2 : x.o.dst ≠ some t := fun h => by
          have := hB (dst_bit h1) x (List.mem_cons_self ..) h
          rw [hLx] at this; cases this
        simp only [h1, h2, if_true, if_false]
      · simp only [h1, if_false]
theorem TR.congr {ι : Ren} {ntm : Nat} {T T' : Tr Value} {tmps : Array Value} (h : TR ι ntm T tmps) (e : ∀ t, T'.get t = T.get t) : TR ι ntm T' tmps := ⟨h.1, fun i => by rw [e]; exact h.2 i⟩
theorem ids_old (hxn : HxNN d.E) (hrn : ∀ tk H res, r tk H = some res → H.next ≤ res.nx) {O : List Ent} {e : Ent} (hF : AllOk d r T0 H0 (e :: O)) : ∀ x ∈ O, x.H'.next ≤ e.H.next := by
  intro x hx
  obtain ⟨C, D, rfl⟩ := List.append_of_mem hx
  have := stH_nn hxn hrn (B := C) (A := x :: D) hF.2
  rw [hF.1.H]
  exact this
theorem ids_new (hxn : HxNN d.E) (hrn : ∀ tk H res, r tk H = some res → H.next ≤ res.nx) {B1 O : List Ent} {e : Ent} (hF : AllOk d r T0 H0 (B1 ++ e :: O)) : ∀ x ∈ B1, e.H'.next ≤ x.H.next := by
  intro x hx
  obtain ⟨C, D, rfl⟩ := List.append_of_mem hx
  rw [List.append_assoc] at hF
  exact ids_old hxn hrn (show AllOk d r T0 H0 (x :: (D ++ e :: O)) from AllOk.at (B := C) hF) e (by simp)
end
end Go.Proofs.YthikcbbfnicnlaaGreatDoor.Ev
namespace Go.Proofs.YthikcbbfnicnlaaGreatDoor.Ev
open Go
set_option linter.unusedVariables false
set_option linter.unusedSimpArgs false
structure Inv (d : Dn) (T0 : Tr Value) (H0 : AH) (F : List Ent) (N : Nat) (ι0 : Ren) (w0 : World) (L : Nat → Bool) (a : Act) (w : World) (B A : List Ent) (ι : Ren) (h : Hp) : Prop where
  split : F = B ++ A
  ph : ph A
  doneA : ∀ e ∈ A, L e.i = true
  effB : ∀ e ∈ B, e.kd = 2 → L e.i = false
  closed : Closed d.all fun i => L i = true
  bndA : Bnd (stH H0 A).get (stH H0 A).next
  go : Go ι0 H0.get H0.next w0 ι h (stH H0 F).next w
  char : ∀ b k, h b = some k ↔ (stH H0 A).get b = some k ∨ ∃ e ∈ B, L e.i = true ∧ e.blk = some k ∧ b = e.H.next
  fresh : ∀ b, (stH H0 A).next ≤ b → b < N → (∀ e ∈ B, L e.i = true → e.blk ≠ none → b ≠ e.H.next) → ι.f b = none
  tr : TR ι d.fi.ntm (stL T0 L F) a.tmps
  ds : L2 (DR ι) d.ds a.defers
section
variable {d : Dn} {r : Rec} {T0 : Tr Value} {H0 : AH} {L : Nat → Bool} {F B1 B2 A : List Ent} {e : Ent} {N : Nat} {ι0 ι : Ren} {w0 w : World} {a : Act} {h : Hp}
theorem AllOk.suffix : ∀ {B A : List Ent}, AllOk d r T0 H0 (B ++ A) → AllOk d r T0 H0 A
  | [], _, h => h
  | _ :: B, _, h => AllOk.suffix (B := B) h.2
theorem uniq {B O : List Ent} (hF : AllOk d r T0 H0 (B ++ e :: O)) : ∀ x ∈ B ++ e :: O, x.i = e.i → x = e := by
  intro x hx hi
  rcases List.mem_append.1 hx with hx | hx
  · obtain ⟨C, D, rfl⟩ := List.append_of_mem hx
    rw [List.append_assoc] at hF
    exact absurd hi.symm ((AllOk.at (B := C) (F := D ++ e :: O) (e := x) hF).1.new e (by simp))
  · rcases List.mem_cons.1 hx with rfl | hx
    · rfl
    · exact absurd hi ((AllOk.at hF).1.new x hx)
theorem upL_iff {i j : Nat} : upL L i j = true ↔ j = i ∨ L j = true := by
  unfold upL
  by_cases h : j = i <;> simp [h]
theorem closed_up (hk : d.all[e.i]? = some e.o) (hc : Closed d.all fun i => L i = true) (hr : Ready (fun i => L i = true) e.o) : Closed d.all fun i => upL L e.i i = true := by
  intro i o hi ho x hx hb
  refine upL_iff.2 (.inr ?_)
  rcases upL_iff.1 hi with rfl | hi
  · rw [hk] at ho; cases ho; exact hr x hx hb
  · exact hc i o hi ho x hx hb
theorem inv_next (hF : AllOk d r T0 H0 F) (inv : Inv d T0 H0 F N ι0 w0 L a w (B1 ++ e :: B2) A ι h) (hne : e.kd ≠ 2) (hL : L e.i = false) (hr : Ready (fun i => L i = true) e.o) {ι1 : Ren} {h1 : Hp} {w1 : World} {a1 : Act}
    (go1 : Go ι0 H0.get H0.next w0 ι1 h1 (stH H0 F).next w1) (char1 : ∀ b k, h1 b = some k ↔ h b = some k ∨ (e.blk = some k ∧ b = e.H.next)) (fresh1 : ∀ b, ι.f b = none → (e.blk ≠ none → b ≠ e.H.next) → ι1.f b = none)
    (tr1 : TR ι1 d.fi.ntm (putD (stL T0 L F) e.o.dst e.v) a1.tmps) (ds1 : L2 (DR ι1) d.ds a1.defers) : Inv d T0 H0 F N ι0 w0 (upL L e.i) a1 w1 (B1 ++ e :: B2) A ι1 h1 := by
  have hs := inv.split
  have hF' : AllOk d r T0 H0 (B1 ++ e :: (B2 ++ A)) := by rw [hs] at hF; simpa using hF
  have hk := (AllOk.at hF').1
  have hmem : ∀ x ∈ B1 ++ e :: B2, x ∈ B1 ++ e :: (B2 ++ A) := fun x hx => by
    simp only [List.mem_append, List.mem_cons] at hx ⊢
    rcases hx with h | h | h
    · exact .inl h
    · exact .inr (.inl h)
    · exact .inr (.inr (.inl h))
  refine ⟨hs, inv.ph, fun x hx => upL_iff.2 (.inr (inv.doneA x hx)), fun x hx hk2 => ?_, closed_up hk.op inv.closed hr, inv.bndA, go1, fun b k => ?_, fun b h2 h3 h4 => ?_, tr1.congr fun t => ?_, ds1⟩
  · cases hu : upL L e.i x.i with
    | false => rfl
    | true =>
      rcases upL_iff.1 hu with hi | hi
      · exact absurd (uniq hF' x (hmem x hx) hi ▸ hk2) hne
      · rw [inv.effB x hx hk2] at hi; cases hi
  · rw [char1, inv.char]
    constructor
    · rintro ((h2 | ⟨x, hx, h2, h3⟩) | ⟨h2, h3⟩)
      · exact .inl h2
      · exact .inr ⟨x, hx, upL_iff.2 (.inr h2), h3⟩
      · exact .inr ⟨e, by simp, upL_iff.2 (.inl rfl), h2, h3⟩
    · rintro (h2 | ⟨x, hx, h2, h3⟩)
      · exact .inl (.inl h2)
      · rcases upL_iff.1 h2 with hi | hi
        · have := uniq hF' x (hmem x hx) hi
          subst this
          exact .inr h3
        · exact .inl (.inr ⟨x, hx, hi, h3⟩)
  · exact fresh1 b (inv.fresh b h2 h3 fun x hx hLx => h4 x hx (upL_iff.2 (.inr hLx))) fun hb => h4 e (by simp) (upL_iff.2 (.inl rfl)) hb
  · have hs' : F = B1 ++ e :: (B2 ++ A) := by rw [hs]; simp
    rw [hs']
    exact stL_put hF' hL t fun ht x hx hd => later_not hF' inv.closed hL (by rw [tb_lor, ht, Bool.or_true]) x hx hd
theorem put_TR {ι : Ren} {ntm : Nat} {T : Tr Value} {dst : Option Tmp} {v v' : Value} {a : Act} (ht : TR ι ntm T a.tmps) (hd : ∀ t, dst = some t → t < ntm) (hv : VR ι v v') : TR ι ntm (putD T dst v) (a.put dst v').tmps := by
  have hset : setT ntm T dst v = some (putD T dst v) := by
    cases dst with
    | none => rfl
    | some t =>
      show bi (Nat.blt t ntm) (some (T.put t (some v))) none = _
      rw [blt_iff.2 (hd t rfl)]; rfl
  have := (put_ok (S := ⟨T, []⟩) (fi := ⟨0, ntm, none⟩) (a := ⟨a.tmps, []⟩) ⟨ht, .nil⟩ hset hv).tr
  cases dst <;> exact this
theorem put_defers (a : Act) (dst : Option Tmp) (v : Value) : (a.put dst v).defers = a.defers := by cases dst <;> rfl
/-- An operation that is no effect, in whatever order. -/
theorem inv_quiet (hx : HxOk d.E) (hxn : HxNN d.E) (ih : RecOk d.E r) (hF : AllOk d r T0 H0 F) (hN : (stH H0 F).next ≤ N) (hw0 : Wx d.E N ι0 H0 w0) (hbase : d.base = H0.t) (inv : Inv d T0 H0 F N ι0 w0 L a w (B1 ++ e :: B2) A ι h) (hne : e.kd ≠ 2) (hL : L e.i = false) (hr : Ready (fun i => L i = true) e.o)
    {ops : Array Oper} (hops : ops.toList = d.all) {rd : Option Nat} {next : Act → World → Prop} {Q : Exit → Act → World → Prop} (hk : ∀ a1 w1 ι1 h1, Inv d T0 H0 F N ι0 w0 (upL L e.i) a1 w1 (B1 ++ e :: B2) A ι1 h1 → next a1 w1) : wpOpIn (FF rd) 0 d.E.P ops Q e.i next a w := by
  have hs' : F = B1 ++ e :: (B2 ++ A) := by rw [inv.split]; simp
  have hF' : AllOk d r T0 H0 (B1 ++ e :: (B2 ++ A)) := hs' ▸ hF
  obtain ⟨hent, hO⟩ := AllOk.at hF'
  have hsl := slots hF' inv.closed hL hr
  rw [← hs'] at hsl
  have hagR : Ag (rdM e.o.op) (stL T0 L F) e.T := (Ag.l (Ag.l hsl))
  have hagG : Ag (guardM d.all e.o.guard) (stL T0 L F) e.T := (Ag.r (Ag.l hsl))
  have hop : ops[e.i]? = some e.o := by rw [← Array.getElem?_toList, hops]; exact hent.op
  have hsx : Sx ι d.fi ⟨stL T0 L F, d.ds⟩ a := ⟨inv.tr, inv.ds⟩
  have hwant := wanted_eq (ops := ops) hsx e.o
  rw [hops, wantedA_cg hagG] at hwant
  unfold wpOpIn
  simp only [hop, hwant]
  rcases hent.kind with ⟨hk0, hw1, hv0, hb0, -⟩ | ⟨hk1, hw1, hH', hq⟩ | ⟨hk2, -⟩
  · rw [hw1, if_neg (by simp)]
    refine ⟨fun f _ => FF_fn rd f, hk _ _ ι h (inv_next hF inv hne hL hr inv.go (fun b k => ?_) (fun b h1 _ => h1) ?_ ?_)⟩
    · rw [hb0]; simp
    · rw [hv0]; exact put_TR inv.tr hent.dst (VR.undef ι)
    · rw [put_defers]; exact inv.ds
  · rw [hw1, if_pos rfl]
    have hq' := hq B2 A rfl inv.ph (fun x hx hx2 => by
      cases htb : tb e.M x.i with
      | false => rfl
      | true =>
        have h1 := hent.mask x.i htb _ inv.closed hr
        rw [inv.effB x (by simp [hx]) hx2] at h1; cases h1)
    have htA : trA d.base A = (stH H0 A).t := by cases A with
      | nil => exact hbase
      | cons x A => rfl
    rw [htA, ← aop_cg hagR] at hq'
    have hnA : (stH H0 A).next ≤ e.H.next := by
      rw [hent.H]
      exact stH_nn hxn ih.nn hO
    have hsub : ∀ b k, (stH H0 A).get b = some k → h b = some k := fun b k hb => (inv.char b k).2 (.inl hb)
    have hcx : Cx d.E ι ⟨e.H.next, (stH H0 A).t⟩ w d.fi.ntm (stL T0 L F) a.tmps := ⟨HR.sub (h := (stH H0 A).get) inv.go.hr hsub, fun b k hb => Nat.lt_of_lt_of_le (inv.bndA b k hb) hnA, inv.tr, fun k hk => inv.go.ext.f _ _ (hw0.gl k hk), fun t i hi => by rw [inv.go.ext.z]; exact hw0.z t i hi⟩
    have heN : e.H'.next ≤ (stH H0 F).next := by
      rw [hs']
      exact stH_nn hxn ih.nn (B := B1) (A := e :: (B2 ++ A)) hF'
    have hnn := hent.nn hxn ih.nn
    have hidne : ∀ x ∈ B1 ++ e :: B2, L x.i = true → x.blk ≠ none → e.blk ≠ none → x.H.next ≠ e.H.next := by
      intro x hx hLx hxb heb
      rcases List.mem_append.1 hx with hx | hx
      · have h1 := ids_new hxn ih.nn hF' x hx
        obtain ⟨k, hk⟩ := Option.ne_none_iff_exists'.1 heb
        have := hnn.2 k hne hk
        omega
      · rcases List.mem_cons.1 hx with rfl | hx
        · rw [hL] at hLx; cases hLx
        · have h1 := ids_old hxn ih.nn (show AllOk d r T0 H0 (e :: (B2 ++ A)) from ⟨hent, hO⟩) x (by simp [hx])
          obtain ⟨C, D, hCD⟩ := List.append_of_mem (show x ∈ B2 ++ A by simp [hx])
          have hxk := (AllOk.at (B := C) (F := D) (e := x) (by rw [← hCD]; exact hO)).1
          obtain ⟨k, hk⟩ := Option.ne_none_iff_exists'.1 hxb
          have h2 := (hxk.nn hxn ih.nn).2 k (fun h2 => by
            have := inv.effB x (by simp [hx]) h2
            rw [hLx] at this; cases this) hk
          omega
    have hAN : (stH H0 A).next ≤ e.H.next := hnA
    obtain ⟨ι1, w1, g, v', hv', hrun⟩ := aop_ok hx hcx e.o hq' (by
      intro b hb1 hb2
      cases hbk : e.blk with
      | none => rw [hbk] at hb2; exact absurd hb2 (by show ¬ b < e.H.next; have : e.H.next ≤ b := hb1; omega)
      | some k0 =>
        rw [hbk] at hb2
        have hb2 : b < e.H.next + 1 := hb2
        have hb1 : e.H.next ≤ b := hb1
        have hbe : b = e.H.next := by omega
        have h2 := hnn.2 k0 hne hbk
        exact inv.fresh b (by omega) (by omega) fun x hxm hLx hxb => by rw [hbe]; exact (hidne x hxm hLx hxb (by rw [hbk]; simp)).symm)
    have hnx : (nx ⟨e.H.next, (stH H0 A).t⟩ e.blk).next = (nx e.H e.blk).next := by cases e.blk <;> rfl
    have g2 := Go.widen hw0.hr inv.go g hsub (by
      have h1 : H0.next ≤ (stH H0 A).next := by
        have := stH_nn hxn ih.nn (B := A) (A := []) (by rw [List.append_nil]; rw [inv.split] at hF; exact (AllOk.suffix hF))
        rwa [List.append_nil] at this
      exact Nat.le_trans h1 hnA) (by rw [hnx, ← hH']; exact heN) (fun b k hb hbn => by
      rcases (inv.char b k).1 hb with h1 | ⟨x, hxm, hLx, hxb, hbx⟩
      · have hbn : (stH H0 A).get b = none := hbn
        rw [h1] at hbn; cases hbn
      · cases hbk : e.blk with
        | none => show b < e.H.next ∨ e.H.next ≤ b; omega
        | some k0 =>
          show b < e.H.next ∨ e.H.next + 1 ≤ b
          have := hidne x hxm hLx (by rw [hxb]; simp) (by rw [hbk]; simp)
          omega)
    have hchar : ∀ b k, beside (nx ⟨e.H.next, (stH H0 A).t⟩ e.blk).get (AH.get ⟨e.H.next, (stH H0 A).t⟩) h b = some k ↔ h b = some k ∨ (e.blk = some k ∧ b = e.H.next) := by
      intro b k
      rw [beside_iff]
      have hgA : ∀ b, AH.get ⟨e.H.next, (stH H0 A).t⟩ b = (stH H0 A).get b := fun _ => rfl
      have hnone : ∀ k0, e.blk = some k0 → h e.H.next = none := by
        intro k0 hbk
        cases hh : h e.H.next with
        | none => rfl
        | some k1 =>
          rcases (inv.char _ _).1 hh with h1 | ⟨x, hxm, hLx, hxb, hbx⟩
          · have := inv.bndA _ _ h1; omega
          · exact absurd hbx.symm (hidne x hxm hLx (by rw [hxb]; simp) (by rw [hbk]; simp))
      cases hbk : e.blk with
      | none =>
        show (AH.get ⟨e.H.next, (stH H0 A).t⟩ b = some k ∨ _) ↔ _
        constructor
        · rintro (h1 | ⟨-, -, h1⟩)
          · exact .inl (hsub b k h1)
          · exact .inl h1
        · rintro (h1 | ⟨h1, -⟩)
          · cases hA : AH.get ⟨e.H.next, (stH H0 A).t⟩ b with
            | some k1 =>
              left
              have := hsub b k1 hA
              rw [h1] at this; rw [← this]
            | none => exact .inr ⟨hA, rfl, h1⟩
          · cases h1
      | some k0 =>
        have hg1 : ∀ b, (nx ⟨e.H.next, (stH H0 A).t⟩ (some k0)).get b = if b = e.H.next then some k0 else (stH H0 A).get b := by
          intro b
          show (AH.new ⟨e.H.next, (stH H0 A).t⟩ k0).get b = _
          rw [AH.new_get]; rfl
        rw [hg1]
        by_cases hbe : b = e.H.next
        · subst hbe
          rw [if_pos rfl]
          have hn := hnone k0 hbk
          constructor
          · rintro (h1 | ⟨h1, -⟩)
            · exact .inr ⟨h1, rfl⟩
            · cases h1
          · rintro (h1 | ⟨h1, -⟩)
            · rw [hn] at h1; cases h1
            · exact .inl h1
        · rw [if_neg hbe]
          constructor
          · rintro (h1 | ⟨-, -, h1⟩)
            · exact .inl (hsub b k h1)
            · exact .inl h1
          · rintro (h1 | ⟨-, h1⟩)
            · cases hA : (stH H0 A).get b with
              | some k1 =>
                left
                have := hsub b k1 hA
                rw [h1] at this; rw [← this]
              | none => exact .inr ⟨rfl, hA, h1⟩
            · exact absurd h1 hbe
    have hfr : ∀ b, ι.f b = none → (e.blk ≠ none → b ≠ e.H.next) → ι1.f b = none := by
      intro b h1 h2
      refine g.out b h1 ?_
      cases hbk : e.blk with
      | none => show b < e.H.next ∨ e.H.next ≤ b; omega
      | some k0 =>
        show b < e.H.next ∨ e.H.next + 1 ≤ b
        have := h2 (by rw [hbk]; simp)
        omega
    refine ⟨fun f _ => FF_fn rd f, ?_⟩
    rw [Oper.semAt_eq _ _ _ (aop_defer e.o hq'), rho_eval]
    have fin : next (a.put e.o.dst v') w1 := hk _ _ ι1 _ (inv_next hF inv hne hL hr g2 hchar hfr (put_TR (inv.tr.mono g.ext) hent.dst hv') (by rw [put_defers]; exact DR.mono g.ext inv.ds))
    rcases hrun with hrun | ⟨rfl, hrun⟩
    · rw [hrun, Oper.uponIn_value]; exact fin
    · rw [hrun, Oper.uponIn_skip]; exact fin
  · exact absurd hk2 hne
end
end Go.Proofs.YthikcbbfnicnlaaGreatDoor.Ev
namespace Go.Proofs.YthikcbbfnicnlaaGreatDoor.Ev
open Go
set_option linter.unusedVariables false
set_option linter.unusedSimpArgs false
section
variable {d : Dn} {r : Rec} {T0 : Tr Value} {H0 : AH} {L : Nat → Bool} {F B1 B2 A : List Ent} {e : Ent} {N : Nat} {ι0 ι : Ren} {w0 w : World} {a : Act} {h : Hp}
theorem effR_cg {o : Oper} {T T' : Tr Value} {H : AH} (hag : Ag (rdM o.op) T T') : effR d r o T H = effR d r o T' H := by
  unfold effR effV
  rw [aop_cg hag]
theorem effR_run {o : Oper} {T T' : Tr Value} {H H' : AH} {v : Value} {ds : List Nat} (h : effR d r o T H = some (.val v H')) (hset : setT d.fi.ntm T o.dst v = some T') :
    (ob (aop o.op d.E o.type T H) fun a => oc (anVal a.1) (ob (r (.call a.1) a.2) fun x => ob (rVal x) fun y => ob (setT d.fi.ntm T o.dst y.1) fun T' => some (Res.cd .normal ⟨T', ds⟩ y.2)) fun v => ob (setT d.fi.ntm T o.dst v) fun T' => some (Res.cd .normal ⟨T', ds⟩ a.2)) = some (.cd .normal ⟨T', ds⟩ H') := by
  obtain ⟨x, hx, k1⟩ := ob_some.1 h
  rw [hx, ob_val]
  rcases oc_some.1 k1 with ⟨hn, k2⟩ | ⟨u, hu, k2⟩
  · obtain ⟨y, hy, k3⟩ := ob_some.1 k2
    obtain ⟨z, hz, k4⟩ := ob_some.1 k3
    cases k4
    rw [hn, oc_none, hy, ob_val, hz, ob_val, hset]; rfl
  · cases k2
    rw [hu, oc_val, hset]; rfl
theorem putD_set {ntm : Nat} {T : Tr Value} {dst : Option Tmp} {v : Value} (hd : ∀ t, dst = some t → t < ntm) : setT ntm T dst v = some (putD T dst v) := by
  cases dst with
  | none => rfl
  | some t =>
    show bi (Nat.blt t ntm) (some (T.put t (some v))) none = _
    rw [blt_iff.2 (hd t rfl)]; rfl
theorem inv_eff (hx : HxOk d.E) (hxn : HxNN d.E) (ih : RecOk d.E r) (hF : AllOk d r T0 H0 F) (hN : (stH H0 F).next ≤ N) (hw0 : Wx d.E N ι0 H0 w0) (inv : Inv d T0 H0 F N ι0 w0 L a w (B1 ++ e :: B2) A ι h) (he : e.kd = 2) (hL : L e.i = false) (hr : Ready (fun i => L i = true) e.o)
    {ops : Array Oper} (hops : ops.toList = d.all) {rd : Option Nat} {next : Act → World → Prop} {Q : Exit → Act → World → Prop} (hk : ∀ a1 w1 ι1 h1, Inv d T0 H0 F N ι0 w0 (upL L e.i) a1 w1 B1 (e :: (B2 ++ A)) ι1 h1 → next a1 w1) : wpOpIn (FF rd) 0 d.E.P ops Q e.i next a w := by
  have hs' : F = B1 ++ e :: (B2 ++ A) := by rw [inv.split]; simp
  have hF' : AllOk d r T0 H0 (B1 ++ e :: (B2 ++ A)) := hs' ▸ hF
  obtain ⟨hent, hO⟩ := AllOk.at hF'
  have hsl := slots hF' inv.closed hL hr
  rw [← hs'] at hsl
  have hagR : Ag (rdM e.o.op) (stL T0 L F) e.T := (Ag.l (Ag.l hsl))
  have hagG : Ag (guardM d.all e.o.guard) (stL T0 L F) e.T := (Ag.r (Ag.l hsl))
  have hop : ops[e.i]? = some e.o := by rw [← Array.getElem?_toList, hops]; exact hent.op
  have hsx : Sx ι d.fi ⟨stL T0 L F, d.ds⟩ a := ⟨inv.tr, inv.ds⟩
  have hwant := wanted_eq (ops := ops) hsx e.o
  rw [hops, wantedA_cg hagG] at hwant
  obtain ⟨hw1, hall, heff⟩ : wantedA d.all e.T e.o.guard = true ∧ (∀ e' ∈ B2 ++ A, tb e.M e'.i = true) ∧ effR d r e.o e.T e.H = some (.val e.v e.H') := by
    rcases hent.kind with ⟨hk0, -⟩ | ⟨hk1, -⟩ | ⟨-, h1, h2, h3⟩
    · rw [he] at hk0; cases hk0
    · rw [he] at hk1; cases hk1
    · exact ⟨h1, h2, h3⟩
  rw [← effR_cg hagR] at heff
  have hlist : ∀ x ∈ B2 ++ A, L x.i = true := fun x hx => hent.mask x.i (hall x hx) _ inv.closed hr
  have hB2 : ∀ x ∈ B2, x.kd ≠ 2 := fun x hx h2 => by
    have h3 := inv.effB x (by simp [hx]) h2
    rw [hlist x (by simp [hx])] at h3; cases h3
  obtain ⟨hbnd, hchar⟩ := stH_char hxn ih.nn hO hB2 inv.bndA
  rw [← hent.H] at hbnd hchar
  have hsub : ∀ b k, e.H.get b = some k → h b = some k := fun b k hb => by
    rcases (hchar b k).1 hb with h1 | ⟨x, hxm, h1, h2⟩
    · exact (inv.char b k).2 (.inl h1)
    · exact (inv.char b k).2 (.inr ⟨x, by simp [hxm], hlist x (by simp [hxm]), h1, h2⟩)
  have hnn := (hent.nn hxn ih.nn).1
  have hnA : (stH H0 A).next ≤ e.H.next := by rw [hent.H]; exact stH_nn hxn ih.nn hO
  have heN : e.H'.next ≤ (stH H0 F).next := by
    rw [hs']
    exact stH_nn hxn ih.nn (B := B1) (A := e :: (B2 ++ A)) hF'
  have hnew := ids_new hxn ih.nn hF'
  have hold : ∀ x ∈ B2, x.blk ≠ none → x.H.next < e.H.next := by
    intro x hx hxb
    have h1 := ids_old hxn ih.nn (show AllOk d r T0 H0 (e :: (B2 ++ A)) from ⟨hent, hO⟩) x (by simp [hx])
    obtain ⟨C, D, hCD⟩ := List.append_of_mem (show x ∈ B2 ++ A by simp [hx])
    have hxk := (AllOk.at (B := C) (F := D) (e := x) (by rw [← hCD]; exact hO)).1
    obtain ⟨k, hk⟩ := Option.ne_none_iff_exists'.1 hxb
    have h2 := (hxk.nn hxn ih.nn).2 k (hB2 x hx) hk
    omega
  have hfr : ∀ b, e.H.next ≤ b → b < N → (∀ x ∈ B1, L x.i = true → x.blk ≠ none → b ≠ x.H.next) → ι.f b = none := by
    intro b h1 h2 h3
    refine inv.fresh b (by omega) h2 fun x hxm hLx hxb => ?_
    rcases List.mem_append.1 hxm with hxm | hxm
    · exact h3 x hxm hLx hxb
    · rcases List.mem_cons.1 hxm with rfl | hxm
      · rw [hL] at hLx; cases hLx
      · have := hold x hxm hxb; omega
  have hwx : Wx d.E e.H'.next ι e.H w := ⟨HR.sub inv.go.hr hsub, hbnd, fun k hk => inv.go.ext.f _ _ (hw0.gl k hk), fun t i hi => by rw [inv.go.ext.z]; exact hw0.z t i hi, fun b h1 h2 => hfr b h1 (by omega) fun x hxm _ _ => by have := hnew x hxm; omega, (hw0.base.step hw0.hr inv.go).sub hsub⟩
  have hrun := effR_run (ds := d.ds) heff (putD_set hent.dst)
  unfold wpOpIn
  simp only [hop, hwant, hw1, if_true]
  refine oper_ok (S := ⟨stL T0 L F, d.ds⟩) hx hxn ih (k := fun S' H' => some (.cd .normal S' H')) rfl hrun (fun S' H' hh => by cases hh; exact Nat.le_refl _) (N := e.H'.next) (Nat.le_refl _) hwx hsx next Q ?_
  intro T' H1 ι1 w1 a1 hh haft hs1
  cases hh
  have hH0 : H0.next ≤ e.H.next := by
    have h1 : H0.next ≤ (stH H0 A).next := by
      have := stH_nn hxn ih.nn (B := A) (A := []) (by rw [List.append_nil]; rw [inv.split] at hF; exact AllOk.suffix hF)
      rwa [List.append_nil] at this
    exact Nat.le_trans h1 hnA
  have hearly : ∀ b k, h b = some k → e.H.get b = none → ∃ x ∈ B1, L x.i = true ∧ x.blk = some k ∧ b = x.H.next := by
    intro b k hb hbn
    rcases (inv.char b k).1 hb with h1 | ⟨x, hxm, hLx, hxb, hbx⟩
    · have := (hchar b k).2 (.inl h1)
      rw [hbn] at this; cases this
    · rcases List.mem_append.1 hxm with hxm | hxm
      · exact ⟨x, hxm, hLx, hxb, hbx⟩
      · rcases List.mem_cons.1 hxm with rfl | hxm
        · rw [hL] at hLx; cases hLx
        · have := (hchar b k).2 (.inr ⟨x, hxm, hxb, hbx⟩)
          rw [hbn] at this; cases this
  have g2 := Go.widen hw0.hr inv.go haft.go hsub hH0 heN (fun b k hb hbn => by
    obtain ⟨x, hxm, -, -, hbx⟩ := hearly b k hb hbn
    have := hnew x hxm
    omega)
  have hne : ∀ x ∈ B1, x.i ≠ e.i := by
    intro x hxm hi
    obtain ⟨C, D, rfl⟩ := List.append_of_mem hxm
    rw [List.append_assoc] at hF'
    exact (AllOk.at (B := C) (F := D ++ e :: (B2 ++ A)) (e := x) hF').1.new e (by simp) hi.symm
  refine hk a1 w1 ι1 _ ⟨hs', he, fun x hxm => ?_, fun x hxm hx2 => ?_, closed_up hent.op inv.closed hr, haft.wx.bnd, g2, fun b k => ?_, fun b h1 h2 h3 => ?_, hs1.tr.congr fun t => ?_, hs1.ds⟩
  · rcases List.mem_cons.1 hxm with rfl | hxm
    · exact upL_iff.2 (.inl rfl)
    · exact upL_iff.2 (.inr (hlist x hxm))
  · have h3 := inv.effB x (by simp [hxm]) hx2
    unfold upL
    rw [if_neg (hne x hxm)]; exact h3
  · rw [beside_iff]
    show e.H'.get b = some k ∨ _ ↔ e.H'.get b = some k ∨ _
    constructor
    · rintro (h1 | ⟨-, h2, h3⟩)
      · exact .inl h1
      · obtain ⟨x, hxm, hLx, hxb, hbx⟩ := hearly b k h3 h2
        exact .inr ⟨x, hxm, upL_iff.2 (.inr hLx), hxb, hbx⟩
    · rintro (h1 | ⟨x, hxm, hLx, hxb, hbx⟩)
      · exact .inl h1
      · right
        have hLx : L x.i = true := (upL_iff.1 hLx).resolve_left (hne x hxm)
        have hge := hnew x hxm
        refine ⟨?_, ?_, (inv.char b k).2 (.inr ⟨x, by simp [hxm], hLx, hxb, hbx⟩)⟩
        · cases hc : e.H'.get b with
          | none => rfl
          | some k1 => have := haft.wx.bnd b k1 hc; omega
        · cases hc : e.H.get b with
          | none => rfl
          | some k1 => have := hbnd b k1 hc; omega
  · have h1 : e.H'.next ≤ b := h1
    exact haft.go.out b (hfr b (by omega) h2 fun x hxm hLx hxb => h3 x hxm (upL_iff.2 (.inr hLx)) hxb) (.inr h1)
  · rw [hs']
    exact stL_put hF' hL t fun ht x hx hd => later_not hF' inv.closed hL (by rw [tb_lor, ht, Bool.or_true]) x hx hd
/-! every order -/
def left (L : Nat → Bool) (F : List Ent) : Nat := F.countP fun e => !L e.i
theorem left_le {i : Nat} : ∀ {F : List Ent}, left (upL L i) F ≤ left L F := by
  intro F
  refine List.countP_mono_left fun x _ hx => ?_
  have hx : (!upL L i x.i) = true := hx
  cases hLx : L x.i with
  | false => rfl
  | true => rw [show upL L i x.i = true from upL_iff.2 (.inr hLx)] at hx; cases hx
theorem left_lt : ∀ {F : List Ent}, e ∈ F → L e.i = false → left (upL L e.i) F < left L F
  | [], hm, _ => by simp at hm
  | x :: F, hm, hL => by
    have hle := left_le (L := L) (i := e.i) (F := F)
    unfold left at hle ⊢
    rw [List.countP_cons, List.countP_cons]
    by_cases hx : x.i = e.i
    · have h1 : upL L e.i x.i = true := upL_iff.2 (.inl hx)
      rw [h1, hx, hL]
      simp; omega
    · have h1 : upL L e.i x.i = L x.i := by unfold upL; rw [if_neg hx]
      rw [h1]
      have hm : e ∈ F := (List.mem_cons.1 hm).resolve_left fun h => hx (by rw [h])
      have := left_lt (F := F) hm hL
      unfold left at this
      omega
theorem oldest : ∀ {F : List Ent}, (∃ e ∈ F, L e.i = false) → ∃ B e O, F = B ++ e :: O ∧ L e.i = false ∧ ∀ x ∈ O, L x.i = true
  | [], h => by obtain ⟨e, he, -⟩ := h; simp at he
  | x :: F, h => by
    by_cases hF : ∃ e ∈ F, L e.i = false
    · obtain ⟨B, e, O, h1, h2, h3⟩ := oldest hF
      exact ⟨x :: B, e, O, by rw [h1]; rfl, h2, h3⟩
    · obtain ⟨e, he, hL⟩ := h
      rcases List.mem_cons.1 he with rfl | he
      · exact ⟨[], e, F, rfl, hL, fun y hy => by
          cases hy' : L y.i with
          | true => rfl
          | false => exact absurd ⟨y, hy, hy'⟩ hF⟩
      · exact absurd ⟨e, he, hL⟩ hF
theorem bindG_eq (e : Edge) : Region.binds .any e = bindG e.ground := by
  unfold Region.binds
  cases e.ground <;> rfl
theorem sched (hx : HxOk d.E) (hxn : HxNN d.E) (ih : RecOk d.E r) (hF : AllOk d r T0 H0 F) (hN : (stH H0 F).next ≤ N) (hw0 : Wx d.E N ι0 H0 w0) (hbase : d.base = H0.t) {ops : Array Oper} (hops : ops.toList = d.all) (hcov : ∀ j, j < d.all.length → ∃ e ∈ F, e.i = j) {rd : Option Nat} {Q : Exit → Act → World → Prop}
    (hQ : ∀ a w ι, Go ι0 H0.get H0.next w0 ι (stH H0 F).get (stH H0 F).next w → TR ι d.fi.ntm (stT T0 F) a.tmps → L2 (DR ι) d.ds a.defers → Q .normal a w) :
    ∀ (fuel : Nat) (listed : Array Bool) (a : Act) (w : World), listed.size = ops.size → left (fun i => listed.getD i false) F ≤ fuel → (∃ B A ι h, Inv d T0 H0 F N ι0 w0 (fun i => listed.getD i false) a w B A ι h) → wpAnyIn (FF rd) 0 d.E.P .any ops Q fuel listed a w := by
  have hlen : d.all.length = ops.size := by rw [← hops]; simp
  -- nothing may come up: all is done
  have done : ∀ (listed : Array Bool) (a : Act) (w : World), (∃ B A ι h, Inv d T0 H0 F N ι0 w0 (fun i => listed.getD i false) a w B A ι h) → (∀ e ∈ F, listed.getD e.i false = true) → Q .normal a w := by
    rintro listed a w ⟨B, A, ι, h, inv⟩ hall
    have hB : ∀ e ∈ B, e.kd ≠ 2 := fun e he h2 => by
      have h3 := inv.effB e he h2
      have h4 := hall e (by rw [inv.split]; simp [he])
      rw [h4] at h3; cases h3
    have hc := (stH_char hxn ih.nn (by rw [← inv.split]; exact hF) hB inv.bndA).2
    rw [← inv.split] at hc
    have he : h = (stH H0 F).get := by
      funext b
      cases hb : (stH H0 F).get b with
      | some k =>
        rcases (hc b k).1 hb with h1 | ⟨x, hxm, h1, h2⟩
        · exact (inv.char b k).2 (.inl h1)
        · exact (inv.char b k).2 (.inr ⟨x, hxm, hall x (by rw [inv.split]; simp [hxm]), h1, h2⟩)
      | none =>
        cases hb2 : h b with
        | none => rfl
        | some k =>
          have : (stH H0 F).get b = some k := by
            rcases (inv.char b k).1 hb2 with h1 | ⟨x, hxm, -, h1, h2⟩
            · exact (hc b k).2 (.inl h1)
            · exact (hc b k).2 (.inr ⟨x, hxm, h1, h2⟩)
          rw [hb] at this; cases this
    refine hQ a w ι (he ▸ inv.go) (inv.tr.congr fun t => (stL_all fun x hxm _ => hall x hxm).symm) inv.ds
  have empty : ∀ (listed : Array Bool), listed.size = ops.size → Closed d.all (fun i => listed.getD i false = true) → Region.ready .any ops listed = [] → ∀ e ∈ F, listed.getD e.i false = true := by
    intro listed hsz hcl hre e he
    cases hL : listed.getD e.i false with
    | true => rfl
    | false =>
      obtain ⟨B, x, O, h1, h2, h3⟩ := oldest (L := fun i => listed.getD i false) ⟨e, he, hL⟩
      have hxk := (AllOk.at (h1 ▸ hF)).1
      have hlt : x.i < ops.size := by
        have := (List.getElem?_eq_some_iff.1 hxk.op).1
        omega
      have : x.i ∈ Region.ready .any ops listed := by
        refine mem_ready.2 ⟨?_, x.o, by rw [← Array.getElem?_toList, hops]; exact hxk.op, fun y hy hb => ?_⟩
        · have h2 : listed.getD x.i false = false := h2
          have hlt' : x.i < listed.size := by omega
          simp [Array.getD, hlt'] at h2 ⊢
          exact h2
        · obtain ⟨e', he', hi⟩ := hxk.top y (by simpa using hy) (by rw [← bindG_eq]; exact hb)
          rw [← hi]; exact h3 e' he'
      rw [hre] at this; simp at this
  intro fuel
  induction fuel with
  | zero =>
    intro listed a w hsz hle hinv
    have hall : ∀ e ∈ F, listed.getD e.i false = true := fun e he => by
      cases hL : listed.getD e.i false with
      | true => rfl
      | false =>
        have := List.countP_pos_iff (p := fun e : Ent => !listed.getD e.i false) (l := F) |>.2 ⟨e, he, show (!listed.getD e.i false) = true by rw [hL]; rfl⟩
        have hle : List.countP (fun e : Ent => !listed.getD e.i false) F ≤ 0 := hle
        omega
    refine ⟨?_, done listed a w hinv hall⟩
    cases hr : Region.ready .any ops listed with
    | nil => rfl
    | cons i l =>
      have hi : i ∈ Region.ready .any ops listed := by rw [hr]; exact List.mem_cons_self ..
      obtain ⟨h1, o, ho, -⟩ := mem_ready.1 hi
      have hlt : i < ops.size := (Array.getElem?_eq_some_iff.1 ho).1
      obtain ⟨e, he, rfl⟩ := hcov i (by omega)
      have h2 := hall e he
      have hlt' : e.i < listed.size := by omega
      simp [Array.getD, hlt'] at h1 h2
      rw [h1] at h2; cases h2
  | succ fuel ihf =>
    intro listed a w hsz hle hinv
    refine ⟨fun hre => done listed a w hinv ?_, fun i hi => ?_⟩
    · obtain ⟨B, A, ι, h, inv⟩ := hinv
      exact empty listed hsz inv.closed hre
    · obtain ⟨B, A, ι, h, inv⟩ := hinv
      obtain ⟨h1, o, ho, hpre⟩ := mem_ready.1 hi
      have hlt : i < ops.size := (Array.getElem?_eq_some_iff.1 ho).1
      have hlt' : i < listed.size := by omega
      have hL : listed.getD i false = false := by simp [Array.getD, hlt'] at h1 ⊢; exact h1
      obtain ⟨e, he, rfl⟩ := hcov i (by omega)
      have heB : e ∈ B := by
        rw [inv.split] at he
        rcases List.mem_append.1 he with he | he
        · exact he
        · have := inv.doneA e he
          rw [hL] at this; cases this
      obtain ⟨B1, B2, rfl⟩ := List.append_of_mem heB
      have hent := (AllOk.at (B := B1) (F := B2 ++ A) (e := e) (by have := inv.split ▸ hF; simpa using this)).1
      have heo : e.o = o := by
        have := hent.op
        rw [← hops, Array.getElem?_toList, ho] at this
        exact (Option.some.inj this).symm
      have hr : Ready (fun i => listed.getD i false = true) e.o := fun x hx hb => by
        rw [heo] at hx
        exact hpre x (by simpa using hx) (by rw [bindG_eq]; exact hb)
      have hup : (fun j => (listed.setIfInBounds e.i true).getD j false) = upL (fun i => listed.getD i false) e.i := by
        funext j
        unfold upL
        by_cases hj : j = e.i
        · subst hj; simp [Array.getD, hlt']
        · rw [if_neg hj, getD_set_ne false (Ne.symm hj)]
      have hlt2 : left (fun j => (listed.setIfInBounds e.i true).getD j false) F ≤ fuel := by
        rw [hup]
        have := left_lt (L := fun i => listed.getD i false) he hL
        omega
      by_cases hk2 : e.kd = 2
      · refine inv_eff hx hxn ih hF hN hw0 inv hk2 hL hr hops fun a1 w1 ι1 h1 inv1 => ihf _ a1 w1 (by simpa using hsz) hlt2 ⟨B1, e :: (B2 ++ A), ι1, h1, ?_⟩
        rw [hup]; exact inv1
      · refine inv_quiet hx hxn ih hF hN hw0 hbase inv hk2 hL hr hops fun a1 w1 ι1 h1 inv1 => ihf _ a1 w1 (by simpa using hsz) hlt2 ⟨B1 ++ e :: B2, A, ι1, h1, ?_⟩
        rw [hup]; exact inv1
end
end Go.Proofs.YthikcbbfnicnlaaGreatDoor.Ev
namespace Go.Proofs.YthikcbbfnicnlaaGreatDoor.Ev
open Go
set_option linter.unusedVariables false
set_option linter.unusedSimpArgs false
section
variable {E : En} {r : Rec} {fi : Fi} {S : St} {H : AH} {res : Res} {N : Nat} {ι : Ren} {w : World}
theorem pig : ∀ (m : Nat) (l : List Nat), l.Nodup → (∀ x ∈ l, x < m) → l.length ≤ m
  | 0, l, _, h => by
    cases l with
    | nil => exact Nat.le_refl _
    | cons x l => exact absurd (h x (List.mem_cons_self ..)) (by omega)
  | m + 1, l, hn, h => by
    by_cases hm : m ∈ l
    · have h1 := pig m (l.erase m) (hn.erase m) fun x hx => by
        have h2 := (hn.mem_erase_iff).1 hx
        have := h x h2.2
        have := h2.1
        omega
      rw [List.length_erase_of_mem hm] at h1
      omega
    · have := pig m l hn fun x hx => by
        have h2 := h x hx
        have : x ≠ m := fun e => hm (e ▸ hx)
        omega
      omega
theorem AllOk.nodup {d : Dn} {T0 : Tr Value} {H0 : AH} : ∀ {F : List Ent}, AllOk d r T0 H0 F → (F.map (·.i)).Nodup
  | [], _ => List.nodup_nil
  | e :: F, h => by
    rw [List.map_cons, List.nodup_cons]
    refine ⟨fun hm => ?_, AllOk.nodup h.2⟩
    obtain ⟨x, hx, hi⟩ := List.mem_map.1 hm
    exact h.1.new x hx hi
theorem AllOk.len {d : Dn} {T0 : Tr Value} {H0 : AH} {F : List Ent} (h : AllOk d r T0 H0 F) : F.length ≤ d.all.length := by
  have := pig d.all.length (F.map (·.i)) h.nodup fun x hx => by
    obtain ⟨e, he, rfl⟩ := List.mem_map.1 hx
    exact (List.getElem?_eq_some_iff.1 (h.op e he)).1
  simpa using this
theorem drawn_get {ops : List Oper} (h : drawnD E fi ops S r H = some res) : ∃ F, AllOk ⟨E, fi, ops, S.ds, H.t⟩ r S.T H F ∧ res = .cd .normal ⟨stT S.T F, S.ds⟩ (stH H F) ∧ ∀ j, j < ops.length → ∃ e ∈ F, e.i = j := by
  obtain ⟨ms, -, k1⟩ := ob_some.1 h
  exact drawn_trace (d := ⟨E, fi, ops, S.ds, H.t⟩) (T0 := S.T) (H0 := H) _ [] S.T H .nil 0 k1 trivial rfl rfl (fun j M hj => by cases hj) (fun j => by rw [tb_eq, Nat.zero_testBit]; simp)
theorem drawnD_nn (hxn : HxNN E) (ih : RecOk E r) {ops : List Oper} (h : drawnD E fi ops S r H = some res) : H.next ≤ res.nx := by
  obtain ⟨F, hF, rfl, -⟩ := drawn_get h
  have := stH_nn hxn ih.nn (B := F) (A := []) (by rw [List.append_nil]; exact hF)
  rw [List.append_nil] at this
  exact this
theorem drawnD_ok (hmix : E.P.follows .mixedOrders = true) (hx : HxOk E) (hxn : HxNN E) (ih : RecOk E r) {id : Nat} {ops : Array Oper} (h : drawnD E fi ops.toList S r H = some res) : TkOk E (.code fi (.region id ops true) S) H res := by
  have hnn := drawnD_nn hxn ih h
  obtain ⟨F, hF, rfl, hcov⟩ := drawn_get h
  intro N hN ι w a rd hw hs hrd
  have g0 := Go.drew hw.hr hw.bnd
  have hw0 := hw.step g0
  have hle : H.next ≤ (stH H F).next := hnn
  have hL : ∀ i, (Array.replicate ops.size false).getD i false = false := fun i => by
    rw [Array.getD_eq_getD_getElem?, Array.getElem?_replicate]
    split <;> rfl
  refine wpIn_region_any hmix (sched (d := ⟨E, fi, ops.toList, S.ds, H.t⟩) (T0 := S.T) (H0 := H) (F := F) (N := N) (ι0 := ι) (w0 := w.drew) hx hxn ih hF hN hw0 rfl rfl hcov (fun a1 w1 ι1 g ht hd => ?_) ops.size _ a _ (by simp) ?_ ⟨F, [], ι, H.get, ?_⟩)
  · have g1 := Go.trans hw.hr g0 g
    exact ⟨.normal, _, _, rfl, rfl, ι1, hw.aft g1, ⟨ht, hd⟩⟩
  · refine Nat.le_trans (List.countP_le_length) ?_
    have := hF.len
    simpa using this
  · have gr := Go.refl hw0.hr hw0.bnd
    refine ⟨by simp, trivial, fun e he => by simp at he, fun e _ _ => hL e.i, fun i o hi => absurd (show (Array.replicate ops.size false).getD i false = true from hi) (by rw [hL]; simp), hw.bnd, ⟨gr.ext, fun b h1 _ => h1, gr.hr, hle, gr.old, fun b k hb => Nat.lt_of_lt_of_le (hw.bnd b k hb) hle, gr.loc, gr.frame, gr.size, gr.os, gr.tape, gr.output⟩, fun b k => ?_, fun b h1 h2 _ => hw.fresh b h1 h2, hs.tr.congr fun t => ?_, hs.ds⟩
    · constructor
      · intro hb; exact .inl hb
      · rintro (hb | ⟨e, _, h1, _⟩)
        · exact hb
        · rw [hL] at h1; cases h1
    · have := stL_none (T0 := S.T) (L := fun i => (Array.replicate ops.size false).getD i false) (t := t) (O := []) (B := F) fun x _ _ => hL x.i
      rw [List.append_nil] at this
      exact this
/-- WHAT THE EVALUATOR FINDS IS WHAT THE MODEL DOES. -/
theorem step_ok (hmix : E.P.follows .mixedOrders = true) (hx : HxOk E) (hxn : HxNN E) (he : HeOk E) (ih : RecOk E r) {tk : Tk} (h : step tk E r H = some res) : TkOk E tk H res := by
  cases tk with
  | rounds fi c S => exact (cLoop_ok ih h).2
  | ops fi all l S => exact opsD_ok hx hxn ih h
  | call an =>
    cases an with
    | val v => trivial
    | enter f args => exact enterD_ok he ih h
    | round l args => exact roundD_ok ih h
  | code fi c S =>
    cases c with
    | skip => cases (show some (Res.cd .normal S H) = some res from h); exact fun N hN ι w a rd hw hs hrd => wpIn_skip (here hw hs .normal)
    | label l => cases (show some (Res.cd .normal S H) = some res from h); exact fun N hN ι w a rd hw hs hrd => wpIn_label (here hw hs .normal)
    | exit id => cases (show some (Res.cd (.exit id) S H) = some res from h); exact fun N hN ι w a rd hw hs hrd => wpIn_exit (here hw hs (.exit id))
    | ret => cases (show some (Res.cd .ret S H) = some res from h); exact fun N hN ι w a rd hw hs hrd => wpIn_ret (here hw hs .ret)
    | seq a b => exact cSeq_ok ih h
    | cond x a b => exact cCond_ok ih h
    | block id c => exact cBlock_ok ih h
    | loop c => exact (cLoop_ok ih h).1
    | scope c => exact cScope_ok ih h
    | rangeFunc f ps a b => exact cRange_ok hx hxn ih h
    | region id ops d =>
      cases d with
      | true => exact drawnD_ok hmix hx hxn ih (show drawnD E fi ops.toList S r H = some res from h)
      | false =>
        intro N hN ι w a rd hw hs hrd
        have := ih.ok _ _ _ (show r (.ops fi ops.toList ops.toList S) H = some res from h) ops 0 rfl rfl (Nat.zero_le _) N hN ι w a rd hw hs hrd
        refine wpIn_region ?_
        rw [List.range_eq_range']
        exact this
    | goto l => exact nomatch (show (none : Option Res) = some res from h)
    | refuse s => exact nomatch (show (none : Option Res) = some res from h)
theorem step_nn (hxn : HxNN E) (hen : HeNN E) (ih : RecOk E r) {tk : Tk} (h : step tk E r H = some res) : H.next ≤ res.nx := by
  cases tk with
  | rounds fi c S => exact thenD_nn ih (fun y hy => ih.nn _ _ _ hy) (show thenD r (r (.code fi c S) H) (.rounds fi c) = some res from h)
  | ops fi all l S =>
    cases l with
    | nil => cases (show some (Res.cd .normal S H) = some res from h); exact Nat.le_refl _
    | cons o l =>
      have h : bi (wantedA all S.T o.guard) (opsRes fi all l S o.dst r (aop o.op E o.type S.T H)) (opsVal fi all l S.ds r H (setT fi.ntm S.T o.dst undef)) = some res := h
      rcases bi_or.1 h with ⟨-, k⟩ | ⟨-, k⟩
      · exact opsRes_nn hxn ih k
      · exact opsVal_nn ih k
  | call an =>
    cases an with
    | val v => exact nomatch (show (none : Option Res) = some res from h)
    | enter f args =>
      have h : enterD E f args r H = some res := h
      rcases oc_some.1 h with ⟨-, k1⟩ | ⟨pp, h0, k1⟩
      · obtain ⟨fd, -, k2⟩ := ob_some.1 k1
        obtain ⟨c, -, k3⟩ := ob_some.1 k2
        obtain ⟨x, hx1, k6⟩ := ob_some.1 (bi_none.1 k3).2
        obtain ⟨p, hp, k7⟩ := ob_some.1 k6
        obtain ⟨H2, hH2, k10⟩ := ob_some.1 (bi_not.1 k7).2
        obtain ⟨l, -, k11⟩ := ob_some.1 k10
        cases k11
        have h1 := ih.nn _ _ _ hx1
        rw [rCd_some hp] at h1
        have h1 : H.next ≤ p.2.2.next := h1
        have h2 := dropDs_nn hH2
        show H.next ≤ H2.next
        omega
      · obtain ⟨hk, h1, hp⟩ := ob_some.1 h0
        cases k1
        exact hen _ _ h1 _ _ _ _ hp
    | round l args =>
      obtain ⟨p, -, k1⟩ := ob_some.1 (show roundD l args r H = some res from h)
      obtain ⟨T1, -, k2⟩ := ob_some.1 k1
      obtain ⟨x, hx1, k3⟩ := ob_some.1 k2
      obtain ⟨q, hq, k4⟩ := ob_some.1 k3
      obtain ⟨p1, -, k7⟩ := ob_some.1 (bi_none.1 k4).2
      obtain ⟨x2, hx2, k10⟩ := ob_some.1 (bi_none.1 k7).2
      obtain ⟨q2, hq2, k11⟩ := ob_some.1 k10
      have hend : roundEnd l q2.1 q2.2.2 = some res := by
        cases hS : q2.2.1.ds with
        | nil => rw [hS] at k11; exact k11
        | cons d ds => rw [hS] at k11; cases k11
      obtain ⟨p3, -, k12⟩ := ob_some.1 hend
      cases k12
      have h1 := ih.nn _ _ _ hx1
      rw [rCd_some hq] at h1
      have h1 : H.next ≤ q.2.2.next := h1
      have h2 := ih.nn _ _ _ hx2
      rw [rCd_some hq2] at h2
      have h2 : q.2.2.next ≤ q2.2.2.next := h2
      show H.next ≤ q2.2.2.next
      omega
  | code fi c S =>
    cases c with
    | skip => cases (show some (Res.cd .normal S H) = some res from h); exact Nat.le_refl _
    | label l => cases (show some (Res.cd .normal S H) = some res from h); exact Nat.le_refl _
    | exit id => cases (show some (Res.cd (.exit id) S H) = some res from h); exact Nat.le_refl _
    | ret => cases (show some (Res.cd .ret S H) = some res from h); exact Nat.le_refl _
    | seq a b => exact thenD_nn ih (fun y hy => ih.nn _ _ _ hy) (show thenD r (r (.code fi a S) H) (.code fi b) = some res from h)
    | cond x a b =>
      obtain ⟨v, -, k1⟩ := ob_some.1 (show cCond x a b E fi S r H = some res from h)
      obtain ⟨t, -, k2⟩ := ob_some.1 k1
      exact ih.nn _ _ _ k2
    | block id c =>
      obtain ⟨x, hx, k1⟩ := ob_some.1 (show cBlock id c E fi S r H = some res from h)
      obtain ⟨p, hp, k2⟩ := ob_some.1 k1
      cases k2
      have := ih.nn _ _ _ hx
      rw [rCd_some hp] at this
      exact this
    | loop c => exact thenD_nn ih (fun y hy => ih.nn _ _ _ hy) (show thenD r (r (.code fi c S) H) (.rounds fi c) = some res from h)
    | scope c => exact ih.nn _ _ _ (show r (.code fi c S) H = some res from h)
    | rangeFunc f ps a b => exact cRange_nn hxn ih h
    | region id ops d =>
      cases d with
      | true => exact drawnD_nn hxn ih (show drawnD E fi ops.toList S r H = some res from h)
      | false => exact ih.nn _ _ _ (show r (.ops fi ops.toList ops.toList S) H = some res from h)
    | goto l => exact nomatch (show (none : Option Res) = some res from h)
    | refuse s => exact nomatch (show (none : Option Res) = some res from h)
theorem ev_ok (hmix : E.P.follows .mixedOrders = true) (hx : HxOk E) (hxn : HxNN E) (he : HeOk E) (hen : HeNN E) : ∀ n, RecOk E (ev E n)
  | 0 => ⟨fun tk H res h => (nomatch (show (none : Option Res) = some res from h)), fun tk H res h => (nomatch (show (none : Option Res) = some res from h))⟩
  | n + 1 => ⟨fun tk H res h => step_ok hmix hx hxn he (ev_ok hmix hx hxn he hen n) h, fun tk H res h => step_nn hxn hen (ev_ok hmix hx hxn he hen n) h⟩
end
end Go.Proofs.YthikcbbfnicnlaaGreatDoor.Ev
namespace Go.Proofs.YthikcbbfnicnlaaGreatDoor.Ev
open Go
set_option linter.unusedVariables false
set_option linter.unusedSimpArgs false
section
variable {E : En}
/-- A call that the evaluator has run, from a heap of which nothing is owned. -/
theorem ev_calls (hmix : E.P.follows .mixedOrders = true) (hx : HxOk E) (hxn : HxNN E) (he : HeOk E) (hen : HeNN E) {n : Nat} {f : FuncId} {args : List Value} {args' : Array Value} {ι : Ren} {H H' : AH} {w : World} {v : Value}
    (hev : ev E n (.call (.enter f args)) H = some (.val v H')) (hw : Wx E H'.next ι H w) (hargs : VRs ι args args'.toList) (hown : ∀ c, ¬ Own ι H.get c) (hv : plain v = true) :
    Calls E.P f args' w fun e w' => e = .returned v ∧ RowKit.Below w.heap.size w w' := by
  have := (ev_ok hmix hx hxn he hen n).ok _ _ _ hev H'.next (Nat.le_refl _) ι w args' hw hargs
  refine callsIn_wide.1 (CallsIn.mono this ?_)
  rintro e w' ⟨v1, H1, v', e1, rfl, ι', haft, hvr⟩
  cases e1
  have := plain_eq hv hvr
  subst this
  exact ⟨rfl, haft.go.os, haft.go.tape, haft.go.output, haft.go.size, fun k hk => haft.go.frame k hk (hown k)⟩
theorem hMake_ok {f : FuncId} {fd : Func} {ps : Array TypeId} {t elem : TypeId} {i : TypeInfo} (hf : E.P.funcs[f]? = some fd) (hname : (fd.name == "runtime.NumGoroutine") = false) (hb : fd.body.isNone = true) (hn : Extern.findNext fd = none) (he : Extern.find fd = some (Extern.BytealgMakeNoZero.makeNoZero ps #[t]))
    (ht : E.P.underlying t = some (.slice elem)) (hi : E.P.info? elem = some i) (hz : i.size = 1) {ι : Ren} {H : AH} {w : World} {ntm : Nat} {T : Tr Value} {tmps : Array Value} {args args' : List Value} {v : Value} {H' : AH} (cx : Cx E ι H w ntm T tmps) (hargs : VRs ι args args') (h : hMakeNoZero elem args H = some (v, H')) :
    OpOk E ι H w (callFunc f ⟨args'⟩) (.val v) H' := by
  obtain ⟨u, hu, k1⟩ := ob_some.1 h
  obtain ⟨p, hp, k2⟩ := ob_some.1 k1
  obtain ⟨k3, k4⟩ := bi_none.1 k2
  obtain ⟨n, hn2, k5⟩ := ob_some.1 k4
  obtain ⟨k6, k7⟩ := bi_none.1 k5
  cases k7
  obtain ⟨k8, k9⟩ := ba_iff.1 k6
  obtain ⟨k10, k11⟩ := ba_iff.1 k9
  have k8 := beq_iff.1 k8
  rw [lenL_eq] at k8
  rw [getL_eq] at hu
  obtain ⟨hr1, hr2⟩ := roomy_iff k10
  have k11 := blt_iff.1 k11
  have := vInt_some hp; subst this
  have := iNat_some hn2
  obtain ⟨kk, m⟩ := p
  have k3 : kk = .i64 := ikeq_iff k3
  have this : m = (n : Int) := this
  subst k3
  subst this
  have : args = [.int .i64 (n : Int)] := by
    match args, k8 with
    | [x], _ => simp at hu; rw [hu]
  subst this
  have : args' = [.int .i64 (n : Int)] := by
    cases hargs with
    | cons h1 h2 =>
      cases h2
      rw [h1.int_inv]
  subst this
  intro hfr
  have hnone : ι.f H.next = none := hfr H.next (Nat.le_refl _) (Nat.lt_succ_self _)
  obtain ⟨cs, hrun, hsz, -⟩ := Lib.run_makeNoZero (P := E.P) w ps t elem ht n (by omega)
  have g0 := Go.drew cx.hr cx.bnd
  have g1 := g0.trans cx.hr (Go.drew g0.hr g0.bnd)
  have g := go_row (H := H) (w := w.drew.drew) g1.hr g1.bnd hnone ⟨elem, 0, 0, false, [], .nil⟩ cs (0, 0) rfl (Nat.zero_le _) (fun i v hi => absurd (show i < 0 from hi) (by omega)) (fun j _ _ h => absurd (show j < 0 from h) (by omega)) (fun h => absurd rfl h)
  refine ⟨_, _, g1.trans cx.hr g, .slice (some ⟨w.heap.size, 0, none⟩) n cs.size, ?_, .inl ?_⟩
  · have hf1 : (updA ι H.next w.drew.drew.heap.size (some (cs.size, elem))).f H.next = some (w.heap.size, 0) := updA_same _ _ _ _
    have hs1 : (updA ι H.next w.drew.drew.heap.size (some (cs.size, elem))).s w.heap.size = some (cs.size, elem) := updA_s _ _ _ _
    refine VR.newSl hf1 hsz (.inr ⟨rfl, .inr ⟨cs.size, elem, hs1, ?_⟩⟩)
    have : (updA ι H.next w.drew.drew.heap.size (some (cs.size, elem))).z elem = 1 := (cx.z elem i hi).trans hz
    rw [this]; omega
  · rw [run_callFunc_extern hf hname hb hn he]
    have : (Extern.BytealgMakeNoZero.makeNoZero ps #[t] ⟨[.int .i64 (n : Int)]⟩).run E.P w = _ := hrun
    rw [this]; rfl
end
end Go.Proofs.YthikcbbfnicnlaaGreatDoor.Ev
namespace Go.Proofs.YthikcbbfnicnlaaGreatDoor.Ev
open Go
set_option linter.unusedVariables false
set_option linter.unusedSimpArgs false
theorem go_below {ι : Ren} {h : Hp} {n : Nat} {w w' : World} (hr : HR ι h w) (hb : Bnd h n) (hB : RowKit.Below w.heap.size w w') : Go ι h n w ι h n w' :=
  ⟨Ext.refl ι, fun _ h0 _ => h0, ⟨fun b k hk => by
    obtain ⟨c, d, h1, h2⟩ := hr.blk b k hk
    exact ⟨c, d, h1, h2.mono (Ext.refl ι) (hB.block c h2.lt)⟩, hr.inj, fun c p hp => Nat.lt_of_lt_of_le (hr.slt c p hp) hB.size⟩, Nat.le_refl _, fun b k _ hk => ⟨k, hk, id⟩, hb, fun b k c d hn hk => absurd (hb b k hk) (by omega), fun c hc _ => hB.block c hc, hB.size, hB.os, hB.tape, hB.output⟩
/-- A start: in whatever world its blocks lie, the heap H0 is there, and nothing of it is owned. -/
structure StartOk (E : En) (ι0 : Ren) (H0 : AH) : Prop where
  wx : ∀ w N, E.roB ≤ w.heap.size → (∀ c, c < E.roB → w.heap[c]? = E.w0.heap[c]?) → Wx E N ι0 H0 w
  nown : ∀ c, ¬ Own ι0 H0.get c
theorem stage {E1 E2 : En} {ι0 : Ren} {H0 : AH} (hs : StartOk E1 ι0 H0) (hP : E2.P = E1.P) (hw : E2.w0 = E1.w0) (hR : E2.roB = E1.roB) (hmix : E1.P.follows .mixedOrders = true) (hx : HxOk E1) (hxn : HxNN E1) (he : HeOk E1) (hen : HeNN E1)
    {n : Nat} {f : FuncId} {args : List Value} {v : Value} {H' : AH} (hev : ev E1 n (.call (.enter f args)) H0 = some (.val v H')) (hpa : allL plain args = true) (hpv : plain v = true)
    {N : Nat} {ι : Ren} {H : AH} {w : World} {args' : Array Value} (hwx : Wx E2 N ι H w) (hargs : VRs ι args args'.toList) : CallsIn Fence.wide 0 E2.P f args' w (CallQ E2 N ι H w (.val v H)) := by
  have hself := plainL_eq hpa hargs
  have hargs0 : VRs ι0 args args'.toList := by
    rw [← hself]
    have key : ∀ l : List Value, allL plain l = true → VRs ι0 l l := by
      intro l
      induction l with
      | nil => exact fun _ => .nil
      | cons x l ih =>
        intro h
        have h : bi (plain x) (allL plain l) false = true := h
        cases hx : plain x with
        | false => rw [hx] at h; cases h
        | true => rw [hx] at h; exact .cons (plain_self ι0 hx) (ih h)
    exact key args hpa
  have hw0 := hs.wx w H'.next (hR ▸ hwx.base.le) (fun c hc => by rw [hwx.base.same c (hR ▸ hc), hw])
  have := ev_calls hmix hx hxn he hen hev hw0 hargs0 hs.nown hpv
  rw [hP]
  refine CallsIn.mono (callsIn_wide.2 this) ?_
  rintro e w' ⟨rfl, hB⟩
  exact ⟨v, H, v, rfl, rfl, ι, hwx.aft (go_below hwx.hr hwx.bnd hB), plain_self ι hpv⟩
/-- A table of calls. -/
noncomputable def hTab (l : List (List Value × Value)) : Hook := List.rec (motive := fun _ => Hook) (fun _ _ => none) (fun p _ g args H => bi (eqAll (veq 6) p.1 args) (some (p.2, H)) (g args H)) l
theorem hTab_some {l : List (List Value × Value)} {args : List Value} {H H' : AH} {v : Value} (h : hTab l args H = some (v, H')) : (args, v) ∈ l ∧ H' = H := by
  induction l with
  | nil => exact nomatch (show (none : Option (Value × AH)) = some (v, H') from h)
  | cons p l ih =>
    have h : bi (eqAll (veq 6) p.1 args) (some (p.2, H)) (hTab l args H) = some (v, H') := h
    rcases bi_or.1 h with ⟨h1, h2⟩ | ⟨-, h2⟩
    · cases h2
      have := eqAll_ok (veq_ok 6) h1
      exact ⟨by rw [← this]; exact List.mem_cons_self .., rfl⟩
    · exact ⟨List.mem_cons_of_mem _ (ih h2).1, (ih h2).2⟩
end Go.Proofs.YthikcbbfnicnlaaGreatDoor.Ev
