/- The evaluator: code, loops, ranges over functions; drawn regions. -/
import Derived.Test.YthikcbbfnicnlaaGreatDoorEvB
import Derived.RangeFuncNested
import Derived.Scope
namespace Go.Proofs.YthikcbbfnicnlaaGreatDoor.Ev
open Go
set_option linter.unusedVariables false
set_option linter.unusedSimpArgs false

/-- Whoever owns a block later owned it. -/
theorem Go.own_back {ι ι1 : Ren} {h h1 : Hp} {n n1 : Nat} {w w1 : World} (hb : HR ι h w) (a : Go ι h n w ι1 h1 n1 w1) : ∀ c, c < w.heap.size → Own ι1 h1 c → Own ι h c := by
  rintro c hc ⟨q, k, d, hk, hro, hι⟩
  rcases Nat.lt_or_ge q n with hq | hq
  · obtain ⟨k0, hk0, e⟩ := a.old q k hq hk
    obtain ⟨c0, d0, hc0, -⟩ := hb.blk q k0 hk0
    have := a.ext.f _ _ hc0
    rw [hι] at this
    cases this
    exact ⟨q, k0, d, hk0, e hro, hc0⟩
  · exact a.loc q k c d hq hk hι hc
/-- The blocks of the start. -/
structure Base (E : En) (ι : Ren) (h : Hp) (w : World) : Prop where
  le : E.roB ≤ w.heap.size
  same : ∀ c, c < E.roB → w.heap[c]? = E.w0.heap[c]?
  nown : ∀ c, c < E.roB → ¬ Own ι h c
theorem Base.step {E : En} {ι ι1 : Ren} {h h1 : Hp} {n n1 : Nat} {w w1 : World} (hr : HR ι h w) (b : Base E ι h w) (g : Go ι h n w ι1 h1 n1 w1) : Base E ι1 h1 w1 :=
  ⟨Nat.le_trans b.le g.size, fun c hc => (g.frame c (Nat.lt_of_lt_of_le hc b.le) (b.nown c hc)).trans (b.same c hc), fun c hc ho => b.nown c hc (g.own_back hr c (Nat.lt_of_lt_of_le hc b.le) ho)⟩
theorem Base.sub {E : En} {ι : Ren} {h hs : Hp} {w : World} (b : Base E ι hs w) (sub : ∀ j k, h j = some k → hs j = some k) : Base E ι h w :=
  ⟨b.le, b.same, fun c hc ⟨q, k, d, hk, hro, hι⟩ => b.nown c hc ⟨q, k, d, sub _ _ hk, hro, hι⟩⟩
structure Wx (E : En) (N : Nat) (ι : Ren) (H : AH) (w : World) : Prop where
  hr : HR ι H.get w
  bnd : Bnd H.get H.next
  gl : ∀ k, k < E.g → ι.f k = some (k, 0)
  z : ∀ t i, E.P.info? t = some i → ι.z t = i.size
  fresh : ∀ b, H.next ≤ b → b < N → ι.f b = none
  base : Base E ι H.get w
section
variable {E : En} {N : Nat} {ι : Ren} {H : AH} {w : World}
theorem Wx.cx (h : Wx E N ι H w) {ntm : Nat} {T : Tr Value} {tmps : Array Value} (ht : TR ι ntm T tmps) : Cx E ι H w ntm T tmps := ⟨h.hr, h.bnd, ht, h.gl, h.z⟩
theorem Wx.cx0 (h : Wx E N ι H w) : Cx E ι H w 0 .nil #[] := h.cx ⟨rfl, fun i => by
  have : (#[] : Array Value).getD i undef = undef := by simp
  rw [this]; exact VR.undef ι⟩
theorem Wx.step (h : Wx E N ι H w) {ι' : Ren} {H' : AH} {w' : World} (g : Go ι H.get H.next w ι' H'.get H'.next w') : Wx E N ι' H' w' :=
  ⟨g.hr, g.bnd, fun k hk => g.ext.f _ _ (h.gl k hk), fun t i hi => by rw [g.ext.z]; exact h.z t i hi, fun b hb hN => g.out b (h.fresh b (Nat.le_trans g.nn hb) hN) (.inr hb), h.base.step h.hr g⟩
/-- Later. -/
structure Aft (E : En) (N : Nat) (ι : Ren) (H : AH) (w : World) (ι' : Ren) (H' : AH) (w' : World) : Prop where
  go : Go ι H.get H.next w ι' H'.get H'.next w'
  wx : Wx E N ι' H' w'
theorem Wx.aft (h : Wx E N ι H w) {ι' : Ren} {H' : AH} {w' : World} (g : Go ι H.get H.next w ι' H'.get H'.next w') : Aft E N ι H w ι' H' w' := ⟨g, h.step g⟩
theorem Aft.refl (h : Wx E N ι H w) : Aft E N ι H w ι H w := h.aft (Go.refl h.hr h.bnd)
theorem Aft.trans (h : Wx E N ι H w) {ι1 ι2 : Ren} {H1 H2 : AH} {w1 w2 : World} (a : Aft E N ι H w ι1 H1 w1) (b : Aft E N ι1 H1 w1 ι2 H2 w2) : Aft E N ι H w ι2 H2 w2 := ⟨Go.trans h.hr a.go b.go, b.wx⟩
end
/-! code -/
def FF : Option Nat → Fence
  | none => Fence.wide
  | some l => Fence.wide.inRound l
theorem FF_fn (rd : Option Nat) (f : FuncId) : (FF rd).fn f := by cases rd <;> exact trivial
theorem FF_depth (rd : Option Nat) : (FF rd).depth = none := by cases rd <;> rfl
theorem FF_round (rd : Option Nat) : (FF rd).round = rd := by cases rd <;> rfl
theorem FF_room (rd : Option Nat) (n : Nat) : (FF rd).room n := fun d hd => by rw [FF_depth] at hd; cases hd
theorem FF_calls {rd : Option Nat} {n : Nat} {P : Program} {f : FuncId} {args : Array Value} {w : World} {R : Ending → World → Prop} (h : CallsIn Fence.wide n P f args w R) : CallsIn (FF rd) n P f args w R := by cases rd <;> exact h
theorem FF_round_in {rd : Option Nat} {n : Nat} {P : Program} {l : Nat} {f : FuncId} {tmps : Array Value} {a b : Code} {w : World} {R : Ending → World → Prop} (h : RoundIn Fence.wide n P l f tmps a b w R) : RoundIn (FF rd) n P l f tmps a b w R := by cases rd <;> exact h
def xe : X → Exit
  | .normal => .normal
  | .exit id => .exit id
  | .ret => .ret
def DR (ι : Ren) (d : Nat) (df : Deferred) : Prop := ∃ d', ι.f d = some (d', 0) ∧ df = { target := .collected d', args := #[] }
def RdR (ι : Ren) : Option Nat → Option Nat → Prop
  | none, none => True
  | some l, some l' => ι.f l = some (l', 0)
  | _, _ => False
theorem DR.mono {ι ι' : Ren} (he : Ext ι ι') {l : List Nat} {m : List Deferred} (h : L2 (DR ι) l m) : L2 (DR ι') l m := h.mono fun _ _ ⟨d', h1, h2⟩ => ⟨d', he.f _ _ h1, h2⟩
theorem RdR.mono {ι ι' : Ren} (he : Ext ι ι') : ∀ {r r' : Option Nat}, RdR ι r r' → RdR ι' r r'
  | none, none, _ => trivial
  | some _, some _, h => he.f _ _ h
/-- Where a walk stands. -/
structure Sx (ι : Ren) (fi : Fi) (S : St) (a : Act) : Prop where
  tr : TR ι fi.ntm S.T a.tmps
  ds : L2 (DR ι) S.ds a.defers
theorem Sx.mono {ι ι' : Ren} (he : Ext ι ι') {fi : Fi} {S : St} {a : Act} (h : Sx ι fi S a) : Sx ι' fi S a := ⟨h.tr.mono he, DR.mono he h.ds⟩
def CodeQ (E : En) (N : Nat) (ι : Ren) (H : AH) (w : World) (fi : Fi) (r : Res) : Exit → Act → World → Prop := fun e a' w' => ∃ x S' H', r = .cd x S' H' ∧ e = xe x ∧ ∃ ι', Aft E N ι H w ι' H' w' ∧ Sx ι' fi S' a'
def CallQ (E : En) (N : Nat) (ι : Ren) (H : AH) (w : World) (r : Res) : Ending → World → Prop := fun e w' => ∃ v H' v', r = .val v H' ∧ e = .returned v' ∧ ∃ ι', Aft E N ι H w ι' H' w' ∧ VR ι' v v'
def itemIn (F : Fence) (P : Program) (x : Item) (Q : Exit → Act → World → Prop) (a : Act) (w : World) : Prop :=
  ∀ (b : Frame) (k : List Item) (cs : List Frame), b.roundOf = F.round → F.fn b.fn → F.room (cs.length + 1 + 0) → ∃ e a' w', Q e a' w' ∧ ArrivesIn (Machine.fenced P F) P (lone (b.atR a (x :: k)) cs w) b k cs e a' w'
def Res.nx : Res → Nat
  | .cd _ _ H => H.next
  | .val _ H => H.next
def TkOk (E : En) (tk : Tk) (H : AH) (r : Res) : Prop :=
  match tk with
  | .code fi c S => ∀ N, r.nx ≤ N → ∀ ι w a rd, Wx E N ι H w → Sx ι fi S a → RdR ι fi.rd rd → c.wpIn (FF rd) 0 E.P (CodeQ E N ι H w fi r) a w
  | .rounds fi c S => ∀ N, r.nx ≤ N → ∀ ι w a rd, Wx E N ι H w → Sx ι fi S a → RdR ι fi.rd rd → itemIn (FF rd) E.P (.inLoop c) (CodeQ E N ι H w fi r) a w
  | .ops fi all l S => ∀ (ops : Array Oper) (i : Nat), ops.toList = all → l = all.drop i → i ≤ all.length → ∀ N, r.nx ≤ N → ∀ ι w a rd, Wx E N ι H w → Sx ι fi S a → RdR ι fi.rd rd → wpOpsIn (FF rd) 0 E.P ops (CodeQ E N ι H w fi r) (List.range' i l.length) a w
  | .call (.enter f args) => ∀ N, r.nx ≤ N → ∀ ι w (args' : Array Value), Wx E N ι H w → VRs ι args args'.toList → CallsIn Fence.wide 0 E.P f args' w (CallQ E N ι H w r)
  | .call (.round l args) => ∀ N, r.nx ≤ N → ∀ ι w l' (args' : Array Value), Wx E N ι H w → ι.f l = some (l', 0) → VRs ι args args'.toList → ∃ fn tmps assign body, (Instr.yield l' args').run E.P w = .ok (.round l' fn tmps assign body) w ∧ RoundIn Fence.wide 0 E.P l' fn tmps assign body w (CallQ E N ι H w r)
  | .call (.val _) => True
/-- What the evaluator is told of functions that it does not enter. -/
def HeOk (E : En) : Prop := ∀ f h, E.he f = some h → ∀ N ι H w args (args' : Array Value) v H', H'.next ≤ N → Wx E N ι H w → VRs ι args args'.toList → h args H = some (v, H') → CallsIn Fence.wide 0 E.P f args' w (CallQ E N ι H w (.val v H'))
section
variable {E : En} {N : Nat} {ι : Ren} {H : AH} {w : World} {fi : Fi} {a : Act} {rd : Option Nat}
theorem CodeQ.later (hw : Wx E N ι H w) {ι1 : Ren} {H1 : AH} {w1 : World} (ha : Aft E N ι H w ι1 H1 w1) {r : Res} {e : Exit} {a' : Act} {w' : World} (h : CodeQ E N ι1 H1 w1 fi r e a' w') : CodeQ E N ι H w fi r e a' w' := by
  obtain ⟨x, S', H', h1, h2, ι', h3, h4⟩ := h
  exact ⟨x, S', H', h1, h2, ι', ha.trans hw h3, h4⟩
theorem CallQ.later (hw : Wx E N ι H w) {ι1 : Ren} {H1 : AH} {w1 : World} (ha : Aft E N ι H w ι1 H1 w1) {r : Res} {e : Ending} {w' : World} (h : CallQ E N ι1 H1 w1 r e w') : CallQ E N ι H w r e w' := by
  obtain ⟨v, H', v', h1, h2, ι', h3, h4⟩ := h
  exact ⟨v, H', v', h1, h2, ι', ha.trans hw h3, h4⟩
theorem rCd_some {x : Res} {p : X × St × AH} (h : rCd x = some p) : x = .cd p.1 p.2.1 p.2.2 := by
  cases x with
  | cd x S H => cases (show some (x, S, H) = some p from h); rfl
  | val v H => exact nomatch (show (none : Option (X × St × AH)) = some p from h)
theorem rVal_some {x : Res} {p : Value × AH} (h : rVal x = some p) : x = .val p.1 p.2 := by
  cases x with
  | val v H => cases (show some (v, H) = some p from h); rfl
  | cd x S H => exact nomatch (show (none : Option (Value × AH)) = some p from h)
theorem then_ok {x : Res} {p : X × St × AH} {k : Option Res} {r : Res} (h1 : rCd x = some p) (h2 : bi (isNormal p.1) k (some x) = some r) {next : Act → World → Prop}
    (hk : k = some r → ∀ ι1 w1 a1, Aft E N ι H w ι1 p.2.2 w1 → Sx ι1 fi p.2.1 a1 → next a1 w1) : ∀ e a' w', CodeQ E N ι H w fi x e a' w' → Exit.then next (CodeQ E N ι H w fi r) e a' w' := by
  rintro e a' w' ⟨y, S', H', e1, e2, ι', h3, h4⟩
  have := rCd_some h1
  rw [this] at e1
  cases e1
  subst e2
  obtain ⟨y, S', H'⟩ := p
  cases y with
  | normal => exact hk h2 ι' w' a' h3 h4
  | exit id => cases (show some x = some r from h2); exact ⟨.exit id, S', H', this, rfl, ι', h3, h4⟩
  | ret => cases (show some x = some r from h2); exact ⟨.ret, S', H', this, rfl, ι', h3, h4⟩
/-- A loop's round. -/
theorem wpIn_round {F : Fence} {P : Program} {c : Code} {Q : Exit → Act → World → Prop} {w : World} (h : c.wpIn F 0 P (Exit.then (itemIn F P (.inLoop c) Q) Q) a w) :
    (Code.loop c).wpIn F 0 P Q a w ∧ itemIn F P (.inLoop c) Q a w := by
  have key : ∀ (b : Frame) (k : List Item) (cs : List Frame), b.roundOf = F.round → F.fn b.fn → F.room (cs.length + 1 + 0) → ∃ e a' w', Q e a' w' ∧ ArrivesIn (Machine.fenced P F) P (lone (b.atR a (.code c :: .inLoop c :: k)) cs w) b k cs e a' w' := by
    intro b k cs hro hb hr
    obtain ⟨e, a₁, w₁, hq, harr⟩ := h b (.inLoop c :: k) cs hro hb hr
    cases e with
    | normal =>
      obtain ⟨e₂, a₂, w₂, hq₂, harr₂⟩ := hq b k cs hro hb hr
      exact ⟨e₂, a₂, w₂, hq₂, .of_steps harr harr₂⟩
    | exit id => exact ⟨_, a₁, w₁, hq, .pass (x := .inLoop c) rfl (fun _ _ => .inl (by simp)) harr⟩
    | goto l => exact ⟨_, a₁, w₁, hq, .pass (x := .inLoop c) rfl (fun _ _ => .inl (by simp)) harr⟩
    | ret => exact ⟨_, a₁, w₁, hq, .pass (x := .inLoop c) rfl (fun _ _ => .inl (by simp)) harr⟩
    | panic ch => exact ⟨_, a₁, w₁, hq, .pass (x := .inLoop c) rfl (fun _ _ => .inl (by simp)) harr⟩
    | outgrown => exact ⟨_, a₁, w₁, hq, .pass (x := .inLoop c) rfl (fun _ _ => .inl (by simp)) harr⟩
  refine ⟨fun b k cs hro hb hr => ?_, fun b k cs hro hb hr => ?_⟩
  · obtain ⟨e, a', w', hq, harr⟩ := key b k cs hro hb hr
    exact ⟨e, a', w', hq, .of_steps (.one (fenced_calm hb hr rfl) stepR_loop) harr⟩
  · obtain ⟨e, a', w', hq, harr⟩ := key b k cs hro hb hr
    exact ⟨e, a', w', hq, .of_steps (.one (fenced_calm hb hr rfl) stepR_inLoop) harr⟩
theorem stepR_scope' {P : Program} {b : Frame} {k : List Item} {cs : List Frame} {c : Code} : Go.step P (lone (b.atR a (.code (.scope c) :: k)) cs w) = .next (lone (b.atR a (.code c :: .inScope c :: k)) cs w) :=
  step_lone_go (by simp [stepG, stepG.exec, Frame.atR])
theorem stepR_inScope' {P : Program} {b : Frame} {k : List Item} {cs : List Frame} {c : Code} : Go.step P (lone (b.atR a (.inScope c :: k)) cs w) = .next (lone (b.atR a k) cs w) :=
  step_lone_go (by simp [stepG, stepG.exec, Frame.atR])
theorem wpIn_scope' {F : Fence} {P : Program} {c : Code} {Q : Exit → Act → World → Prop} {w : World} (hg : ∀ l a w, ¬ Q (.goto l) a w) (h : c.wpIn F 0 P Q a w) : (Code.scope c).wpIn F 0 P Q a w := by
  intro b k cs hro hb hr
  have h0 : (lone (b.atR a (.code (.scope c) :: k)) cs w).fenced P F := fenced_calm hb hr rfl
  obtain ⟨e, a₁, w₁, hq, harr⟩ := h b (.inScope c :: k) cs hro hb hr
  cases e with
  | normal => exact ⟨.normal, a₁, w₁, hq, .head h0 stepR_scope' (StepsIn.trans harr (.one (fenced_calm hb hr rfl) stepR_inScope'))⟩
  | exit id => exact ⟨.exit id, a₁, w₁, hq, fun k' hk => .head h0 stepR_scope' (harr.1 k' (by simp [exitTo, hk])), fun hr' hk => let ⟨k₁, h1, h2⟩ := harr.2 hr' (by simpa [exitTo] using hk); ⟨k₁, h1, .head h0 stepR_scope' h2⟩⟩
  | goto l => exact (hg _ _ _ hq).elim
  | ret => exact ⟨_, a₁, w₁, hq, .of_steps (.one h0 stepR_scope') harr⟩
  | panic ch => exact ⟨_, a₁, w₁, hq, .of_steps (.one h0 stepR_scope') harr⟩
  | outgrown => exact ⟨_, a₁, w₁, hq, .of_steps (.one h0 stepR_scope') harr⟩
theorem rho_eval (a : Act) : a.eval = rho a.tmps := by
  funext x
  cases x <;> rfl
end
end Go.Proofs.YthikcbbfnicnlaaGreatDoor.Ev
namespace Go.Proofs.YthikcbbfnicnlaaGreatDoor.Ev
open Go
set_option linter.unusedVariables false
set_option linter.unusedSimpArgs false

structure RecOk (E : En) (r : Rec) : Prop where
  ok : ∀ tk H res, r tk H = some res → TkOk E tk H res
  nn : ∀ tk H res, r tk H = some res → H.next ≤ res.nx
section
variable {E : En} {r : Rec} {fi : Fi} {S : St} {H : AH} {res : Res}
theorem then_nn (ih : RecOk E r) {x : Res} {p : X × St × AH} {tk : Tk} (h1 : rCd x = some p) (h2 : bi (isNormal p.1) (r tk p.2.2) (some x) = some res) : x.nx ≤ res.nx := by
  rcases bi_or.1 h2 with ⟨-, h3⟩ | ⟨-, h3⟩
  · rw [rCd_some h1]
    exact ih.nn _ _ _ h3
  · cases h3; exact Nat.le_refl _
theorem cSeq_ok (ih : RecOk E r) {a b : Code} (h : cSeq a b E fi S r H = some res) : TkOk E (.code fi (.seq a b) S) H res := by
  intro N hN ι w act rd hw hs hrd
  obtain ⟨x, hx, k1⟩ := ob_some.1 h
  obtain ⟨p, hp, k2⟩ := ob_some.1 k1
  have hxN : x.nx ≤ N := Nat.le_trans (then_nn ih hp k2) hN
  refine wpIn_seq (wpIn_mono (ih.ok _ _ _ hx N hxN ι w act rd hw hs hrd) (then_ok hp k2 ?_))
  intro hk ι1 w1 a1 haft hs1
  exact wpIn_mono (ih.ok _ _ _ hk N hN ι1 w1 a1 rd haft.wx hs1 (hrd.mono haft.go.ext)) fun e a w hq => hq.later hw haft
theorem cCond_ok (ih : RecOk E r) {x : Operand} {a b : Code} (h : cCond x a b E fi S r H = some res) : TkOk E (.code fi (.cond x a b) S) H res := by
  intro N hN ι w act rd hw hs hrd
  obtain ⟨v, hv, k1⟩ := ob_some.1 h
  obtain ⟨t, ht, k2⟩ := ob_some.1 k1
  have := vBool_some ht; subst this
  have e := (opd_ok (hw.cx hs.tr) hv).bool_inv
  refine wpIn_cond (t := t) (by rw [rho_eval]; exact e) ?_
  have := ih.ok _ _ _ k2 N hN ι w act rd hw hs hrd
  cases t <;> exact this
theorem cBlock_ok (ih : RecOk E r) {id : Nat} {c : Code} (h : cBlock id c E fi S r H = some res) : TkOk E (.code fi (.block id c) S) H res := by
  intro N hN ι w act rd hw hs hrd
  obtain ⟨x, hx, k1⟩ := ob_some.1 h
  obtain ⟨p, hp, k2⟩ := ob_some.1 k1
  cases k2
  have hxp := rCd_some hp
  refine wpIn_block (wpIn_mono (ih.ok _ _ _ hx N (by rw [hxp]; exact hN) ι w act rd hw hs hrd) ?_)
  rintro e a' w' ⟨y, S', H', e1, e2, ι', h3, h4⟩
  rw [hxp] at e1
  cases e1
  subst e2
  obtain ⟨y, S', H'⟩ := p
  cases y with
  | normal => exact ⟨.normal, S', H', rfl, rfl, ι', h3, h4⟩
  | ret => exact ⟨.ret, S', H', rfl, rfl, ι', h3, h4⟩
  | exit k =>
    show (Exit.inBlock id _) (.exit k) a' w'
    have hb : blockX (.exit k) id = bi (Nat.beq k id) .normal (.exit k) := rfl
    by_cases hk : k = id
    · subst hk
      simp only [Exit.inBlock, if_true]
      refine ⟨.normal, S', H', ?_, rfl, ι', h3, h4⟩
      have : Nat.beq k k = true := beq_iff.2 rfl
      show Res.cd (blockX (.exit k) k) S' H' = _
      rw [hb, this]; rfl
    · simp only [Exit.inBlock, hk, if_false]
      refine ⟨.exit k, S', H', ?_, rfl, ι', h3, h4⟩
      have : Nat.beq k id = false := beq_false.2 hk
      show Res.cd (blockX (.exit k) id) S' H' = _
      rw [hb, this]; rfl
theorem cLoop_ok (ih : RecOk E r) {c : Code} (h : cLoop c E fi S r H = some res) : TkOk E (.code fi (.loop c) S) H res ∧ TkOk E (.rounds fi c S) H res := by
  have key : ∀ N, res.nx ≤ N → ∀ ι w act rd, Wx E N ι H w → Sx ι fi S act → RdR ι fi.rd rd → c.wpIn (FF rd) 0 E.P (Exit.then (itemIn (FF rd) E.P (.inLoop c) (CodeQ E N ι H w fi res)) (CodeQ E N ι H w fi res)) act w := by
    intro N hN ι w act rd hw hs hrd
    obtain ⟨x, hx, k1⟩ := ob_some.1 h
    obtain ⟨p, hp, k2⟩ := ob_some.1 k1
    have hxN : x.nx ≤ N := Nat.le_trans (then_nn ih hp k2) hN
    refine wpIn_mono (ih.ok _ _ _ hx N hxN ι w act rd hw hs hrd) (then_ok hp k2 ?_)
    intro hk ι1 w1 a1 haft hs1
    have := ih.ok _ _ _ hk N hN ι1 w1 a1 rd haft.wx hs1 (hrd.mono haft.go.ext)
    intro b k cs hro hb hr
    obtain ⟨e, a', w', hq, harr⟩ := this b k cs hro hb hr
    exact ⟨e, a', w', hq.later hw haft, harr⟩
  exact ⟨fun N hN ι w act rd hw hs hrd => (wpIn_round (key N hN ι w act rd hw hs hrd)).1, fun N hN ι w act rd hw hs hrd => (wpIn_round (key N hN ι w act rd hw hs hrd)).2⟩
theorem cScope_ok (ih : RecOk E r) {c : Code} (h : r (.code fi c S) H = some res) : TkOk E (.code fi (.scope c) S) H res := by
  intro N hN ι w act rd hw hs hrd
  refine wpIn_scope' ?_ (ih.ok _ _ _ h N hN ι w act rd hw hs hrd)
  rintro l a w ⟨y, S', H', e1, e2, -⟩
  cases y <;> cases e2
theorem here {N : Nat} {ι : Ren} {w : World} {a : Act} (hw : Wx E N ι H w) (hs : Sx ι fi S a) (x : X) : CodeQ E N ι H w fi (.cd x S H) (xe x) a w := ⟨x, S, H, rfl, rfl, ι, Aft.refl hw, hs⟩
theorem put_ok {ι : Ren} {a : Act} {d : Option Tmp} {v v' : Value} {T' : Tr Value} (hs : Sx ι fi S a) (h : setT fi.ntm S.T d v = some T') (hv : VR ι v v') : Sx ι fi ⟨T', S.ds⟩ (a.put d v') := by
  cases d with
  | none => cases (show some S.T = some T' from h); exact ⟨hs.tr, hs.ds⟩
  | some d =>
    obtain ⟨k1, k2⟩ := bi_none.1 (show bi (Nat.blt d fi.ntm) (some (S.T.put d (some v))) none = some T' from h)
    cases k2
    have k1 := blt_iff.1 k1
    refine ⟨⟨by simp [Act.put, hs.tr.1], fun i => ?_⟩, hs.ds⟩
    have hg : (S.T.put d (some v)).get i = if i = d then some v else S.T.get i := Tr.get_put _ _ _ _
    show VR ι (orUndef ((S.T.put d (some v)).get i)) ((a.tmps.setIfInBounds d v').getD i undef)
    rw [hg]
    by_cases e : i = d
    · subst e
      rw [if_pos rfl]
      have hlt : i < a.tmps.size := by rw [hs.tr.1]; exact k1
      have : (a.tmps.setIfInBounds i v').getD i undef = v' := by simp [Array.getD, hlt]
      rw [this]; exact hv
    · rw [if_neg e]
      have : (a.tmps.setIfInBounds d v').getD i undef = a.tmps.getD i undef := by
        simp [Array.getD_eq_getD_getElem?, Array.getElem?_setIfInBounds, Ne.symm e]
      rw [this]; exact hs.tr.2 i
theorem wanted_eq {ι : Ren} {a : Act} {ops : Array Oper} (hs : Sx ι fi S a) (o : Oper) : Region.wanted o (yielded ops a.tmps) = wantedA ops.toList S.T o.guard := by
  unfold Region.wanted wantedA
  cases hg : o.guard with
  | none => rfl
  | some q =>
    obtain ⟨j, want⟩ := q
    show (yielded ops a.tmps j == some want) = oc (getL ops.toList j) false (dstIs S.T want)
    rw [getL_eq]
    unfold yielded
    rw [Array.getElem?_toList]
    cases hj : ops[j]? with
    | none => rfl
    | some p =>
      show (_ : Bool) = oc p.dst false fun d => oc (S.T.get d) false (boolIs want)
      cases hd : p.dst with
      | none => simp [hd]
      | some d =>
        have h1 := hs.tr.2 d
        have hD : a.tmps.getD d undef = (a.tmps[d]?).getD undef := Array.getD_eq_getD_getElem? ..
        simp only [Option.bind_some, hd, oc_val]
        cases hT : S.T.get d with
        | none =>
          rw [hT] at h1
          have h1 : VR ι undef (a.tmps.getD d undef) := h1
          have hu : a.tmps.getD d undef = undef := by
            obtain ⟨l', e, h2⟩ := VR.tup_inv (l := []) h1
            cases h2
            exact e
          rw [hD] at hu
          cases hx : a.tmps[d]? with
          | none => rfl
          | some u => rw [hx] at hu; simp only [Option.getD_some] at hu; subst hu; rfl
        | some v =>
          rw [hT] at h1
          have h1 : VR ι v (a.tmps.getD d undef) := h1
          rw [hD] at h1
          show _ = boolIs want v
          cases v with
          | bool b =>
            have := h1.bool_inv
            cases hx : a.tmps[d]? with
            | none => rw [hx] at this; exact nomatch this
            | some u =>
              rw [hx] at this; simp only [Option.getD_some] at this; subst this
              show (some b == some want) = (b == want)
              rfl
          | _ =>
            have hnb : ∀ b, (a.tmps[d]?).getD undef ≠ .bool b := by
              intro b e
              rw [e] at h1
              cases h1
            cases hx : a.tmps[d]? with
            | none => rfl
            | some u =>
              rw [hx] at hnb
              simp only [Option.getD_some] at hnb
              cases u <;> first | rfl | exact absurd rfl (hnb _)
end
end Go.Proofs.YthikcbbfnicnlaaGreatDoor.Ev
namespace Go.Proofs.YthikcbbfnicnlaaGreatDoor.Ev
open Go
set_option linter.unusedVariables false
set_option linter.unusedSimpArgs false
section
variable {E : En} {r : Rec} {fi : Fi} {S : St} {H : AH} {res : Res}
theorem aop_defer (o : Oper) {T : Tr Value} {H : AH} {x : AN × AH} (h : aop o.op E o.type T H = some x) : ∀ c, o.op ≠ .defer c := by
  intro c e
  rw [e] at h
  exact nomatch (show (none : OR) = some x from h)
/-- What an operation does, walked. -/
theorem oper_ok (hx : HxOk E) (hxn : HxNN E) (ih : RecOk E r) {o : Oper} {d : Option Tmp} {k : St → AH → Option Res} (hd : o.dst = d)
    (h : (ob (aop o.op E o.type S.T H) fun a => oc (anVal a.1) (ob (r (.call a.1) a.2) fun x => ob (rVal x) fun y => ob (setT fi.ntm S.T d y.1) fun T' => k ⟨T', S.ds⟩ y.2) fun v => ob (setT fi.ntm S.T d v) fun T' => k ⟨T', S.ds⟩ a.2) = some res)
    (hkn : ∀ S' H', k S' H' = some res → H'.next ≤ res.nx) {N : Nat} (hN : res.nx ≤ N) {ι : Ren} {w : World} {a : Act} {rd : Option Nat} (hw : Wx E N ι H w) (hs : Sx ι fi S a) (next : Act → World → Prop) (Q : Exit → Act → World → Prop)
    (hk : ∀ T' H1 ι1 w1 a1, k ⟨T', S.ds⟩ H1 = some res → Aft E N ι H w ι1 H1 w1 → Sx ι1 fi ⟨T', S.ds⟩ a1 → next a1 w1) : o.wpIn (FF rd) 0 E.P a w next Q := by
  subst hd
  obtain ⟨q, hq, k1⟩ := ob_some.1 h
  obtain ⟨an, H1⟩ := q
  have hop := aop_ok hx (hw.cx hs.tr) o hq
  have hH1 : H1.next ≤ res.nx := by
    cases an with
    | val v =>
      obtain ⟨T', -, k2⟩ := ob_some.1 (show ob (setT fi.ntm S.T o.dst v) (fun T' => k ⟨T', S.ds⟩ H1) = some res from k1)
      exact hkn _ _ k2
    | _ =>
      obtain ⟨x, hx1, k2⟩ := ob_some.1 k1
      obtain ⟨y, hy, k3⟩ := ob_some.1 k2
      obtain ⟨T', -, k4⟩ := ob_some.1 k3
      have := ih.nn _ _ _ hx1
      rw [rVal_some hy] at this
      exact Nat.le_trans this (hkn _ _ k4)
  obtain ⟨ι1, w1, g, hm⟩ := hop (fun b hb hb' => hw.fresh b hb (by omega))
  have haft := hw.aft g
  have hs1 := hs.mono g.ext
  refine ⟨fun f _ => FF_fn rd f, ?_⟩
  rw [Oper.semAt_eq _ _ _ (aop_defer o hq), rho_eval]
  cases an with
  | val v =>
    obtain ⟨T', hT, k2⟩ := ob_some.1 (show ob (setT fi.ntm S.T o.dst v) (fun T' => k ⟨T', S.ds⟩ H1) = some res from k1)
    obtain ⟨v', hv, hrun⟩ := hm
    rcases hrun with hrun | ⟨rfl, hrun⟩
    · rw [hrun, Oper.uponIn_value]
      exact hk _ _ _ _ _ k2 haft (put_ok hs1 hT hv)
    · rw [hrun, Oper.uponIn_skip]
      exact hk _ _ _ _ _ k2 haft (put_ok hs1 hT hv)
  | enter f args =>
    obtain ⟨x, hx1, k2⟩ := ob_some.1 (show ob (r (.call (.enter f args)) H1) (fun x => ob (rVal x) fun y => ob (setT fi.ntm S.T o.dst y.1) fun T' => k ⟨T', S.ds⟩ y.2) = some res from k1)
    obtain ⟨y, hy, k3⟩ := ob_some.1 k2
    obtain ⟨T', hT, k4⟩ := ob_some.1 k3
    have := rVal_some hy; subst this
    have hyN : (Res.val y.1 y.2).nx ≤ N := Nat.le_trans (hkn _ _ k4) hN
    obtain ⟨args', hargs, hrun⟩ := hm
    rw [hrun, Oper.uponIn_enter]
    refine ⟨fun h => (by rw [FF_depth] at h; exact nomatch h), FF_calls (CallsIn.mono (ih.ok _ _ _ hx1 N hyN ι1 w1 args' haft.wx hargs) ?_)⟩
    rintro e w2 ⟨v, H2, v', e1, rfl, ι2, haft2, hv⟩
    cases e1
    exact hk _ _ _ _ _ k4 (haft.trans hw haft2) (put_ok (hs1.mono haft2.go.ext) hT hv)
  | round l args =>
    obtain ⟨x, hx1, k2⟩ := ob_some.1 (show ob (r (.call (.round l args)) H1) (fun x => ob (rVal x) fun y => ob (setT fi.ntm S.T o.dst y.1) fun T' => k ⟨T', S.ds⟩ y.2) = some res from k1)
    obtain ⟨y, hy, k3⟩ := ob_some.1 k2
    obtain ⟨T', hT, k4⟩ := ob_some.1 k3
    have := rVal_some hy; subst this
    have hyN : (Res.val y.1 y.2).nx ≤ N := Nat.le_trans (hkn _ _ k4) hN
    obtain ⟨l', args', hl, hargs, hww, hrun⟩ := hm
    subst hww
    obtain ⟨fn, tmps, as, bd, hyld, hround⟩ := ih.ok _ _ _ hx1 N hyN ι1 w1 l' args' haft.wx hl hargs
    rw [hrun, hyld, Oper.uponIn_round]
    refine ⟨fun h => (by rw [FF_depth] at h; exact nomatch h), FF_round_in (RoundIn.mono hround ?_)⟩
    rintro e w2 ⟨v, H2, v', e1, rfl, ι2, haft2, hv⟩
    cases e1
    exact hk _ _ _ _ _ k4 (haft.trans hw haft2) (put_ok (hs1.mono haft2.go.ext) hT hv)
theorem uponIn_mono {F : Fence} {n : Nat} {P : Program} {o : Oper} {a : Act} {next next' : Act → World → Prop} {Q Q' : Exit → Act → World → Prop} {x : Result Next} (h : o.uponIn F n P a next Q x) (hn : ∀ a w, next a w → next' a w) (hq : ∀ e a w, Q e a w → Q' e a w) : o.uponIn F n P a next' Q' x := by
  cases x with
  | ok y w' =>
    cases y with
    | value v => exact hn _ _ h
    | skip => exact hn _ _ h
    | defer d => exact hn _ _ h
    | enter f args => exact ⟨h.1, h.2.mono fun e w h => by cases e with | returned v => exact hn _ _ h | panicked c => exact hq _ _ _ h | outgrown => exact h.imp fun _ h => h.imp fun _ h => hq _ _ _ h⟩
    | row row args => exact ⟨h.1, h.2.mono fun v w h => hn _ _ h⟩
    | round l f tmps as bd => exact ⟨h.1, h.2.mono fun e w h => by cases e with | returned v => exact hn _ _ h | panicked c => exact hq _ _ _ h | outgrown => exact h.imp fun _ h => h.imp fun _ h => hq _ _ _ h⟩
    | _ => exact h.elim
  | halt y w' =>
    cases y with
    | panic v => exact hq _ _ _ h
    | _ => exact h.elim
theorem wpOpsIn_mono {F : Fence} {n : Nat} {P : Program} {ops : Array Oper} {Q Q' : Exit → Act → World → Prop} (hq : ∀ e a w, Q e a w → Q' e a w) : ∀ (l : List Nat) (a : Act) (w : World), wpOpsIn F n P ops Q l a w → wpOpsIn F n P ops Q' l a w
  | [], a, w, h => hq _ _ _ h
  | i :: rest, a, w, h => by
    cases h0 : ops[i]? with
    | none =>
      simp only [wpOpsIn, h0] at h ⊢
      exact wpOpsIn_mono hq rest a w h
    | some o =>
      simp only [wpOpsIn, h0] at h ⊢
      by_cases h1 : Region.wanted o (yielded ops a.tmps) = true
      · rw [if_pos h1] at h ⊢
        exact ⟨h.1, uponIn_mono h.2 (fun a w => wpOpsIn_mono hq rest a w) hq⟩
      · rw [if_neg h1] at h ⊢
        exact ⟨h.1, wpOpsIn_mono hq rest _ w h.2⟩
theorem drop_cons {α : Type} {l : List α} {i : Nat} {x : α} {m : List α} (h : x :: m = l.drop i) : l[i]? = some x ∧ m = l.drop (i + 1) := by
  refine ⟨?_, ?_⟩
  · have := congrArg (·[0]?) h
    simpa using this.symm
  · rw [← List.drop_drop, ← h]; rfl
theorem opsD_ok (hx : HxOk E) (hxn : HxNN E) (ih : RecOk E r) {all l : List Oper} (h : opsD E fi all l S r H = some res) : TkOk E (.ops fi all l S) H res := by
  intro ops i hall hl hi N hN ι w a rd hw hs hrd
  cases l with
  | nil =>
    cases (show some (Res.cd .normal S H) = some res from h)
    exact here hw hs .normal
  | cons o l =>
    obtain ⟨ho, hl'⟩ := drop_cons hl
    have ho' : ops[i]? = some o := by rw [← Array.getElem?_toList, hall]; exact ho
    have hi' : i + 1 ≤ all.length := (List.getElem?_eq_some_iff.1 ho).1
    have h : bi (wantedA all S.T o.guard) (opsRes fi all l S o.dst r (aop o.op E o.type S.T H)) (opsVal fi all l S.ds r H (setT fi.ntm S.T o.dst undef)) = some res := h
    rw [List.length_cons, List.range'_succ]
    simp only [wpOpsIn, ho']
    have hrest : ∀ T' H1 ι1 w1 a1, r (.ops fi all l ⟨T', S.ds⟩) H1 = some res → Aft E N ι H w ι1 H1 w1 → Sx ι1 fi ⟨T', S.ds⟩ a1 → wpOpsIn (FF rd) 0 E.P ops (CodeQ E N ι H w fi res) (List.range' (i + 1) l.length) a1 w1 := by
      intro T' H1 ι1 w1 a1 hr haft hs1
      have := ih.ok _ _ _ hr ops (i + 1) hall hl' hi' N hN ι1 w1 a1 rd haft.wx hs1 (hrd.mono haft.go.ext)
      exact wpOpsIn_mono (fun e a' w' hq => hq.later hw haft) _ _ _ this
    rw [wanted_eq hs o, hall]
    rcases bi_or.1 h with ⟨hwant, k1⟩ | ⟨hwant, k1⟩
    · rw [hwant, if_pos rfl]
      exact oper_ok hx hxn ih (k := fun S' H' => r (.ops fi all l S') H') rfl k1 (fun S' H' h => ih.nn _ _ _ h) hN hw hs _ _ hrest
    · rw [hwant, if_neg (by simp)]
      obtain ⟨T', hT, k2⟩ := ob_some.1 k1
      exact ⟨fun f _ => FF_fn rd f, hrest _ _ _ _ _ k2 (Aft.refl hw) (put_ok hs hT (VR.undef ι))⟩
end
end Go.Proofs.YthikcbbfnicnlaaGreatDoor.Ev
namespace Go.Proofs.YthikcbbfnicnlaaGreatDoor.Ev
open Go
set_option linter.unusedVariables false
set_option linter.unusedSimpArgs false
theorem upd_upd (h : Hp) (b : Nat) (k k' : Option Blk) : upd (upd h b k) b k' = upd h b k' := by
  funext j
  unfold upd
  by_cases e : j = b
  · rw [if_pos e, if_pos e]
  · rw [if_neg e, if_neg e, if_neg e]
section
variable {E : En} {r : Rec} {fi : Fi} {S : St} {H : AH} {res : Res} {N : Nat} {ι : Ren} {w : World}
def mkLoop (fn : FuncId) (tmps : Array Value) (ds : Nat) (p : Lp) : Loop := { state := p.st, pending := p.pend, fn, tmps, params := ⟨p.ps⟩, assign := p.a, body := p.b, defers := ds }
theorem loop_at (hw : Wx E N ι H w) {l l' : Nat} {p : Lp} (hp : H.loop l = some p) (hl : ι.f l = some (l', 0)) : ∃ tmps ds' fn', w.heap[l']? = some (.loop (mkLoop fn' tmps ds' p)) ∧ TR ι p.ntm p.T tmps ∧ ι.f p.ds = some (ds', 0) := by
  obtain ⟨c, d, h1, -, tmps, ds', fn', h2, h3, h4⟩ := hw.hr.blk _ _ (AH.loop_some hp)
  rw [hl] at h1
  cases h1
  exact ⟨tmps, ds', fn', h2, h3, h4⟩
theorem loop_write (hw : Wx E N ι H w) {l l' : Nat} {p : Lp} (hp : H.loop l = some p) (hl : ι.f l = some (l', 0)) {tmps : Array Value} {ds' : Nat} {fn' : FuncId} (hh : w.heap[l']? = some (.loop (mkLoop fn' tmps ds' p))) (ht : TR ι p.ntm p.T tmps) (hd : ι.f p.ds = some (ds', 0)) (st : LoopState) (pend : Option Code) :
    Aft E N ι H w ι (H.put l (some (p.blk st pend))) (w.putObj l' (.loop { mkLoop fn' tmps ds' p with state := st, pending := pend })) := by
  have hlt : l' < w.heap.size := (Array.getElem?_eq_some_iff.1 hh).1
  refine hw.aft ?_
  rw [AH.put_get]
  exact Go.write hw.hr hw.bnd (AH.loop_some hp) rfl hl wr_putObj ⟨rfl, tmps, ds', fn', World.putObj_heap_same hlt, ht, hd⟩
theorem kill_aft (hw : Wx E N ι H w) (b : Nat) : Aft E N ι H w ι (H.put b none) w := by
  refine hw.aft ?_
  rw [AH.put_get]
  exact Go.kill hw.hr hw.bnd b
theorem loop_end (hw : Wx E N ι H w) {l l' : Nat} {p : Lp} (hp : H.loop l = some p) (hl : ι.f l = some (l', 0)) {tmps : Array Value} {ds' : Nat} {fn' : FuncId} (hh : w.heap[l']? = some (.loop (mkLoop fn' tmps ds' p))) (ht : TR ι p.ntm p.T tmps) (hd : ι.f p.ds = some (ds', 0)) :
    Aft E N ι H w ι (H.put l none) (w.putObj l' (.loop { mkLoop fn' tmps ds' p with state := .exhausted })) := by
  have h1 := loop_write hw hp hl hh ht hd .exhausted p.pend
  have h2 := h1.trans hw (kill_aft h1.wx l)
  refine hw.aft ?_
  have := h2.go
  rw [AH.put_get, AH.put_get, upd_upd, ← AH.put_get] at this
  exact this
theorem obj_alloc (hw : Wx E N ι H w) (hN : H.next < N) (k : Blk) (o : Obj) (hk : BR (updA ι H.next w.heap.size none) k w.heap.size 0 (w.alloc o)) : Aft E N ι H w (updA ι H.next w.heap.size none) (H.new k) (w.alloc o) := by
  refine hw.aft ?_
  rw [AH.new_get]
  exact Go.alloc hw.hr hw.bnd (hw.fresh _ (Nat.le_refl _) hN) k o none hk
/-- A loop begins. -/
theorem enter_ok (hw : Wx E N ι H w) {a : Act} {rd : Option Nat} (hs : Sx ι fi S a) (hrd : RdR ι fi.rd rd) {d : Nat × List Nat × AH} (hd : outer fi S H = some d) (hdN : d.2.2.next < N) (ps : Array Tmp) (as bd : Code) (fn : FuncId) :
    ∃ ι2 lw mark w2, (Instr.enterLoop fn a.tmps ps as bd rd).run E.P w = .ok (lw, mark) w2 ∧ Aft E N ι H w ι2 (d.2.2.new (.loop .ready none fi.fn fi.ntm S.T ps.toList as bd d.1)) w2 ∧ ι2.f d.2.2.next = some (lw, 0) ∧ L2 (DR ι2) d.2.1 (mark ++ a.defers) := by
  rcases oc_some.1 hd with ⟨h0, k1⟩ | ⟨l, h0, k1⟩
  · cases k1
    rw [h0] at hrd
    cases rd with
    | some l' => exact hrd.elim
    | none =>
      have hdN : H.next + 1 < N := hdN
      have a1 := obj_alloc hw (by omega) (.obj (.deferred (some []))) (.deferred (some [])) ⟨rfl, trivial, heap_alloc_new _ _⟩
      have hd1 : (updA ι H.next w.heap.size none).f H.next = some (w.heap.size, 0) := updA_same _ _ _ _
      have a2 := obj_alloc a1.wx hdN (.loop .ready none fi.fn fi.ntm S.T ps.toList as bd H.next) (.loop { state := .ready, pending := none, fn, tmps := a.tmps, params := ps, assign := as, body := bd, defers := w.heap.size }) (by
        have e1 := updA_ext (c := (w.alloc (.deferred (some []))).heap.size) (p := none) (a1.wx.fresh _ (Nat.le_refl _) hdN) a1.wx.hr.fresh
        exact ⟨rfl, a.tmps, w.heap.size, fn, heap_alloc_new _ _, (hs.tr.mono a1.go.ext).mono e1, e1.f _ _ hd1⟩)
      refine ⟨_, _, _, _, run_enterLoop_outer fn a.tmps ps as bd, a1.trans hw a2, ?_, ?_⟩
      · have := updA_same (updA ι H.next w.heap.size none) (H.new (.obj (.deferred (some [])))).next (w.alloc (.deferred (some []))).heap.size none
        rw [this, World.size_alloc]
      · exact .cons ⟨_, a2.go.ext.f _ _ hd1, rfl⟩ (DR.mono (a1.go.ext.trans a2.go.ext) hs.ds)
  · obtain ⟨p, hp, k2⟩ := ob_some.1 k1
    cases k2
    rw [h0] at hrd
    cases rd with
    | none => exact hrd.elim
    | some l' =>
      obtain ⟨tmps, ds', fn', h1, h2, h3⟩ := loop_at hw hp hrd
      have a2 := obj_alloc hw hdN (.loop .ready none fi.fn fi.ntm S.T ps.toList as bd p.ds) (.loop { state := .ready, pending := none, fn, tmps := a.tmps, params := ps, assign := as, body := bd, defers := ds' }) (by
        have e1 := updA_ext (c := w.heap.size) (p := none) (hw.fresh _ (Nat.le_refl _) hdN) hw.hr.fresh
        exact ⟨rfl, a.tmps, ds', fn, heap_alloc_new _ _, hs.tr.mono e1, e1.f _ _ h3⟩)
      refine ⟨_, _, _, _, run_enterLoop_inner h1 fn a.tmps ps as bd, a2, updA_same _ _ _ _, ?_⟩
      exact DR.mono a2.go.ext hs.ds
theorem isEnter_iff {an : AN} (h : isEnter an = true) : ∃ f args, an = .enter f args := by
  cases an with
  | enter f args => exact ⟨f, args, rfl⟩
  | val v => exact nomatch (show false = true from h)
  | round l args => exact nomatch (show false = true from h)
theorem exitX_some {c : Code} {x : X} (h : exitX c = some x) : (∃ id, c = .exit id ∧ x = .exit id) ∨ (c = .ret ∧ x = .ret) := by
  cases c <;> first | exact nomatch (show (none : Option X) = some x from h) | (injection (show some _ = some x from h) with h; subst h; simp)
theorem cRange_ok (hx : HxOk E) (hxn : HxNN E) (ih : RecOk E r) {f : Operand} {ps : Array Tmp} {as bd : Code} (h : cRange f ps as bd E fi S r H = some res) : TkOk E (.code fi (.rangeFunc f ps as bd) S) H res := by
  intro N hN ι w a rd hw hs hrd
  obtain ⟨v, hv, k1⟩ := ob_some.1 h
  obtain ⟨q, hq, k2⟩ := ob_some.1 k1
  obtain ⟨d, hd, k3⟩ := ob_some.1 k2
  obtain ⟨an, han, k4⟩ := ob_some.1 k3
  obtain ⟨k5, k6⟩ := bi_none.1 k4
  obtain ⟨x, hx1, k7⟩ := ob_some.1 k6
  obtain ⟨y, hy, k8⟩ := ob_some.1 k7
  obtain ⟨p, hp, k9⟩ := ob_some.1 k8
  obtain ⟨k10, k11⟩ := bi_not.1 k9
  have := vFn_some hq; subst this
  have := rVal_some hy; subst this
  obtain ⟨an, H3⟩ := an
  obtain ⟨g, args, rfl⟩ := isEnter_iff k5
  obtain ⟨fn', l', m', e, hf1, hf2, hf3⟩ := (opd_ok (hw.cx hs.tr) hv).fn_inv
  have hyN : y.2.next ≤ N := by
    rcases oc_some.1 k11 with ⟨-, k12⟩ | ⟨c, -, k12⟩
    · cases k12; exact hN
    · obtain ⟨xx, -, k13⟩ := ob_some.1 k12
      cases k13; exact hN
  have hH3 : H3.next ≤ y.2.next := ih.nn _ _ _ hx1
  have hH2 : d.2.2.next + 1 ≤ H3.next := callA_nn hxn han
  refine wpIn_rangeFunc fun fn _ => ?_
  obtain ⟨ι2, lw, mark, w2, g1, g2, g3, g4⟩ := enter_ok hw hs hrd hd (by omega) ps as bd fn
  have he2 := g2.go.ext
  have hcall := callA_ok hx g2.wx.cx0 han (FnR.mono he2 hf1) ((hf2.mono he2).append (.cons (.func (.yield _) (.yield lw) #[] #[] #[] #[] (show FnR ι2 (.yield _) (.yield lw) from g3) rfl rfl (fun _ _ _ h _ => nomatch h) (fun _ _ _ h _ => nomatch h)) .nil)) (hf3.mono he2)
  obtain ⟨ι3, w3, g5, args', g6, g7⟩ := hcall (fun b hb hb' => g2.wx.fresh b hb (by omega))
  have a3 := g2.wx.aft g5
  refine ⟨lw, mark, w2, ⟨.fn fn' ⟨m'⟩, ⟨l' ++ [.func (.yield lw) #[] #[]]⟩⟩, w2, g, args', w3, by rw [FF_round]; exact g1, ?_, fun f' _ => FF_fn rd f', g7, fun h => (by rw [FF_depth] at h; exact nomatch h), FF_calls (CallsIn.mono (ih.ok _ _ _ hx1 N hyN ι3 w3 args' a3.wx g6) ?_)⟩
  · have : a.eval f = .func fn' ⟨l'⟩ ⟨m'⟩ := by rw [rho_eval]; exact e
    simp only [resolve, rangeCall, this, Deferred.ofValue, Sem.run_pure]
    congr 1
    simp [Act.eval]
  · rintro e4 w4 ⟨v4, H4, v4', e5, rfl, ι4, a4, hv4⟩
    cases e5
    have a04 := (g2.trans hw a3).trans hw a4
    have hl4 : ι4.f d.2.2.next = some (lw, 0) := a4.go.ext.f _ _ (a3.go.ext.f _ _ g3)
    obtain ⟨tmps, ds', fn4, q1, q2, q3⟩ := loop_at a4.wx hp hl4
    have a5 := a04.trans hw (loop_end a4.wx hp hl4 q1 q2 q3)
    have hnb : (mkLoop fn4 tmps ds' p).state ≠ .busy := by
      show p.st ≠ .busy
      intro e; rw [e] at k10; exact nomatch (show true = false from k10)
    have hsx : Sx ι4 fi ⟨S.T, d.2.1⟩ { a with defers := mark ++ a.defers } := ⟨hs.tr.mono a04.go.ext, DR.mono (a3.go.ext.trans a4.go.ext) g4⟩
    refine ⟨p.pend, _, run_endLoop q1 hnb, ?_⟩
    rcases oc_some.1 k11 with ⟨h0, k12⟩ | ⟨c, h0, k12⟩
    · cases k12
      rw [h0]
      exact ⟨.normal, _, _, rfl, rfl, ι4, a5, hsx⟩
    · obtain ⟨xx, hxx, k13⟩ := ob_some.1 k12
      cases k13
      rw [h0]
      rcases exitX_some hxx with ⟨id, rfl, rfl⟩ | ⟨rfl, rfl⟩
      · exact wpIn_exit ⟨.exit id, _, _, rfl, rfl, ι4, a5, hsx⟩
      · exact wpIn_ret ⟨.ret, _, _, rfl, rfl, ι4, a5, hsx⟩
end
end Go.Proofs.YthikcbbfnicnlaaGreatDoor.Ev
namespace Go.Proofs.YthikcbbfnicnlaaGreatDoor.Ev
open Go
set_option linter.unusedVariables false
set_option linter.unusedSimpArgs false
section
variable {E : En} {r : Rec} {fi : Fi} {S : St} {H : AH} {res : Res} {N : Nat} {ι : Ren} {w : World}
theorem noCalls_iff {o : Obj} (h : noCalls o = true) : o = .deferred (some []) := by
  cases o with
  | deferred cs =>
    cases cs with
    | none => exact nomatch (show false = true from h)
    | some l =>
      cases l with
      | nil => rfl
      | cons a l => exact nomatch (show false = true from h)
  | _ => exact nomatch (show false = true from h)
theorem dropDs_nn : ∀ {ds : List Nat} {H H' : AH}, dropDs ds H = some H' → H'.next = H.next
  | [], H, H', h => by cases (show some H = some H' from h); rfl
  | d :: ds, H, H', h => by
    obtain ⟨o, -, k1⟩ := ob_some.1 (show ob (H.obj d) (fun o => bi (noCalls o) (dropDs ds (H.put d none)) none) = some H' from h)
    exact (dropDs_nn (bi_none.1 k1).2 : H'.next = (H.put d none).next)
theorem leaves_ok {F : Fence} {n : Nat} {fn : Func} {tmps : Array Value} {R : Ending → World → Prop} {ds : List Nat} {dfs : List Deferred} (h : L2 (DR ι) ds dfs) : ∀ {ι1 : Ren} {H H' : AH} {w : World}, Wx E N ι1 H w → Ext ι ι1 → dropDs ds H = some H' →
    (∀ ι2 w2, Aft E N ι1 H w ι2 H' w2 → LeavesIn F n E.P fn tmps R [] .returning w2) → LeavesInM F n E.P fn tmps R dfs .returning w := by
  induction h with
  | nil =>
    intro ι1 H H' w hw he hd hk
    cases (show some H = some H' from hd)
    exact hk _ _ (Aft.refl hw)
  | cons hx hr ih =>
    rename_i d df ds dfs
    intro ι1 H H' w hw he hd hk
    obtain ⟨o, ho, k1⟩ := ob_some.1 (show ob (H.obj d) (fun o => bi (noCalls o) (dropDs ds (H.put d none)) none) = some H' from hd)
    obtain ⟨k2, k3⟩ := bi_none.1 k1
    have := noCalls_iff k2
    subst this
    obtain ⟨d', hd', rfl⟩ := hx
    have hd1 := he.f _ _ hd'
    have hb := AH.obj_some ho
    obtain ⟨c, e, h1, h2, -, h3⟩ := hw.hr.blk _ _ hb
    rw [hd1] at h1
    cases h1
    have hlt : d' < w.heap.size := (Array.getElem?_eq_some_iff.1 h3).1
    have a1 : Aft E N ι1 H w ι1 (H.put d (some (.obj (.deferred none)))) (w.putObj d' (.deferred none)) := by
      refine hw.aft ?_
      rw [AH.put_get]
      exact Go.write hw.hr hw.bnd hb rfl hd1 wr_putObj ⟨rfl, trivial, World.putObj_heap_same hlt⟩
    have a2 : Aft E N ι1 H w ι1 (H.put d none) (w.putObj d' (.deferred none)) := by
      have := (a1.trans hw (kill_aft a1.wx d)).go
      rw [AH.put_get, AH.put_get, upd_upd, ← AH.put_get] at this
      exact hw.aft this
    refine ⟨nofun, .inl ⟨d', _, rfl, run_takeDeferred h3, ih a2.wx he k3 fun ι2 w2 a3 => hk ι2 w2 (a2.trans hw a3)⟩⟩
noncomputable def rv (l : List Value) : Value := bi (Nat.beq (lenL l) 1) (orUndef (getL l 0)) (.tuple ⟨l⟩)
theorem rv_VR {l l' : List Value} (h : VRs ι l l') : VR ι (resV l) (rv l') := by
  unfold resV rv
  cases h with
  | nil => exact VR.tupL .nil
  | cons h1 h2 =>
    cases h2 with
    | nil => exact h1
    | cons h3 h4 => exact VR.tupL (.cons h1 (.cons h3 h4))
theorem resA_ok (hw : Wx E N ι H w) {ntm : Nat} {T : Tr Value} {tmps : Array Value} (ht : TR ι ntm T tmps) : ∀ {rs : List ResultVar} {l : List Value}, resOf E.P H T rs = some l → ∃ l', VRs ι l l' ∧ (rs.mapM fun | .tmp t => pure (tmps.getD t undef) | .cell a t => do loadVar t (← asAddr (tmps.getD a undef)) : Sem (List Value)).run E.P w = .ok l' w
  | [], l, h => by
    cases (show some [] = some l from h)
    exact ⟨[], .nil, by simp [Sem.run_pure]⟩
  | x :: rs, l, h => by
    obtain ⟨v, hv, k1⟩ := ob_some.1 (show ob (resA x E.P H T) (fun v => ob (resOf E.P H T rs) fun t => some (v :: t)) = some l from h)
    obtain ⟨t, ht2, k2⟩ := ob_some.1 k1
    cases k2
    obtain ⟨t', h1, h2⟩ := resA_ok hw ht ht2
    cases x with
    | tmp i =>
      cases (show some (orUndef (T.get i)) = some v from hv)
      exact ⟨tmps.getD i undef :: t', .cons (ht.2 i) h1, by simp only [List.mapM_cons, Sem.run_bind, Sem.run_pure, Result.andThen_ok, h2]⟩
    | cell a ty =>
      obtain ⟨u, hu, k3⟩ := ob_some.1 (show ob (T.get a) (fun v => ob (vPtr v) fun ad => loadA E.P H ty ad) = some v from hv)
      obtain ⟨ad, had, k4⟩ := ob_some.1 k3
      have := vPtr_some had; subst this
      have hr := ht.2 a
      rw [hu] at hr
      obtain ⟨a', v', e, h3, h4⟩ := loadA_ok hw.hr k4 (show VR ι (.pointer (some ad)) (tmps.getD a undef) from hr)
      have ha : (asAddr (tmps.getD a undef)).run E.P w = .ok a' w := by rw [e]; rfl
      exact ⟨v' :: t', .cons h3 h1, by simp only [List.mapM_cons, Sem.run_bind, Sem.run_pure, Result.andThen_ok, ha, h4, h2]⟩
theorem results_ok (hw : Wx E N ι H w) {fd : Func} {ntm : Nat} {T : Tr Value} {tmps : Array Value} (ht : TR ι ntm T tmps) {l : List Value} (h : resOf E.P H T fd.results.toList = some l) : ∃ v', VR ι (resV l) v' ∧ (results fd tmps).run E.P w = .ok v' w := by
  obtain ⟨l', h1, h2⟩ := resA_ok hw ht h
  refine ⟨rv l', rv_VR h1, ?_⟩
  unfold results
  have e : (fd.results.mapM fun | .tmp t => pure (tmps.getD t undef) | .cell a t => do loadVar t (← asAddr (tmps.getD a undef)) : Sem (Array Value)).run E.P w = .ok ⟨l'⟩ w := by
    rw [show fd.results = ⟨fd.results.toList⟩ from rfl, List.mapM_toArray, Sem.run_map, h2]
    rfl
  simp only [Sem.run_bind]
  refine (congrArg (fun x => Result.andThen x _) e).trans ?_
  simp only [Result.andThen_ok, Sem.run_pure]
  congr 1
  match l' with
  | [] => rfl
  | [x] => rfl
  | x :: y :: m =>
    have h0 : ¬ (⟨x :: y :: m⟩ : Array Value).size = 1 := by simp
    rw [dif_neg h0]
    rfl
theorem enterD_ok (he : HeOk E) (ih : RecOk E r) {f : FuncId} {args : List Value} (h : enterD E f args r H = some res) : TkOk E (.call (.enter f args)) H res := by
  intro N hN ι w args' hw hargs
  rcases oc_some.1 h with ⟨h0, k1⟩ | ⟨pp, h0, k1⟩
  · obtain ⟨fd, hf, k2⟩ := ob_some.1 k1
    obtain ⟨c, hc, k3⟩ := ob_some.1 k2
    obtain ⟨k4, k5⟩ := bi_none.1 k3
    obtain ⟨x, hx1, k6⟩ := ob_some.1 k5
    obtain ⟨p, hp, k7⟩ := ob_some.1 k6
    obtain ⟨k8, k9⟩ := bi_not.1 k7
    obtain ⟨H2, hH2, k10⟩ := ob_some.1 k9
    obtain ⟨l, hl, k11⟩ := ob_some.1 k10
    cases k11
    have hp := rCd_some hp
    have hxN : x.nx ≤ N := by
      rw [hp]
      have e := dropDs_nn hH2
      have hN : H2.next ≤ N := hN
      show p.2.2.next ≤ N
      omega
    have k4 := ble_iff.1 k4
    rw [lenL_eq, hargs.length] at k4
    have hsx : Sx ι ⟨f, fd.ntmps, none⟩ ⟨Tr.ofList args, []⟩ { tmps := args' ++ Array.replicate (fd.ntmps - args'.size) undef, defers := [] } := by
      have hsz : args'.toList.length = args'.size := by simp
      refine ⟨⟨by simp; omega, fun i => ?_⟩, .nil⟩
      show VR ι (orUndef ((Tr.ofList args).get i)) _
      rw [Tr.get_ofList]
      cases hi : args[i]? with
      | some v =>
        obtain ⟨y, hy, hr⟩ := hargs.get hi
        rw [Array.getElem?_toList] at hy
        have hlt := (Array.getElem?_eq_some_iff.1 hy).1
        have : (args' ++ Array.replicate (fd.ntmps - args'.size) undef).getD i undef = y := by
          rw [Array.getD_eq_getD_getElem?, Array.getElem?_append_left hlt, hy]; rfl
        show VR ι v ((args' ++ Array.replicate (fd.ntmps - args'.size) undef).getD i undef)
        rw [this]; exact hr
      | none =>
        have hge := List.getElem?_eq_none_iff.1 hi
        have : (args' ++ Array.replicate (fd.ntmps - args'.size) undef).getD i undef = undef := by
          rw [Array.getD_eq_getD_getElem?, Array.getElem?_append_right (by rw [hargs.length] at hge; omega), Array.getElem?_replicate]
          split <;> rfl
        show VR ι undef ((args' ++ Array.replicate (fd.ntmps - args'.size) undef).getD i undef)
        rw [this]; exact VR.undef ι
    refine callsIn_of_wp_marks hf hc trivial (wpIn_mono (ih.ok _ _ _ hx1 N hxN ι w _ none hw hsx trivial) ?_)
    rintro e a1 w1 ⟨y, S1, H1, e1, e2, ι1, a01, hs1⟩
    rw [hp] at e1
    cases e1
    subst e2
    have key : LeavesInM Fence.wide 0 E.P fd a1.tmps (CallQ E N ι H w (.val (resV l) H2)) a1.defers .returning w1 := by
      refine leaves_ok hs1.ds a01.wx (Ext.refl _) hH2 fun ι2 w2 a12 => ?_
      obtain ⟨v', hv', hrun⟩ := results_ok a12.wx (hs1.tr.mono a12.go.ext) hl
      exact ⟨v', hrun, _, _, _, rfl, rfl, ι2, a01.trans hw a12, hv'⟩
    obtain ⟨y, S1, H1⟩ := p
    cases y with
    | normal => exact key
    | ret => exact key
    | exit id => exact nomatch (show true = false from k8)
  · obtain ⟨hk, h1, hp⟩ := ob_some.1 h0
    cases k1
    exact he f hk h1 N ι H w args args' pp.1 pp.2 hN hw hargs hp
theorem setParams_ok {ntm : Nat} : ∀ {ps : List Tmp} {vs : List Value} {T T1 : Tr Value}, setParams ntm ps vs T = some T1 → ps.length = vs.length ∧ ∀ {ι : Ren} {vs' : List Value} {tmps : Array Value}, VRs ι vs vs' → TR ι ntm T tmps → TR ι ntm T1 ((ps.zip vs').foldl (fun tmps (x : Tmp × Value) => tmps.setIfInBounds x.1 x.2) tmps)
  | [], vs, T, T1, h => by
    cases vs with
    | nil =>
      cases (show some T = some T1 from h)
      exact ⟨rfl, fun hv ht => by cases hv; exact ht⟩
    | cons v vs => exact nomatch (show (none : Option (Tr Value)) = some T1 from h)
  | p :: ps, vs, T, T1, h => by
    cases vs with
    | nil => exact nomatch (show (none : Option (Tr Value)) = some T1 from h)
    | cons v vs =>
      obtain ⟨T', hT', k1⟩ := ob_some.1 (show ob (setT ntm T (some p) v) (fun T' => setParams ntm ps vs T') = some T1 from h)
      obtain ⟨h1, h2⟩ := setParams_ok k1
      refine ⟨by simp [h1], fun {ι vs' tmps} hv ht => ?_⟩
      cases hv with
      | cons hx hr =>
        have := (put_ok (S := ⟨T, []⟩) (fi := ⟨0, ntm, none⟩) (a := ⟨tmps, []⟩) ⟨ht, .nil⟩ hT' hx).tr
        exact h2 hr this
theorem roundD_ok (ih : RecOk E r) {l : Nat} {args : List Value} (h : roundD l args r H = some res) : TkOk E (.call (.round l args)) H res := by
  intro N hN ι w l' args' hw hl hargs
  obtain ⟨p, hp, k1⟩ := ob_some.1 h
  obtain ⟨T1, hT1, k2⟩ := ob_some.1 k1
  obtain ⟨x, hx1, k3⟩ := ob_some.1 k2
  obtain ⟨q, hq, k4⟩ := ob_some.1 k3
  obtain ⟨k5, k6⟩ := bi_none.1 k4
  obtain ⟨p1, hp1, k7⟩ := ob_some.1 k6
  obtain ⟨k8, k9⟩ := bi_none.1 k7
  obtain ⟨x2, hx2, k10⟩ := ob_some.1 k9
  obtain ⟨q2, hq2, k11⟩ := ob_some.1 k10
  have hq := rCd_some hq
  have hq2 := rCd_some hq2
  have hend : roundEnd l q2.1 q2.2.2 = some res := by
    cases hS : q2.2.1.ds with
    | nil => rw [hS] at k11; exact k11
    | cons d ds => rw [hS] at k11; cases k11
  have hN2 : x2.nx ≤ N := by
    rw [hq2]
    obtain ⟨p3, -, k12⟩ := ob_some.1 hend
    cases k12
    exact hN
  have hN1 : x.nx ≤ N := by
    have := ih.nn _ _ _ hx2
    rw [hq]
    exact Nat.le_trans this hN2
  obtain ⟨tmps, ds', fn', h1, h2, h3⟩ := loop_at hw hp hl
  obtain ⟨hlen, hset⟩ := setParams_ok hT1
  refine ⟨_, _, _, _, run_yield h1 (by
    show args'.size = (mkLoop fn' tmps ds' p).params.size
    have : args'.toList.length = args'.size := by simp
    rw [← this, ← hargs.length, ← hlen]; rfl), roundIn_of_wpIn trivial ?_⟩
  have hs0 : Sx ι ⟨p.fn, p.ntm, some l⟩ ⟨T1, []⟩ { tmps := ((mkLoop fn' tmps ds' p).params.zip args').foldl (fun tmps (x : Tmp × Value) => tmps.setIfInBounds x.1 x.2) (mkLoop fn' tmps ds' p).tmps, defers := [] } := by
    refine ⟨?_, .nil⟩
    have := hset hargs h2
    have e : ((mkLoop fn' tmps ds' p).params.zip args').foldl (fun tmps (x : Tmp × Value) => tmps.setIfInBounds x.1 x.2) (mkLoop fn' tmps ds' p).tmps = (p.ps.zip args'.toList).foldl (fun tmps (x : Tmp × Value) => tmps.setIfInBounds x.1 x.2) tmps := by
      rw [← Array.foldl_toList, Array.toList_zip]
      rfl
    show TR ι p.ntm T1 _
    rw [e]
    exact this
  have hasg := ih.ok _ _ _ hx1 N hN1 ι w _ (some l') hw hs0 hl
  refine wpIn_mono hasg ?_
  rintro e a1 w1 ⟨y, S1, H1, e1, rfl, ι1, a01, hs1⟩
  rw [hq] at e1
  cases e1
  obtain ⟨y, S1, H1⟩ := q
  cases y with
  | exit id => exact nomatch (show false = true from k5)
  | ret => exact nomatch (show false = true from k5)
  | normal =>
    have hl1 := a01.go.ext.f _ _ hl
    obtain ⟨tmps1, ds1, fn1, g1, g2, g3⟩ := loop_at a01.wx hp1 hl1
    have hready : (mkLoop fn1 tmps1 ds1 p1).state = .ready := by
      show p1.st = .ready
      cases hst : p1.st <;> rw [hst] at k8 <;> first | rfl | exact nomatch (show false = true from k8)
    have a2 := loop_write a01.wx hp1 hl1 g1 g2 g3 .busy p1.pend
    refine ⟨_, run_beginRound g1 hready, ?_⟩
    have hbody := ih.ok _ _ _ hx2 N hN2 ι1 _ a1 (some l') a2.wx hs1 hl1
    refine wpIn_mono hbody ?_
    rintro e a3 w3 ⟨y, S3, H3, e3, rfl, ι3, a23, hs3⟩
    rw [hq2] at e3
    cases e3
    obtain ⟨y, S3, H3⟩ := q2
    have a03 := (a01.trans hw a2).trans hw a23
    have hl3 := a03.go.ext.f _ _ hl
    have fin : roundEnd l y H3 = some res → ∃ v w', (Instr.endRound l' (exitOf y)).run E.P w3 = .ok v w' ∧ CallQ E N ι H w res (.returned v) w' := by
      intro hend
      obtain ⟨p3, hp3, k12⟩ := ob_some.1 hend
      cases k12
      obtain ⟨tmps3, ds3, fn3, q1, q2, q3⟩ := loop_at a03.wx hp3 hl3
      refine ⟨_, _, run_endRound (exitOf y) q1, _, _, _, rfl, rfl, ι3, ?_, ?_⟩
      · have := a03.trans hw (loop_write a03.wx hp3 hl3 q1 q2 q3 (bi (isNormal y) .ready .done) (exitOf y))
        cases y <;> exact this
      · cases y <;> exact .bool _
    have hk : roundEnd l y H3 = some res := by
      cases hS : S3.ds with
      | nil => rw [show (ls S3.ds (roundEnd l y H3) fun _ _ => none) = roundEnd l y H3 by rw [hS]; rfl] at k11; exact k11
      | cons d ds => rw [show (ls S3.ds (roundEnd l y H3) fun _ _ => none) = none by rw [hS]; rfl] at k11; cases k11
    have := fin hk
    cases y <;> exact this
/-- What the evaluator is told: numbers grow. -/
def HeNN (E : En) : Prop := ∀ f h, E.he f = some h → ∀ args H v H', h args H = some (v, H') → H.next ≤ H'.next
theorem thenD_nn (ih : RecOk E r) {x : Option Res} {tk : St → Tk} {n : Nat} (hx : ∀ y, x = some y → n ≤ y.nx) (h : thenD r x tk = some res) : n ≤ res.nx := by
  obtain ⟨y, hy, k1⟩ := ob_some.1 h
  obtain ⟨p, hp, k2⟩ := ob_some.1 k1
  exact Nat.le_trans (hx y hy) (then_nn ih hp k2)
theorem outer_nn {d : Nat × List Nat × AH} (hd : outer fi S H = some d) : H.next ≤ d.2.2.next := by
  rcases oc_some.1 hd with ⟨-, k1⟩ | ⟨l, -, k1⟩
  · cases k1; exact Nat.le_succ _
  · obtain ⟨p, -, k2⟩ := ob_some.1 k1
    cases k2; exact Nat.le_refl _
theorem cRange_nn (hxn : HxNN E) (ih : RecOk E r) {f : Operand} {ps : Array Tmp} {as bd : Code} (h : cRange f ps as bd E fi S r H = some res) : H.next ≤ res.nx := by
  obtain ⟨v, hv, k1⟩ := ob_some.1 h
  obtain ⟨q, hq, k2⟩ := ob_some.1 k1
  obtain ⟨d, hd, k3⟩ := ob_some.1 k2
  obtain ⟨an, han, k4⟩ := ob_some.1 k3
  obtain ⟨-, k6⟩ := bi_none.1 k4
  obtain ⟨x, hx1, k7⟩ := ob_some.1 k6
  obtain ⟨y, hy, k8⟩ := ob_some.1 k7
  obtain ⟨p, hp, k9⟩ := ob_some.1 k8
  obtain ⟨-, k11⟩ := bi_not.1 k9
  have h1 := outer_nn hd
  have h2 : d.2.2.next + 1 ≤ an.2.next := callA_nn hxn (show callA q.1 E _ _ q.2.2 = some (an.1, an.2) from han)
  have h3 := ih.nn _ _ _ hx1
  rw [rVal_some hy] at h3
  have h3 : an.2.next ≤ y.2.next := h3
  have h4 : y.2.next ≤ res.nx := by
    rcases oc_some.1 k11 with ⟨-, k12⟩ | ⟨c, -, k12⟩
    · cases k12; exact Nat.le_refl _
    · obtain ⟨xx, -, k13⟩ := ob_some.1 k12
      cases k13; exact Nat.le_refl _
  omega
theorem opsVal_nn (ih : RecOk E r) {all l : List Oper} {ds : List Nat} {x : Option (Tr Value)} (h : opsVal fi all l ds r H x = some res) : H.next ≤ res.nx := by
  obtain ⟨T', -, k⟩ := ob_some.1 h
  exact ih.nn _ _ _ k
theorem opsRes_nn (hxn : HxNN E) (ih : RecOk E r) {all l : List Oper} {d : Option Tmp} {op : Op} {ty : TypeId} {T : Tr Value} (h : opsRes fi all l S d r (aop op E ty T H) = some res) : H.next ≤ res.nx := by
  obtain ⟨q, hq, k1⟩ := ob_some.1 h
  have h1 := aop_nn hxn (show aop op E ty T H = some (q.1, q.2) from hq)
  rcases oc_some.1 k1 with ⟨-, k2⟩ | ⟨v, -, k2⟩
  · obtain ⟨x, hx1, k3⟩ := ob_some.1 k2
    obtain ⟨y, hy, k4⟩ := ob_some.1 k3
    have h2 := ih.nn _ _ _ hx1
    rw [rVal_some hy] at h2
    have h2 : q.2.next ≤ y.2.next := h2
    have := opsVal_nn ih k4
    omega
  · have := opsVal_nn ih k2
    omega
end
end Go.Proofs.YthikcbbfnicnlaaGreatDoor.Ev
namespace Go.Proofs.YthikcbbfnicnlaaGreatDoor.Ev
open Go
set_option linter.unusedVariables false
set_option linter.unusedSimpArgs false
/-- Two frames agree at a set of slots. -/
def Ag (m : Nat) (T T' : Tr Value) : Prop := ∀ t, m.testBit t = true → T.get t = T'.get t
theorem lor_bit (a b t : Nat) : (Nat.lor a b).testBit t = (a.testBit t || b.testBit t) := Nat.testBit_or a b t
theorem Ag.l {a b : Nat} {T T' : Tr Value} (h : Ag (Nat.lor a b) T T') : Ag a T T' := fun t ht => h t (by rw [lor_bit, ht]; rfl)
theorem Ag.r {a b : Nat} {T T' : Tr Value} (h : Ag (Nat.lor a b) T T') : Ag b T T' := fun t ht => h t (by rw [lor_bit, ht, Bool.or_true])
theorem bit_eq (n : Nat) : bit n = 2 ^ n := by
  show Nat.shiftLeft 1 n = _
  exact (Nat.one_shiftLeft n)
theorem bit_self (n : Nat) : (bit n).testBit n = true := by rw [bit_eq]; exact Nat.testBit_two_pow_self
theorem opd_cg {x : Operand} {T T' : Tr Value} {g : Nat} (h : Ag (tmB x) T T') : opd x g T = opd x g T' := by
  cases x with
  | tmp t =>
    show some (orUndef (T.get t)) = some (orUndef (T'.get t))
    rw [h t (bit_self t)]
  | _ => rfl
theorem opds_cg {T T' : Tr Value} {g : Nat} : ∀ {l : List Operand}, Ag (tmL l) T T' → opds g T l = opds g T' l
  | [], _ => rfl
  | x :: r, h => by
    have h : Ag (Nat.lor (tmB x) (tmL r)) T T' := h
    show ob (opd x g T) (fun v => ob (opds g T r) fun t => some (v :: t)) = ob (opd x g T') (fun v => ob (opds g T' r) fun t => some (v :: t))
    rw [opd_cg h.l, opds_cg h.r]
theorem opdsP_cg {T T' : Tr Value} {g : Nat} : ∀ {l : List (Nat × Operand)}, Ag (tmP l) T T' → opdsP g T l = opdsP g T' l
  | [], _ => rfl
  | x :: r, h => by
    have h : Ag (Nat.lor (tmB x.2) (tmP r)) T T' := h
    show ob (ob (opd x.2 g T) fun v => some (x.1, v)) (fun v => ob (opdsP g T r) fun t => some (v :: t)) = ob (ob (opd x.2 g T') fun v => some (x.1, v)) (fun v => ob (opdsP g T' r) fun t => some (v :: t))
    rw [opd_cg h.l, opdsP_cg h.r]
theorem opdO_cg {x : Option Operand} {T T' : Tr Value} {g : Nat} (h : Ag (tmO x) T T') : opdO g T x = opdO g T' x := by
  cases x with
  | none => rfl
  | some x =>
    show ob (opd x g T) (fun v => some (some v)) = ob (opd x g T') (fun v => some (some v))
    rw [opd_cg (show Ag (tmB x) T T' from h)]
theorem aop_cg {E : En} {op : Op} {ty : TypeId} {T T' : Tr Value} {H : AH} (h : Ag (rdM op) T T') : aop op E ty T H = aop op E ty T' H := by
  cases op
  case move x => show val H (opd x E.g T) = val H (opd x E.g T'); rw [opd_cg h]
  case assign x => show val H (opd x E.g T) = val H (opd x E.g T'); rw [opd_cg h]
  case pick c a b =>
    have h : Ag (Nat.lor (tmB c) (Nat.lor (tmB a) (tmB b))) T T' := h
    show aPick c a b E ty T H = aPick c a b E ty T' H
    have hb : ∀ t : Bool, opd (bi t a b) E.g T = opd (bi t a b) E.g T' := fun t => by cases t <;> exact opd_cg (by first | exact h.r.r | exact h.r.l)
    simp only [aPick, opd_cg h.l, hb]
  case box e x => show aBox e x E ty T H = aBox e x E ty T' H; simp only [aBox, opd_cg (show Ag (tmB x) T T' from h)]
  case build t ps => show aBuild t ps E ty T H = aBuild t ps E ty T' H; simp only [aBuild, opdsP_cg (show Ag (tmP ps.toList) T T' from h)]
  case buildSlice t n ps => show aBuildSlice t n ps E ty T H = aBuildSlice t n ps E ty T' H; simp only [aBuildSlice, opdsP_cg (show Ag (tmP ps.toList) T T' from h)]
  case load t a => show aLoad t a E ty T H = aLoad t a E ty T' H; simp only [aLoad, opd_cg (show Ag (tmB a) T T' from h)]
  case store t a x =>
    have h : Ag (Nat.lor (tmB a) (tmB x)) T T' := h
    show aStore t a x E ty T H = aStore t a x E ty T' H; simp only [aStore, opd_cg h.l, opd_cg h.r]
  case nilCheck x => show aNilCheck x E ty T H = aNilCheck x E ty T' H; simp only [aNilCheck, opd_cg (show Ag (tmB x) T T' from h)]
  case sliceToArrayPointer d x => show aS2A d x E ty T H = aS2A d x E ty T' H; simp only [aS2A, opd_cg (show Ag (tmB x) T T' from h)]
  case binOp op t x y yt =>
    have h : Ag (Nat.lor (tmB x) (tmB y)) T T' := h
    show aBin op t x y E ty T H = aBin op t x y E ty T' H; simp only [aBin, opd_cg h.l, opd_cg h.r]
  case unOp op t x => show aUn op x E ty T H = aUn op x E ty T' H; simp only [aUn, opd_cg (show Ag (tmB x) T T' from h)]
  case convert s d x => show aConvert s d x E ty T H = aConvert s d x E ty T' H; simp only [aConvert, opd_cg (show Ag (tmB x) T T' from h)]
  case makeInterface t x => show aMakeInterface t x E ty T H = aMakeInterface t x E ty T' H; simp only [aMakeInterface, opd_cg (show Ag (tmB x) T T' from h)]
  case makeFunc fn a b =>
    have h : Ag (Nat.lor (tmL a.toList) (tmL b.toList)) T T' := h
    show aMakeFunc fn a b E ty T H = aMakeFunc fn a b E ty T' H; simp only [aMakeFunc, opds_cg h.l, opds_cg h.r]
  case makeSlice t l c =>
    have h : Ag (Nat.lor (tmB l) (tmB c)) T T' := h
    show aMakeSlice t l c E ty T H = aMakeSlice t l c E ty T' H; simp only [aMakeSlice, opd_cg h.l, opd_cg h.r]
  case slice t x lo hi mx =>
    have h : Ag (Nat.lor (tmB x) (Nat.lor (tmO lo) (Nat.lor (tmO hi) (tmO mx)))) T T' := h
    show aSlice t x lo hi mx E ty T H = aSlice t x lo hi mx E ty T' H; simp only [aSlice, opd_cg h.l, opdO_cg h.r.l, opdO_cg h.r.r.l, opdO_cg h.r.r.r]
  case fieldAddr s x f => show aFieldAddr s x f E ty T H = aFieldAddr s x f E ty T' H; simp only [aFieldAddr, opd_cg (show Ag (tmB x) T T' from h)]
  case field t x f => show aField t x f E ty T H = aField t x f E ty T' H; simp only [aField, opd_cg (show Ag (tmB x) T T' from h)]
  case indexAddr t x ix =>
    have h : Ag (Nat.lor (tmB x) (tmB ix)) T T' := h
    show aIndexAddr t x ix E ty T H = aIndexAddr t x ix E ty T' H; simp only [aIndexAddr, opd_cg h.l, opd_cg h.r]
  case index t x ix =>
    have h : Ag (Nat.lor (tmB x) (tmB ix)) T T' := h
    show aIndex t x ix E ty T H = aIndex t x ix E ty T' H; simp only [aIndex, opd_cg h.l, opd_cg h.r]
  case lookup t x ix c =>
    have h : Ag (Nat.lor (tmB x) (tmB ix)) T T' := h
    show aLook t x ix c E ty T H = aLook t x ix c E ty T' H; simp only [aLook, aLookup, aLookupS, opd_cg h.l, opd_cg h.r]
  case mapUpdate t m k v =>
    have h : Ag (Nat.lor (tmB m) (Nat.lor (tmB k) (tmB v))) T T' := h
    show aMapUpd t m k v E ty T H = aMapUpd t m k v E ty T' H; simp only [aMapUpd, aMapUpdate, aMapUpdS, opd_cg h.l, opd_cg h.r.l, opd_cg h.r.r]
  case insert t m k v =>
    have h : Ag (Nat.lor (tmB m) (Nat.lor (tmB k) (tmB v))) T T' := h
    show aMapUpd t m k v E ty T H = aMapUpd t m k v E ty T' H; simp only [aMapUpd, aMapUpdate, aMapUpdS, opd_cg h.l, opd_cg h.r.l, opd_cg h.r.r]
  case range t x => show aRange t x E ty T H = aRange t x E ty T' H; simp only [aRange, opd_cg (show Ag (tmB x) T T' from h)]
  case next it s => show aNext it s E ty T H = aNext it s E ty T' H; simp only [aNext, opd_cg (show Ag (tmB it) T T' from h)]
  case extract t i => show aExtract t i E ty T H = aExtract t i E ty T' H; simp only [aExtract, opd_cg (show Ag (tmB t) T T' from h)]
  case call c =>
    have h : Ag (Nat.lor (calleeM c.callee) (tmL c.args.toList)) T T' := h
    have ha := opds_cg (g := E.g) h.r
    obtain ⟨callee, cargs, ctypes⟩ := c
    show ob (opds E.g T cargs.toList) (fun args => calleeA callee E ty T ctypes.toList args H) = ob (opds E.g T' cargs.toList) (fun args => calleeA callee E ty T' ctypes.toList args H)
    rw [ha]
    congr 1
    funext args
    cases callee with
    | value f =>
      show ob (opd f E.g T) (fun v => ob (vFn v) fun q => callA q.1 E H (q.2.1 ++ args) q.2.2) = ob (opd f E.g T') (fun v => ob (vFn v) fun q => callA q.1 E H (q.2.1 ++ args) q.2.2)
      rw [opd_cg (show Ag (tmB f) T T' from h.l)]
    | invoke r m =>
      show ob (opd r E.g T) (fun v => invokeA E H m v args) = ob (opd r E.g T') (fun v => invokeA E H m v args)
      rw [opd_cg (show Ag (tmB r) T T' from h.l)]
    | builtin b => rfl
  all_goals rfl
end Go.Proofs.YthikcbbfnicnlaaGreatDoor.Ev
namespace Go.Proofs.YthikcbbfnicnlaaGreatDoor.Ev
open Go
set_option linter.unusedVariables false
set_option linter.unusedSimpArgs false
section
variable {E : En} {op : Op} {ty : TypeId} {T : Tr Value} {H H' : AH} {an : AN}
def PureOk (op : Op) (E : En) (ty : TypeId) (T : Tr Value) (H : AH) (an : AN) (H' : AH) : Prop := ∃ v, an = .val v ∧ H' = H ∧ ∀ H2, aop op E ty T H2 = some (.val v, H2)
theorem pure_val {x : Option Value} (f : ∀ H2, aop op E ty T H2 = val H2 x) (h : aop op E ty T H = some (an, H')) : PureOk op E ty T H an H' := by
  rw [f] at h
  obtain ⟨v, hv, rfl, rfl⟩ := val_some h
  exact ⟨v, rfl, rfl, fun H2 => by rw [f, hv]; rfl⟩
theorem pure_ok (hc : clsM op E.P = 0) (h : aop op E ty T H = some (an, H')) : PureOk op E ty T H an H' := by
  cases op
  case move x => exact pure_val (fun _ => rfl) h
  case assign x => exact pure_val (fun _ => rfl) h
  case pick c a b =>
    obtain ⟨v, h1, k⟩ := ob_some.1 (show aPick c a b E ty T H = some (an, H') from h)
    obtain ⟨t, h2, k⟩ := ob_some.1 k
    obtain ⟨u, h3, rfl, rfl⟩ := val_some k
    exact ⟨u, rfl, rfl, fun H2 => by show aPick c a b E ty T H2 = _; simp only [aPick, h1, h2, h3, ob_val, val]⟩
  case build t ps =>
    obtain ⟨v, h1, k⟩ := ob_some.1 (show aBuild t ps E ty T H = some (an, H') from h)
    obtain ⟨u, h3, rfl, rfl⟩ := val_some k
    exact ⟨u, rfl, rfl, fun H2 => by show aBuild t ps E ty T H2 = _; simp only [aBuild, h1, h3, ob_val, val]⟩
  case nilCheck x =>
    obtain ⟨v, h1, k⟩ := ob_some.1 (show aNilCheck x E ty T H = some (an, H') from h)
    obtain ⟨u, h3, rfl, rfl⟩ := val_some k
    exact ⟨u, rfl, rfl, fun H2 => by show aNilCheck x E ty T H2 = _; simp only [aNilCheck, h1, h3, ob_val, val]⟩
  case sliceToArrayPointer d x =>
    obtain ⟨v, h1, k⟩ := ob_some.1 (show aS2A d x E ty T H = some (an, H') from h)
    obtain ⟨u, h3, rfl, rfl⟩ := val_some k
    exact ⟨u, rfl, rfl, fun H2 => by show aS2A d x E ty T H2 = _; simp only [aS2A, h1, h3, ob_val, val]⟩
  case binOp o t x y yt =>
    obtain ⟨a, h1, k⟩ := ob_some.1 (show aBin o t x y E ty T H = some (an, H') from h)
    obtain ⟨b, h2, k⟩ := ob_some.1 k
    obtain ⟨u, h3, rfl, rfl⟩ := val_some k
    exact ⟨u, rfl, rfl, fun H2 => by show aBin o t x y E ty T H2 = _; simp only [aBin, h1, h2, h3, ob_val, val]⟩
  case unOp o t x =>
    obtain ⟨a, h1, k⟩ := ob_some.1 (show aUn o x E ty T H = some (an, H') from h)
    obtain ⟨h2, k⟩ := bi_none.1 k
    obtain ⟨u, h3, rfl, rfl⟩ := val_some k
    exact ⟨u, rfl, rfl, fun H2 => by show aUn o x E ty T H2 = _; simp only [aUn, h1, h2, h3, ob_val, val, bi_true]⟩
  case makeInterface t x =>
    obtain ⟨a, h1, k⟩ := ob_some.1 (show aMakeInterface t x E ty T H = some (an, H') from h)
    obtain ⟨d, h2, k⟩ := ob_some.1 k
    obtain ⟨h3, k⟩ := bi_not.1 k
    cases k
    exact ⟨_, rfl, rfl, fun H2 => by show aMakeInterface t x E ty T H2 = _; simp only [aMakeInterface, h1, h2, h3, ob_val, bi_false]⟩
  case makeFunc fn a b =>
    obtain ⟨h1, k⟩ := bi_none.1 (show aMakeFunc fn a b E ty T H = some (an, H') from h)
    obtain ⟨d, h2, k⟩ := ob_some.1 k
    obtain ⟨d, h3, k⟩ := ob_some.1 k
    cases k
    exact ⟨_, rfl, rfl, fun H2 => by show aMakeFunc fn a b E ty T H2 = _; simp only [aMakeFunc, h1, h2, h3, ob_val, bi_true]⟩
  case fieldAddr s x f =>
    obtain ⟨v, h1, k⟩ := ob_some.1 (show aFieldAddr s x f E ty T H = some (an, H') from h)
    obtain ⟨_, h2, k⟩ := ob_some.1 k
    obtain ⟨_, h3, k⟩ := ob_some.1 k
    obtain ⟨_, h4, k⟩ := ob_some.1 k
    obtain ⟨_, h5, k⟩ := ob_some.1 k
    obtain ⟨h6, k⟩ := bi_not.1 k
    cases k
    exact ⟨_, rfl, rfl, fun H2 => by show aFieldAddr s x f E ty T H2 = _; simp only [aFieldAddr, h1, h2, h3, h4, h5, h6, ob_val, bi_false]⟩
  case field t x f =>
    obtain ⟨v, h1, k⟩ := ob_some.1 (show aField t x f E ty T H = some (an, H') from h)
    obtain ⟨_, h2, k⟩ := ob_some.1 k
    obtain ⟨_, h3, k⟩ := ob_some.1 k
    obtain ⟨u, h4, rfl, rfl⟩ := val_some k
    exact ⟨u, rfl, rfl, fun H2 => by show aField t x f E ty T H2 = _; simp only [aField, h1, h2, h3, h4, ob_val, val]⟩
  case indexAddr t x ix =>
    obtain ⟨v, h1, k⟩ := ob_some.1 (show aIndexAddr t x ix E ty T H = some (an, H') from h)
    obtain ⟨_, h2, k⟩ := ob_some.1 k
    obtain ⟨i, h3, k⟩ := ob_some.1 k
    have fin : ∀ {elem : TypeId} {len : Nat} {a : Addr} {i : Nat}, idxAt E.P H elem len a i = some (an, H') → ∃ v, an = .val v ∧ H' = H ∧ ∀ H2, idxAt E.P H2 elem len a i = some (.val v, H2) := by
      intro elem len a i h
      obtain ⟨_, g1, h⟩ := ob_some.1 h
      obtain ⟨_, g2, h⟩ := ob_some.1 h
      obtain ⟨g3, h⟩ := bi_none.1 h
      cases h
      exact ⟨_, rfl, rfl, fun H2 => by simp only [idxAt, g1, g2, g3, ob_val, bi_true]⟩
    rcases oc_some.1 k with ⟨h4, k⟩ | ⟨_, h4, k⟩
    · obtain ⟨_, h5, k⟩ := ob_some.1 k
      obtain ⟨_, h6, k⟩ := ob_some.1 k
      obtain ⟨u, e1, e2, h7⟩ := fin k
      exact ⟨u, e1, e2, fun H2 => by show aIndexAddr t x ix E ty T H2 = _; simp only [aIndexAddr, h1, h2, h3, h4, h5, h6, h7, ob_val, oc_none]⟩
    · obtain ⟨_, h5, k⟩ := ob_some.1 k
      obtain ⟨_, h6, k⟩ := ob_some.1 k
      obtain ⟨u, e1, e2, h7⟩ := fin k
      exact ⟨u, e1, e2, fun H2 => by show aIndexAddr t x ix E ty T H2 = _; simp only [aIndexAddr, h1, h2, h3, h4, h5, h6, h7, ob_val, oc_val]⟩
  case index t x ix =>
    obtain ⟨v, h1, k⟩ := ob_some.1 (show aIndex t x ix E ty T H = some (an, H') from h)
    obtain ⟨_, h2, k⟩ := ob_some.1 k
    rcases oc_some.1 k with ⟨h3, k⟩ | ⟨_, h3, k⟩
    · obtain ⟨_, h4, k⟩ := ob_some.1 k
      obtain ⟨_, h5, k⟩ := ob_some.1 k
      obtain ⟨h6, k⟩ := bi_none.1 k
      obtain ⟨_, h7, k⟩ := ob_some.1 k
      cases k
      exact ⟨_, rfl, rfl, fun H2 => by show aIndex t x ix E ty T H2 = _; simp only [aIndex, h1, h2, h3, h4, h5, h6, h7, ob_val, oc_none, bi_true]⟩
    · obtain ⟨_, h4, k⟩ := ob_some.1 k
      obtain ⟨_, h5, k⟩ := ob_some.1 k
      obtain ⟨_, h6, k⟩ := ob_some.1 k
      obtain ⟨h7, k⟩ := bi_none.1 k
      obtain ⟨u, h8, rfl, rfl⟩ := val_some k
      exact ⟨u, rfl, rfl, fun H2 => by show aIndex t x ix E ty T H2 = _; simp only [aIndex, h1, h2, h3, h4, h5, h6, h7, h8, ob_val, oc_val, bi_true, val]⟩
  case extract t i =>
    obtain ⟨v, h1, k⟩ := ob_some.1 (show aExtract t i E ty T H = some (an, H') from h)
    obtain ⟨_, h2, k⟩ := ob_some.1 k
    obtain ⟨u, h4, rfl, rfl⟩ := val_some k
    exact ⟨u, rfl, rfl, fun H2 => by show aExtract t i E ty T H2 = _; simp only [aExtract, h1, h2, h4, ob_val, val]⟩
  case convert s d x =>
    have hc : convC E.P s d = 0 := hc
    obtain ⟨a, h1, k⟩ := ob_some.1 (show aConvert s d x E ty T H = some (an, H') from h)
    rcases oc_some.1 k with ⟨h2, k⟩ | ⟨_, h2, k⟩
    · rcases oc_some.1 k with ⟨h3, k⟩ | ⟨_, h3, k⟩
      · obtain ⟨h4, k⟩ := bi_none.1 k
        obtain ⟨u, h5, rfl, rfl⟩ := val_some k
        exact ⟨u, rfl, rfl, fun H2 => by show aConvert s d x E ty T H2 = _; simp only [aConvert, convP, h1, h2, h3, h4, h5, ob_val, oc_none, bi_true, val]⟩
      · simp [convC, h2, h3] at hc
    · cases hb : Nat.beq s d <;> simp [convC, h2, hb, bi] at hc
  case call c =>
    obtain ⟨callee, cargs, ctypes⟩ := c
    cases callee with
    | builtin b =>
      have hq : quietB b = 0 := hc
      obtain ⟨args, h1, k⟩ := ob_some.1 (show ob (opds E.g T cargs.toList) (fun args => builtinA b E.P ty ctypes.toList args H) = some (an, H') from h)
      have red : ∀ H2, aop (.call ⟨.builtin b, cargs, ctypes⟩) E ty T H2 = builtinA b E.P ty ctypes.toList args H2 := by
        intro H2
        show ob (opds E.g T cargs.toList) (fun args => builtinA b E.P ty ctypes.toList args H2) = _
        rw [h1]; rfl
      cases b with
      | len => exact pure_val (x := bLen E.P ctypes.toList args) red h
      | cap => exact pure_val (x := bCap E.P ctypes.toList args) red h
      | unsafeSliceData => exact pure_val (x := bSliceData args) red h
      | min =>
        obtain ⟨h2, k⟩ := bi_none.1 (show bi (allL plain args) (val H (pval E.P (Builtin.min_ ⟨ctypes.toList⟩ ty ⟨args⟩))) none = some (an, H') from k)
        exact pure_val (x := pval E.P (Builtin.min_ ⟨ctypes.toList⟩ ty ⟨args⟩)) (fun H2 => by rw [red]; show bi (allL plain args) _ none = _; rw [h2]; rfl) h
      | max =>
        obtain ⟨h2, k⟩ := bi_none.1 (show bi (allL plain args) (val H (pval E.P (Builtin.max_ ⟨ctypes.toList⟩ ty ⟨args⟩))) none = some (an, H') from k)
        exact pure_val (x := pval E.P (Builtin.max_ ⟨ctypes.toList⟩ ty ⟨args⟩)) (fun H2 => by rw [red]; show bi (allL plain args) _ none = _; rw [h2]; rfl) h
      | _ => exact nomatch (show (3 : Nat) = 0 from hq)
    | _ => exact nomatch (show (3 : Nat) = 0 from hc)
  all_goals first | exact nomatch (show (3 : Nat) = 0 from hc) | exact nomatch (show (1 : Nat) = 0 from hc) | exact nomatch (show (2 : Nat) = 0 from hc)
theorem val_same {x : Option Value} (h : val H x = some (an, H')) : ∃ v, an = .val v ∧ H' = H := by
  obtain ⟨v, -, rfl, rfl⟩ := val_some h
  exact ⟨v, rfl, rfl⟩
theorem read_ok (hc : clsM op E.P = 1) (h : aop op E ty T H = some (an, H')) : ∃ v, an = .val v ∧ H' = H := by
  cases op
  case load t a =>
    obtain ⟨_, -, k⟩ := ob_some.1 (show aLoad t a E ty T H = some (an, H') from h)
    obtain ⟨_, -, k⟩ := ob_some.1 k
    exact val_same k
  case slice t x lo hi mx =>
    obtain ⟨_, -, k⟩ := ob_some.1 (show aSlice t x lo hi mx E ty T H = some (an, H') from h)
    obtain ⟨_, -, k⟩ := ob_some.1 k
    obtain ⟨_, -, k⟩ := ob_some.1 k
    obtain ⟨_, -, k⟩ := ob_some.1 k
    exact val_same k
  case lookup t x ix c =>
    rcases oc_some.1 (show aLook t x ix c E ty T H = some (an, H') from h) with ⟨-, h⟩ | ⟨_, -, h⟩
    rotate_left
    · obtain ⟨_, -, h⟩ := ob_some.1 (show aLookupS t x ix c E ty T H = some (an, H') from h)
      obtain ⟨_, -, h⟩ := ob_some.1 h
      obtain ⟨_, -, h⟩ := ob_some.1 h
      obtain ⟨_, -, h⟩ := ob_some.1 h
      obtain ⟨_, -, h⟩ := ob_some.1 (bi_none.1 h).2
      cases h; exact ⟨_, rfl, rfl⟩
    obtain ⟨_, -, h⟩ := ob_some.1 (show aLookup t x ix c E ty T H = some (an, H') from h)
    obtain ⟨_, -, h⟩ := ob_some.1 h
    obtain ⟨_, -, h⟩ := ob_some.1 h
    obtain ⟨_, -, h⟩ := ob_some.1 h
    obtain ⟨_, -, h⟩ := ob_some.1 h
    obtain ⟨_, -, h⟩ := ob_some.1 h
    obtain ⟨_, -, h⟩ := ob_some.1 (bi_none.1 h).2
    cases h; exact ⟨_, rfl, rfl⟩
  case convert s d x =>
    have hc : convC E.P s d = 1 := hc
    obtain ⟨a, h1, k⟩ := ob_some.1 (show aConvert s d x E ty T H = some (an, H') from h)
    rcases oc_some.1 k with ⟨h2, k⟩ | ⟨_, h2, k⟩
    · rcases oc_some.1 k with ⟨h3, k⟩ | ⟨_, h3, k⟩
      · simp [convC, h2, h3] at hc
      · simp [convC, h2, h3] at hc
    · rcases bi_or.1 k with ⟨hb, -⟩ | ⟨-, k⟩
      · simp [convC, h2, hb, bi] at hc
      obtain ⟨_, -, h⟩ := ob_some.1 (bi_none.1 k).2
      obtain ⟨_, -, h⟩ := ob_some.1 h
      obtain ⟨_, -, h⟩ := ob_some.1 h
      cases h; exact ⟨_, rfl, rfl⟩
  case call c =>
    obtain ⟨callee, cargs, ctypes⟩ := c
    cases callee with
    | builtin b => cases b <;> first | exact nomatch (show (3 : Nat) = 1 from hc) | exact nomatch (show (0 : Nat) = 1 from hc)
    | _ => exact nomatch (show (3 : Nat) = 1 from hc)
  all_goals first | exact nomatch (show (3 : Nat) = 1 from hc) | exact nomatch (show (0 : Nat) = 1 from hc) | exact nomatch (show (2 : Nat) = 1 from hc)
theorem newPtr_eq {H2 : AH} (e : H2.next = H.next) : newPtr H2 = newPtr H := by unfold newPtr; rw [e]
theorem newSl_eq {H2 : AH} (e : H2.next = H.next) (l c : Nat) : newSl H2 l c = newSl H l c := by unfold newSl; rw [e]
theorem alloc_ok (hc : clsM op E.P = 2) (h : aop op E ty T H = some (an, H')) : ∃ v k, an = .val v ∧ H' = H.new k ∧ ∀ H2 : AH, H2.next = H.next → aop op E ty T H2 = some (.val v, H2.new k) := by
  cases op
  case alloc e =>
    obtain ⟨z, h1, k⟩ := ob_some.1 (show aAlloc e E ty T H = some (an, H') from h)
    cases k
    exact ⟨_, _, rfl, rfl, fun H2 e2 => by show aAlloc e E ty T H2 = _; simp only [aAlloc, h1, ob_val, newPtr_eq e2]; rfl⟩
  case box e x =>
    obtain ⟨v, h1, k⟩ := ob_some.1 (show aBox e x E ty T H = some (an, H') from h)
    cases k
    exact ⟨_, _, rfl, rfl, fun H2 e2 => by show aBox e x E ty T H2 = _; simp only [aBox, h1, ob_val, newPtr_eq e2]; rfl⟩
  case buildSlice t n ps =>
    obtain ⟨_, h1, k⟩ := ob_some.1 (show aBuildSlice t n ps E ty T H = some (an, H') from h)
    obtain ⟨_, h2, k⟩ := ob_some.1 k
    obtain ⟨_, h3, k⟩ := ob_some.1 k
    obtain ⟨_, h4, k⟩ := ob_some.1 k
    obtain ⟨h5, k⟩ := bi_none.1 k
    obtain ⟨_, h6, k⟩ := ob_some.1 k
    cases k
    exact ⟨_, _, rfl, rfl, fun H2 e2 => by show aBuildSlice t n ps E ty T H2 = _; simp only [aBuildSlice, h1, h2, h3, h4, h5, h6, ob_val, bi_true, newSl_eq e2]; rfl⟩
  case makeMap t r =>
    obtain ⟨h1, k⟩ := bi_none.1 (show aMakeMap r E ty T H = some (an, H') from h)
    cases k
    exact ⟨_, _, rfl, rfl, fun H2 e2 => by show aMakeMap r E ty T H2 = _; simp only [aMakeMap, h1, bi_true, e2]⟩
  case makeSlice t l c =>
    obtain ⟨_, h1, k⟩ := ob_some.1 (show aMakeSlice t l c E ty T H = some (an, H') from h)
    obtain ⟨_, h2, k⟩ := ob_some.1 k
    obtain ⟨_, h3, k⟩ := ob_some.1 k
    obtain ⟨_, h4, k⟩ := ob_some.1 k
    obtain ⟨_, h5, k⟩ := ob_some.1 k
    obtain ⟨_, h6, k⟩ := ob_some.1 k
    obtain ⟨_, h7, k⟩ := ob_some.1 k
    obtain ⟨h8, k⟩ := bi_none.1 k
    cases k
    exact ⟨_, _, rfl, rfl, fun H2 e2 => by show aMakeSlice t l c E ty T H2 = _; simp only [aMakeSlice, makeSl, h1, h2, h3, h4, h5, h6, h7, h8, ob_val, bi_true, newSl_eq e2]; rfl⟩
  case range t x =>
    obtain ⟨h1, k⟩ := bi_none.1 (show aRange t x E ty T H = some (an, H') from h)
    obtain ⟨_, h2, k⟩ := ob_some.1 k
    obtain ⟨_, h3, k⟩ := ob_some.1 k
    cases k
    exact ⟨_, _, rfl, rfl, fun H2 e2 => by show aRange t x E ty T H2 = _; simp only [aRange, h1, h2, h3, ob_val, bi_true, newPtr_eq e2]⟩
  case convert s d x =>
    have hc : convC E.P s d = 2 := hc
    obtain ⟨a, h1, k⟩ := ob_some.1 (show aConvert s d x E ty T H = some (an, H') from h)
    rcases oc_some.1 k with ⟨h2, k⟩ | ⟨_, h2, k⟩
    · rcases oc_some.1 k with ⟨h3, k⟩ | ⟨_, h3, k⟩
      · simp [convC, h2, h3] at hc
      · obtain ⟨h4, k⟩ := bi_none.1 k
        obtain ⟨_, h5, k⟩ := ob_some.1 k
        obtain ⟨h6, k⟩ := bi_none.1 k
        cases k
        exact ⟨_, _, rfl, rfl, fun H2 e2 => by show aConvert s d x E ty T H2 = _; simp only [aConvert, convS, h1, h2, h3, h4, h5, h6, ob_val, oc_none, oc_val, bi_true, newSl_eq e2]; rfl⟩
    · cases hb : Nat.beq s d <;> simp [convC, h2, hb, bi] at hc
  case call c =>
    obtain ⟨callee, cargs, ctypes⟩ := c
    cases callee with
    | builtin b => cases b <;> first | exact nomatch (show (3 : Nat) = 2 from hc) | exact nomatch (show (0 : Nat) = 2 from hc)
    | _ => exact nomatch (show (3 : Nat) = 2 from hc)
  all_goals first | exact nomatch (show (3 : Nat) = 2 from hc) | exact nomatch (show (0 : Nat) = 2 from hc) | exact nomatch (show (1 : Nat) = 2 from hc)
end
end Go.Proofs.YthikcbbfnicnlaaGreatDoor.Ev
namespace Go.Proofs.YthikcbbfnicnlaaGreatDoor.Ev
open Go
set_option linter.unusedVariables false
set_option linter.unusedSimpArgs false
theorem ocf {α : Type} {x : Option α} {f : α → Bool} (h : oc x false f = true) : ∃ v, x = some v ∧ f v = true := by
  cases x with
  | none => exact nomatch (show false = true from h)
  | some v => exact ⟨v, rfl, h⟩
theorem eqO_ok {α : Type} {f : α → α → Bool} (hf : ∀ a b, f a b = true → a = b) {a b : Option α} (h : eqO f a b = true) : a = b := by
  cases a with
  | none => exact (non_iff.1 (show non b = true from h)).symm
  | some x =>
    obtain ⟨y, hy, h2⟩ := ocf (show oc b false (f x) = true from h)
    rw [hy, hf _ _ h2]
theorem eqAddr_ok {a b : Addr} (h : eqAddr a b = true) : a = b := by
  obtain ⟨h1, h⟩ := ba_iff.1 h
  obtain ⟨h2, h⟩ := ba_iff.1 h
  obtain ⟨h3, h4⟩ := ba_iff.1 h
  obtain ⟨a1, a2, a3⟩ := a
  obtain ⟨b1, b2, b3⟩ := b
  have h1 : a1 = b1 := beq_iff.1 h1
  have h2 : a2 = b2 := beq_iff.1 h2
  have h3 : a3 = none := non_iff.1 h3
  have h4 : b3 = none := non_iff.1 h4
  rw [h1, h2, h3, h4]
theorem eqAll_ok {α : Type} {f : α → α → Bool} (hf : ∀ a b, f a b = true → a = b) : ∀ {a b : List α}, eqAll f a b = true → a = b
  | [], b, h => (nilL_iff.1 (show nilL b = true from h)).symm
  | x :: a, b, h => by
    cases b with
    | nil => exact nomatch (show false = true from h)
    | cons y b =>
      have h : bi (f x y) (eqAll f a b) false = true := h
      cases hxy : f x y with
      | false => rw [hxy] at h; cases h
      | true =>
        rw [hxy] at h
        rw [hf _ _ hxy, eqAll_ok hf h]
theorem fnEq_ok {a b : Fn} (h : fnEq a b = true) : a = b := by
  cases a with
  | func f =>
    obtain ⟨y, hy, h2⟩ := ocf (show oc (fnFunc b) false (Nat.beq f) = true from h)
    cases b <;> first | (cases (show some _ = some y from hy); rw [beq_iff.1 h2]) | exact nomatch (show (none : Option FuncId) = some y from hy)
  | yield l =>
    obtain ⟨y, hy, h2⟩ := ocf (show oc (fnYield b) false (Nat.beq l) = true from h)
    cases b <;> first | (cases (show some _ = some y from hy); rw [beq_iff.1 h2]) | exact nomatch (show (none : Option Nat) = some y from hy)
  | _ => exact nomatch (show false = true from h)
theorem veq_ok : ∀ (n : Nat) (v u : Value), veq n v u = true → v = u
  | 0, v, u, h => nomatch (show false = true from h)
  | n + 1, v, u, h => by
    cases v with
    | bool b =>
      obtain ⟨y, hy, h2⟩ := ocf (show oc (vBool u) false (fun c => b == c) = true from h)
      rw [vBool_some hy]; congr 1; simpa using h2
    | int k m =>
      obtain ⟨y, hy, h2⟩ := ocf (show oc (vInt u) false (eqInt (k, m)) = true from h)
      obtain ⟨h3, h4⟩ := ba_iff.1 h2
      have h3 : k = y.1 := ikeq_iff h3
      rw [ibeq_eq] at h4
      have h4 : m = y.2 := beq_iff_eq.1 h4
      rw [vInt_some hy, h3, h4]
    | string s =>
      obtain ⟨y, hy, h2⟩ := ocf (show oc (vStr u) false (eqStr s) = true from h)
      rw [vStr_some hy]
      congr 1
      have : s.data.toList = y.data.toList := beq_iff_eq.1 h2
      exact ByteArray.ext (Array.ext' this)
    | pointer a =>
      obtain ⟨y, hy, h2⟩ := ocf (show oc (vPtrO u) false (eqO eqAddr a) = true from h)
      cases u <;> first | (cases (show some _ = some y from hy); rw [eqO_ok (fun _ _ => eqAddr_ok) h2]) | exact nomatch (show (none : Option (Option Addr)) = some y from hy)
    | slice a l c =>
      obtain ⟨y, hy, h2⟩ := ocf (show oc (vSl u) false (eqSl (a, l, c)) = true from h)
      obtain ⟨h3, h4⟩ := ba_iff.1 h2
      obtain ⟨h4, h5⟩ := ba_iff.1 h4
      have h3 : a = y.1 := eqO_ok (fun _ _ => eqAddr_ok) h3
      have h4 : l = y.2.1 := beq_iff.1 h4
      have h5 : c = y.2.2 := beq_iff.1 h5
      rw [vSl_some hy, h3, h4, h5]
    | map r =>
      obtain ⟨y, hy, h2⟩ := ocf (show oc (vMap u) false (eqO Nat.beq r) = true from h)
      rw [vMap_some hy, eqO_ok (fun _ _ => beq_iff.1) h2]
    | func fn a b =>
      obtain ⟨q, hq, h2⟩ := ocf (show oc (vFn u) false (fun q => ba (fnEq fn q.1) (ba (eqAll (veq n) a.toList q.2.1) (eqAll (veq n) b.toList q.2.2))) = true from h)
      obtain ⟨h3, h4⟩ := ba_iff.1 h2
      obtain ⟨h4, h5⟩ := ba_iff.1 h4
      rw [vFn_some hq, fnEq_ok h3, ← eqAll_ok (veq_ok n) h4, ← eqAll_ok (veq_ok n) h5]
    | nilFunc => cases u <;> first | rfl | exact nomatch (show false = true from h)
    | nilIface => cases u <;> first | rfl | exact nomatch (show false = true from h)
    | iface t x =>
      obtain ⟨q, hq, h2⟩ := ocf (show oc (vIface u) false (fun q => ba (Nat.beq t q.1) (veq n x q.2)) = true from h)
      obtain ⟨h3, h4⟩ := ba_iff.1 h2
      rw [vIface_some hq, veq_ok n _ _ h4, show t = q.1 from beq_iff.1 h3]
    | agg cs =>
      obtain ⟨q, hq, h2⟩ := ocf (show oc (vAgg u) false (eqAll (veq n) cs.toList) = true from h)
      rw [vAgg_some hq, ← eqAll_ok (veq_ok n) h2]
    | tuple cs =>
      obtain ⟨q, hq, h2⟩ := ocf (show oc (vTup u) false (eqAll (veq n) cs.toList) = true from h)
      rw [vTup_some hq, ← eqAll_ok (veq_ok n) h2]
    | _ => exact nomatch (show false = true from h)
end Go.Proofs.YthikcbbfnicnlaaGreatDoor.Ev
namespace Go.Proofs.YthikcbbfnicnlaaGreatDoor.Ev
open Go
set_option linter.unusedVariables false
set_option linter.unusedSimpArgs false
theorem tb_eq (m n : Nat) : tb m n = m.testBit n := by
  have h1 : Nat.land (Nat.shiftRight m n) 1 = m / 2 ^ n % 2 := by
    show (m >>> n) &&& 1 = _
    rw [Nat.and_one_is_mod, Nat.shiftRight_eq_div_pow]
  rw [Nat.testBit_eq_decide_div_mod_eq, Bool.eq_iff_iff, decide_eq_true_iff]
  unfold tb
  rw [h1, beq_iff]
structure Ent where
  i : Nat
  o : Oper
  M : Nat
  kd : Nat
  v : Value
  blk : Option Blk
  T : Tr Value
  H : AH
  H' : AH
noncomputable def Ent.W (e : Ent) : Nat := dstM e.o.dst
noncomputable def Ent.R (all : List Oper) (e : Ent) : Nat := Nat.lor (rdM e.o.op) (guardM all e.o.guard)
noncomputable def putD (T : Tr Value) (d : Option Tmp) (v : Value) : Tr Value := match d with
  | none => T
  | some t => T.put t (some v)
noncomputable def nx (H : AH) : Option Blk → AH
  | none => H
  | some k => H.new k
noncomputable def toP (all : List Oper) (e : Ent) : Pst := ⟨e.i, e.W, e.R all, Nat.beq e.kd 2, if e.kd = 2 then e.H'.t else .nil⟩
noncomputable def stT (T0 : Tr Value) : List Ent → Tr Value
  | [] => T0
  | e :: F => putD (stT T0 F) e.o.dst e.v
def stH (H0 : AH) : List Ent → AH
  | [] => H0
  | e :: _ => e.H'
def trA (b : Tr Blk) : List Ent → Tr Blk
  | [] => b
  | e :: _ => e.H'.t
def ph : List Ent → Prop
  | [] => True
  | e :: _ => e.kd = 2
def Closed (all : List Oper) (S : Nat → Prop) : Prop := ∀ i o, S i → all[i]? = some o → ∀ x ∈ o.after.toList, bindG x.ground = true → S x.on
def Ready (S : Nat → Prop) (o : Oper) : Prop := ∀ x ∈ o.after.toList, bindG x.ground = true → S x.on
def Quiet (d : Dn) (F : List Ent) (e : Ent) : Prop := ∀ B A, F = B ++ A → ph A → (∀ e' ∈ B, e'.kd = 2 → tb e.M e'.i = false) → aop e.o.op d.E e.o.type e.T ⟨e.H.next, trA d.base A⟩ = some (.val e.v, nx ⟨e.H.next, trA d.base A⟩ e.blk)
noncomputable def effR (d : Dn) (r : Rec) (o : Oper) (T : Tr Value) (H : AH) : Option Res := effV d o r T H fun v H' => some (.val v H')
structure EntOk (d : Dn) (r : Rec) (T0 : Tr Value) (H0 : AH) (F : List Ent) (e : Ent) : Prop where
  op : d.all[e.i]? = some e.o
  T : e.T = stT T0 F
  H : e.H = stH H0 F
  top : ∀ x ∈ e.o.after.toList, bindG x.ground = true → ∃ e' ∈ F, e'.i = x.on
  mask : ∀ j, tb e.M j = true → ∀ S : Nat → Prop, Closed d.all S → Ready S e.o → S j
  new : ∀ e' ∈ F, e'.i ≠ e.i
  apart : ∀ e' ∈ F, tb e.M e'.i = true ∨ (noMeet e'.W (Nat.lor (e.R d.all) e.W) = true ∧ noMeet e.W (e'.R d.all) = true)
  dst : ∀ t, e.o.dst = some t → t < d.fi.ntm
  kind : (e.kd = 0 ∧ wantedA d.all e.T e.o.guard = false ∧ e.v = undef ∧ e.blk = none ∧ e.H' = e.H) ∨
    (e.kd = 1 ∧ wantedA d.all e.T e.o.guard = true ∧ e.H' = nx e.H e.blk ∧ Quiet d F e) ∨
    (e.kd = 2 ∧ wantedA d.all e.T e.o.guard = true ∧ (∀ e' ∈ F, tb e.M e'.i = true) ∧ effR d r e.o e.T e.H = some (.val e.v e.H'))
def AllOk (d : Dn) (r : Rec) (T0 : Tr Value) (H0 : AH) : List Ent → Prop
  | [] => True
  | e :: F => EntOk d r T0 H0 F e ∧ AllOk d r T0 H0 F
theorem AllOk.at {d : Dn} {r : Rec} {T0 : Tr Value} {H0 : AH} : ∀ {B F : List Ent} {e : Ent}, AllOk d r T0 H0 (B ++ e :: F) → EntOk d r T0 H0 F e ∧ AllOk d r T0 H0 F
  | [], _, _, h => h
  | _ :: B, _, _, h => AllOk.at (B := B) h.2
/-! what is checked -/
theorem setT_putD {ntm : Nat} {T T' : Tr Value} {d : Option Tmp} {v : Value} (h : setT ntm T d v = some T') : T' = putD T d v ∧ ∀ t, d = some t → t < ntm := by
  cases d with
  | none => cases (show some T = some T' from h); exact ⟨rfl, fun t e => nomatch e⟩
  | some d =>
    obtain ⟨k1, k2⟩ := bi_none.1 (show bi (Nat.blt d ntm) (some (T.put d (some v))) none = some T' from h)
    cases k2
    exact ⟨rfl, fun t e => by cases e; exact blt_iff.1 k1⟩
theorem maskOf_ok {all : List Oper} {F : List Ent} {ms : Tr Nat} (hop : ∀ e ∈ F, all[e.i]? = some e.o) (hm : ∀ e ∈ F, ∀ j, tb e.M j = true → ∀ S : Nat → Prop, Closed all S → Ready S e.o → S j) (hms : ∀ j M, ms.get j = some M → ∃ e ∈ F, e.i = j ∧ e.M = M) :
    ∀ {l : List Edge} {M : Nat}, maskOf ms l = some M → (∀ x ∈ l, bindG x.ground = true → ∃ e' ∈ F, e'.i = x.on) ∧ ∀ j, tb M j = true → ∀ S : Nat → Prop, Closed all S → (∀ x ∈ l, bindG x.ground = true → S x.on) → S j
  | [], M, h => by
    cases (show some 0 = some M from h)
    exact ⟨fun x hx => by simp at hx, fun j hj => by rw [tb_eq, Nat.zero_testBit] at hj; cases hj⟩
  | x :: l, M, h => by
    obtain ⟨a, ha, k1⟩ := ob_some.1 (show ob (maskOf ms l) (fun a => bi (bindG x.ground) (ob (ms.get x.on) fun k => some (Nat.lor (Nat.lor a k) (bit x.on))) (some a)) = some M from h)
    obtain ⟨h1, h2⟩ := maskOf_ok hop hm hms ha
    rcases bi_or.1 k1 with ⟨hb, k2⟩ | ⟨hb, k2⟩
    · obtain ⟨k, hk, k3⟩ := ob_some.1 k2
      cases k3
      obtain ⟨e', he', hi, hM⟩ := hms _ _ hk
      refine ⟨fun y hy hyb => ?_, fun j hj S hS hR => ?_⟩
      · rcases List.mem_cons.1 hy with rfl | hy
        · exact ⟨e', he', hi⟩
        · exact h1 y hy hyb
      · have hSx : S x.on := hR x (List.mem_cons_self ..) hb
        rw [tb_eq, lor_bit, lor_bit, Bool.or_eq_true, Bool.or_eq_true, ← tb_eq, ← tb_eq, ← tb_eq] at hj
        rcases hj with (hj | hj) | hj
        · exact h2 j hj S hS fun y hy hyb => hR y (List.mem_cons_of_mem _ hy) hyb
        · refine hm e' he' j (by rw [hM]; exact hj) S hS ?_
          exact hS x.on e'.o hSx (by rw [← hi]; exact hop e' he')
        · rw [tb_eq, bit_eq, Nat.testBit_two_pow] at hj
          have : x.on = j := by simpa using hj
          rw [← this]; exact hSx
    · cases k2
      refine ⟨fun y hy hyb => ?_, fun j hj S hS hR => h2 j hj S hS fun y hy hyb => hR y (List.mem_cons_of_mem _ hy) hyb⟩
      rcases List.mem_cons.1 hy with rfl | hy
      · rw [hb] at hyb; cases hyb
      · exact h1 y hy hyb
theorem apartB_ok {all : List Oper} {W R M : Nat} : ∀ {F : List Ent}, apartB W R M (F.map (toP all)) = true → ∀ e' ∈ F, tb M e'.i = true ∨ (noMeet e'.W (Nat.lor R W) = true ∧ noMeet W (e'.R all) = true)
  | [], _, e', he => by simp at he
  | e :: F, h, e', he => by
    have h : bi (bi (tb M e.i) true (ba (noMeet e.W (Nat.lor R W)) (noMeet W (e.R all)))) (apartB W R M (F.map (toP all))) false = true := h
    cases h1 : bi (tb M e.i) true (ba (noMeet e.W (Nat.lor R W)) (noMeet W (e.R all))) with
    | false => rw [h1] at h; cases h
    | true =>
      rw [h1] at h
      rcases List.mem_cons.1 he with rfl | he
      · cases h2 : tb M e'.i with
        | true => exact .inl rfl
        | false => rw [h2] at h1; exact .inr (ba_iff.1 h1)
      · exact apartB_ok h e' he
theorem phasesB_ok {all : List Oper} {f : Tr Blk → Bool} {M : Nat} {b : Tr Blk} : ∀ {F : List Ent}, phasesB f M b (F.map (toP all)) = true → ∀ B A, F = B ++ A → ph A → (∀ e' ∈ B, e'.kd = 2 → tb M e'.i = false) → f (trA b A) = true
  | [], h, B, A, e, _, _ => by
    have := List.append_eq_nil_iff.1 e.symm
    rw [this.2]; exact h
  | x :: F, h, B, A, e, hp, hB => by
    have h : bi (Nat.beq x.kd 2) (bi (f (if x.kd = 2 then x.H'.t else .nil)) (bi (tb M x.i) true (phasesB f M b (F.map (toP all)))) false) (phasesB f M b (F.map (toP all))) = true := h
    cases B with
    | nil =>
      have e : x :: F = A := e
      subst e
      have hp : x.kd = 2 := hp
      rw [hp, if_pos rfl] at h
      cases hf : f x.H'.t with
      | true => exact hf
      | false => rw [hf] at h; cases h
    | cons y B =>
      have e : x :: F = y :: (B ++ A) := e
      injection e with e1 e2
      subst e1
      have hrest : phasesB f M b (F.map (toP all)) = true := by
        by_cases hk : x.kd = 2
        · rw [hk, if_pos rfl, hB x (List.mem_cons_self ..) hk] at h
          cases hf : f x.H'.t with
          | true => rw [hf] at h; exact h
          | false => rw [hf] at h; cases h
        · rw [beq_false.2 hk] at h; exact h
      exact phasesB_ok hrest B A e2 hp fun e' he' => hB e' (List.mem_cons_of_mem _ he')
theorem phasesE_ok {all : List Oper} {f : Tr Blk → Bool} {M : Nat} {b : Tr Blk} : ∀ {F : List Ent}, phasesE f M b (F.map (toP all)) = true → ∀ B A, F = B ++ A → ph A → (∀ e' ∈ B, e'.kd = 2 → tb M e'.i = false) → trA b A = lastT b (F.map (toP all)) ∨ f (trA b A) = true
  | [], h, B, A, e, _, _ => by
    have := List.append_eq_nil_iff.1 e.symm
    rw [this.2]; exact .inl rfl
  | x :: F, h, B, A, e, hp, hB => by
    have h : bi (Nat.beq x.kd 2) (bi (tb M x.i) true (phasesB f M b (F.map (toP all)))) (phasesE f M b (F.map (toP all))) = true := h
    have hl : lastT b ((x :: F).map (toP all)) = bi (Nat.beq x.kd 2) (if x.kd = 2 then x.H'.t else .nil) (lastT b (F.map (toP all))) := rfl
    cases B with
    | nil =>
      have e : x :: F = A := e
      subst e
      have hp : x.kd = 2 := hp
      left
      rw [hl, hp, if_pos rfl]; rfl
    | cons y B =>
      have e : x :: F = y :: (B ++ A) := e
      injection e with e1 e2
      subst e1
      by_cases hk : x.kd = 2
      · rw [hk, hB x (List.mem_cons_self ..) hk] at h
        exact .inr (phasesB_ok h B A e2 hp fun e' he' => hB e' (List.mem_cons_of_mem _ he'))
      · rw [beq_false.2 hk] at h
        rw [hl, beq_false.2 hk]
        exact phasesE_ok h B A e2 hp fun e' he' => hB e' (List.mem_cons_of_mem _ he')
theorem cls_cases (op : Op) (P : Program) : clsM op P = 0 ∨ clsM op P = 1 ∨ clsM op P = 2 ∨ clsM op P = 3 := by
  cases op
  case convert s d x =>
    have : clsM (.convert s d x) P = convC P s d := rfl
    rw [this]
    unfold convC
    cases undSl P s with
    | none => cases undSl P d with
      | none => exact .inl rfl
      | some _ => exact .inr (.inr (.inl rfl))
    | some _ =>
      cases hb : Nat.beq s d with
      | true => exact .inr (.inr (.inr (by simp [hb, bi])))
      | false => exact .inr (.inl (by simp [hb, bi]))
  case call c =>
    obtain ⟨callee, cargs, ctypes⟩ := c
    cases callee with
    | builtin b => cases b <;> first | exact .inl rfl | exact .inr (.inr (.inr rfl))
    | _ => exact .inr (.inr (.inr rfl))
  all_goals first | exact .inl rfl | exact .inr (.inl rfl) | exact .inr (.inr (.inl rfl)) | exact .inr (.inr (.inr rfl))
theorem anVal_some {an : AN} {v : Value} (h : anVal an = some v) : an = .val v := by
  cases an with
  | val u => cases (show some u = some v from h); rfl
  | _ => exact nomatch (show (none : Option Value) = some v from h)
theorem quietV_ok {d : Dn} {F : List Ent} {i : Nat} {o : Oper} {M : Nat} {T : Tr Value} {H H' : AH} {v : Value} (hc : clsM o.op d.E.P ≠ 3) (h : quietV d o M T H (F.map (toP d.all)) = some (v, H')) : ∃ blk, H' = nx H blk ∧ Quiet d F ⟨i, o, M, 1, v, blk, T, H, H'⟩ := by
  obtain ⟨a, ha, k1⟩ := ob_some.1 h
  obtain ⟨u, hu, k2⟩ := ob_some.1 k1
  have hu := anVal_some hu
  obtain ⟨an, H1⟩ := a
  subst hu
  rcases bi_or.1 k2 with ⟨hc2, k3⟩ | ⟨hc2, k3⟩
  · obtain ⟨k, hk, k4⟩ := ob_some.1 k3
    cases k4
    obtain ⟨v', k', e1, e2, hall⟩ := alloc_ok (beq_iff.1 hc2) ha
    cases e1
    subst e2
    have : k' = k := by
      have hk : (AH.new ⟨H.next, lastT d.base (F.map (toP d.all))⟩ k').get H.next = some k := hk
      rw [AH.new_get] at hk
      unfold upd at hk
      rw [if_pos rfl] at hk
      exact Option.some.inj hk
    subst this
    exact ⟨some k', rfl, fun B A e hp hB => hall _ rfl⟩
  · rcases bi_or.1 k3 with ⟨hc1, k4⟩ | ⟨hc1, k4⟩
    · obtain ⟨hph, k5⟩ := bi_none.1 k4
      cases k5
      have hsame : ∀ {t : Tr Blk} {x : AN × AH}, aop o.op d.E o.type T ⟨H.next, t⟩ = some x → x.2 = ⟨H.next, t⟩ := fun hx => by
        obtain ⟨_, _, e⟩ := read_ok (beq_iff.1 hc1) (show aop o.op d.E o.type T ⟨H.next, _⟩ = some (_, _) from hx)
        exact e
      refine ⟨none, rfl, fun B A e hp hB => ?_⟩
      rcases phasesE_ok hph B A e hp hB with e1 | e1
      · have := hsame ha
        show aop o.op d.E o.type T ⟨H.next, trA d.base A⟩ = _
        rw [e1, ha]
        show some (AN.val v, H1) = _
        rw [show H1 = _ from this]; rfl
      · obtain ⟨x, hx, h2⟩ := ocf e1
        obtain ⟨v2, hv2, h3⟩ := ocf h2
        have hv2 := anVal_some hv2
        have := veq_ok 6 _ _ h3
        obtain ⟨an2, H2⟩ := x
        subst hv2
        show aop o.op d.E o.type T ⟨H.next, trA d.base A⟩ = _
        have hs := hsame hx
        rw [hx]
        show some (AN.val v2, H2) = _
        rw [show H2 = _ from hs, this]; rfl
    · cases k4
      have h0 : clsM o.op d.E.P = 0 := by
        have hc1 := beq_false.1 hc1
        have hc2 := beq_false.1 hc2
        rcases cls_cases o.op d.E.P with h | h | h | h <;> first | exact h | contradiction
      obtain ⟨v', e1, e2, hall⟩ := pure_ok h0 ha
      cases e1
      exact ⟨none, rfl, fun B A e hp hB => hall _⟩
end Go.Proofs.YthikcbbfnicnlaaGreatDoor.Ev
namespace Go.Proofs.YthikcbbfnicnlaaGreatDoor.Ev
open Go
set_option linter.unusedVariables false
set_option linter.unusedSimpArgs false
section
variable {d : Dn} {r : Rec} {res : Res} {T0 : Tr Value} {H0 : AH}
theorem AllOk.op : ∀ {F : List Ent}, AllOk d r T0 H0 F → ∀ e ∈ F, d.all[e.i]? = some e.o
  | [], _, e, he => by simp at he
  | x :: F, h, e, he => by
    rcases List.mem_cons.1 he with rfl | he
    · exact h.1.op
    · exact AllOk.op h.2 e he
theorem AllOk.mask : ∀ {F : List Ent}, AllOk d r T0 H0 F → ∀ e ∈ F, ∀ j, tb e.M j = true → ∀ S : Nat → Prop, Closed d.all S → Ready S e.o → S j
  | [], _, e, he => by simp at he
  | x :: F, h, e, he => by
    rcases List.mem_cons.1 he with rfl | he
    · exact h.1.mask
    · exact AllOk.mask h.2 e he
theorem effV_k {o : Oper} {T : Tr Value} {H : AH} {k : Dk} (h : effV d o r T H k = some res) : ∃ v H', effR d r o T H = some (.val v H') ∧ k v H' = some res := by
  obtain ⟨a, ha, k1⟩ := ob_some.1 h
  rcases oc_some.1 k1 with ⟨hn, k2⟩ | ⟨v, hv, k2⟩
  · obtain ⟨x, hx, k3⟩ := ob_some.1 k2
    obtain ⟨y, hy, k4⟩ := ob_some.1 k3
    refine ⟨y.1, y.2, ?_, k4⟩
    unfold effR effV
    rw [ha, ob_val, hn, oc_none, hx, ob_val, hy]; rfl
  · refine ⟨v, a.2, ?_, k2⟩
    unfold effR effV
    rw [ha, ob_val, hv]; rfl
theorem drawn_trace : ∀ (l : List Nat) (F : List Ent) (T : Tr Value) (H : AH) (ms : Tr Nat) (D : Nat), drawnR d r l T H ms D (F.map (toP d.all)) = some res → AllOk d r T0 H0 F → T = stT T0 F → H = stH H0 F →
    (∀ j M, ms.get j = some M → ∃ e ∈ F, e.i = j ∧ e.M = M) → (∀ j, tb D j = true ↔ ∃ e ∈ F, e.i = j) → ∃ F', AllOk d r T0 H0 F' ∧ res = .cd .normal ⟨stT T0 F', d.ds⟩ (stH H0 F') ∧ ∀ j, j < d.all.length → ∃ e ∈ F', e.i = j
  | [], F, T, H, ms, D, h, hall, hT, hH, hms, hD => by
    obtain ⟨h1, h2⟩ := bi_none.1 (show bi (Nat.beq D (bit (lenL d.all) - 1)) (some (Res.cd .normal ⟨T, d.ds⟩ H)) none = some res from h)
    cases h2
    refine ⟨F, hall, by rw [hT, hH], fun j hj => (hD j).1 ?_⟩
    rw [beq_iff.1 h1, tb_eq, bit_eq, Nat.testBit_two_pow_sub_one, lenL_eq]
    simpa using hj
  | i :: l, F, T, H, ms, D, h, hall, hT, hH, hms, hD => by
    obtain ⟨o, ho, k1⟩ := ob_some.1 (show ob (getL d.all i) (fun o => bi (tb D i) none (ob (maskOf ms o.after.toList) fun M => bi (apartB (dstM o.dst) (Nat.lor (rdM o.op) (guardM d.all o.guard)) M (F.map (toP d.all)))
      (bi (wantedA d.all T o.guard)
        (bi (Nat.beq (clsM o.op d.E.P) 3)
          (bi (Nat.beq M D) (effV d o r T H fun v H' => ob (setT d.fi.ntm T o.dst v) fun T' => drawnR d r l T' H' (ms.put i (some M)) (Nat.lor D (bit i)) (⟨i, dstM o.dst, Nat.lor (rdM o.op) (guardM d.all o.guard), true, H'.t⟩ :: F.map (toP d.all))) none)
          (ob (quietV d o M T H (F.map (toP d.all))) fun q => ob (setT d.fi.ntm T o.dst q.1) fun T' => drawnR d r l T' q.2 (ms.put i (some M)) (Nat.lor D (bit i)) (⟨i, dstM o.dst, Nat.lor (rdM o.op) (guardM d.all o.guard), false, .nil⟩ :: F.map (toP d.all))))
        (ob (setT d.fi.ntm T o.dst undef) fun T' => drawnR d r l T' H (ms.put i (some M)) (Nat.lor D (bit i)) (⟨i, dstM o.dst, Nat.lor (rdM o.op) (guardM d.all o.guard), false, .nil⟩ :: F.map (toP d.all)))) none)) = some res from h)
    obtain ⟨hnew, k2⟩ := bi_not.1 k1
    obtain ⟨M, hM, k3⟩ := ob_some.1 k2
    obtain ⟨hap, k4⟩ := bi_none.1 k3
    rw [getL_eq] at ho
    obtain ⟨htop, hmask⟩ := maskOf_ok hall.op hall.mask hms hM
    have hnew' : ∀ e' ∈ F, e'.i ≠ i := fun e' he' e => by
      have := (hD i).2 ⟨e', he', e⟩
      rw [hnew] at this; cases this
    have hms' : ∀ (e : Ent), e.i = i → e.M = M → ∀ j M', (ms.put i (some M)).get j = some M' → ∃ e' ∈ e :: F, e'.i = j ∧ e'.M = M' := by
      intro e e1 e2 j M' hj
      rw [Tr.get_put] at hj
      by_cases hij : j = i
      · subst hij; rw [if_pos rfl] at hj; cases hj
        exact ⟨e, List.mem_cons_self .., e1, e2⟩
      · rw [if_neg hij] at hj
        obtain ⟨e', he', h1⟩ := hms j M' hj
        exact ⟨e', List.mem_cons_of_mem _ he', h1⟩
    have hD' : ∀ (e : Ent), e.i = i → ∀ j, tb (Nat.lor D (bit i)) j = true ↔ ∃ e' ∈ e :: F, e'.i = j := by
      intro e e1 j
      rw [tb_eq, lor_bit, Bool.or_eq_true, ← tb_eq, hD, bit_eq, Nat.testBit_two_pow]
      constructor
      · rintro (⟨e', he', h1⟩ | h1)
        · exact ⟨e', List.mem_cons_of_mem _ he', h1⟩
        · exact ⟨e, List.mem_cons_self .., by rw [e1]; simpa using h1⟩
      · rintro ⟨e', he', h1⟩
        rcases List.mem_cons.1 he' with rfl | he'
        · right; rw [← h1, e1]; simp
        · exact .inl ⟨e', he', h1⟩
    rcases bi_or.1 k4 with ⟨hw, k5⟩ | ⟨hw, k5⟩
    · rcases bi_or.1 k5 with ⟨hc, k6⟩ | ⟨hc, k6⟩
      · obtain ⟨hMD, k7⟩ := bi_none.1 k6
        obtain ⟨v, H', heff, k8⟩ := effV_k k7
        obtain ⟨T', hT', k9⟩ := ob_some.1 k8
        obtain ⟨hput, hdst⟩ := setT_putD hT'
        have hok : EntOk d r T0 H0 F ⟨i, o, M, 2, v, none, T, H, H'⟩ := ⟨ho, hT, hH, htop, hmask, hnew', apartB_ok hap, hdst, .inr (.inr ⟨rfl, hw, fun e' he' => by rw [beq_iff.1 hMD]; exact (hD _).2 ⟨e', he', rfl⟩, heff⟩)⟩
        have := drawn_trace l (⟨i, o, M, 2, v, none, T, H, H'⟩ :: F) T' H' (ms.put i (some M)) (Nat.lor D (bit i)) k9 ⟨hok, hall⟩ (by rw [hput, hT]; rfl) rfl (hms' _ rfl rfl) (hD' _ rfl)
        exact this
      · obtain ⟨q, hq, k7⟩ := ob_some.1 k6
        obtain ⟨T', hT', k9⟩ := ob_some.1 k7
        obtain ⟨hput, hdst⟩ := setT_putD hT'
        obtain ⟨blk, e1, hqu⟩ := quietV_ok (i := i) (beq_false.1 hc) hq
        have hok : EntOk d r T0 H0 F ⟨i, o, M, 1, q.1, blk, T, H, q.2⟩ := ⟨ho, hT, hH, htop, hmask, hnew', apartB_ok hap, hdst, .inr (.inl ⟨rfl, hw, e1, hqu⟩)⟩
        exact drawn_trace l (⟨i, o, M, 1, q.1, blk, T, H, q.2⟩ :: F) T' q.2 (ms.put i (some M)) (Nat.lor D (bit i)) k9 ⟨hok, hall⟩ (by rw [hput, hT]; rfl) rfl (hms' _ rfl rfl) (hD' _ rfl)
    · obtain ⟨T', hT', k9⟩ := ob_some.1 k5
      obtain ⟨hput, hdst⟩ := setT_putD hT'
      have hok : EntOk d r T0 H0 F ⟨i, o, M, 0, undef, none, T, H, H⟩ := ⟨ho, hT, hH, htop, hmask, hnew', apartB_ok hap, hdst, .inl ⟨rfl, hw, rfl, rfl, rfl⟩⟩
      exact drawn_trace l (⟨i, o, M, 0, undef, none, T, H, H⟩ :: F) T' H (ms.put i (some M)) (Nat.lor D (bit i)) k9 ⟨hok, hall⟩ (by rw [hput, hT]; rfl) rfl (hms' _ rfl rfl) (hD' _ rfl)
end
end Go.Proofs.YthikcbbfnicnlaaGreatDoor.Ev
