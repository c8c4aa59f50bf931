/- parse: the tokens that stand free, told from the last one on.
   parse: where brackets open.
   parse: parts, by the places that stand free. Plain.
   slices.Reverse, over parts.
   parse: parts, walked.
   parse: parts, as lists of tokens. -/
import Derived.Test.YthlingdlehdlhaaGreatDoorPA
namespace Go.Proofs.YthlingdlehdlhaaGreatDoor.Par
open Go.RowKit Go.Shelf
set_option linter.unusedVariables false
set_option linter.unusedSimpArgs false

/-- The places of those that stand free, among so many last ones, the last one first. -/
def freeTo (l : List Tok) : Nat → List Nat
  | 0 => []
  | k + 1 => freeTo l k ++ (if S (l.drop (l.length - 1 - k)) = 0 then [l.length - 1 - k] else [])
def freeL (l : List Tok) : List Nat := freeTo l l.length
theorem brk_wt (t : Tok) : wt t = if 0 ≤ brk t then (if isOpen t = true then -1 else 1) else 0 := by
  have key : ∀ a b : List UInt8, a ≠ b → isG t a = true → isG t b = false := fun a b h e => by
    obtain ⟨h1, h2⟩ := isG_eq e
    unfold isG; rw [h1, h2]; simp [h]
  unfold wt isClose isOpen brk
  cases h1 : isG t gLP
  · cases h2 : isG t gRP
    · cases h3 : isG t gLB
      · cases h4 : isG t gRB
        · cases h5 : isG t gLC
          · cases h6 : isG t gRC <;> simp
          · have := key gLC gRC (by decide) h5; simp [this]
        · have := key gRB gLC (by decide) h4; simp [this]
      · have a := key gLB gRB (by decide) h3; have b := key gLB gRC (by decide) h3; simp [a, b]
    · have a := key gRP gLB (by decide) h2; have b := key gRP gLC (by decide) h2; simp [a, b]
  · have a := key gLP gRP (by decide) h1; have b := key gLP gRB (by decide) h1; have c := key gLP gRC (by decide) h1; simp [a, b, c]
theorem freeTo_take (l : List Tok) (k m : Nat) : k ≤ m → ∀ (j x : Nat), (freeTo l k)[j]? = some x → (freeTo l m)[j]? = some x := by
  intro h
  induction h with
  | refl => exact fun j x e => e
  | step h ih =>
    intro j x e
    have := ih j x e
    rw [freeTo, List.getElem?_append_left (List.getElem?_eq_some_iff.1 this).1]
    exact this
/-- What is told: a place, and its token. -/
def freeEn (l : List Tok) (k : Nat) (args : Array Value) (W : World) : Prop :=
  ∃ (j : Nat) (t : Tok) (sa : Option Addr) (sn sc : Nat) (ea : Option Addr) (en ec : Nat), (freeL l)[k]? = some j ∧ l[j]? = some t ∧ args = #[.int .i64 (j : Nat), .agg #[.int .i64 t.kind, .string (bs t.txt), .int .i64 t.val.kind, .slice sa sn sc, .slice ea en ec]]
set_option maxRecDepth 100000 in
theorem free_any (v : Value) (w : World) (hv : ∃ a n c, v = .slice a n c) :
    Calls Tryz.prog 131 #[v] w fun e w' => e = .returned (.func (.func 163) #[] #[.pointer (some ⟨w.heap.size, 0, none⟩)]) ∧ w.alloc (.cells #[v] 23) = w' := by
  obtain ⟨a, n, c, rfl⟩ := hv
  go_enter Tryz.func131, Tryz.ntmps131
  go_wp2
  go_ret
  exact ⟨rfl, rfl⟩

theorem S_bound (l : List Tok) : -(l.length : Int) ≤ S l ∧ S l ≤ l.length := by
  induction l with
  | nil => simp [S]
  | cons t l ih => rw [S, List.length_cons]; have := wt_cases t; omega
set_option maxRecDepth 100000 in
set_option maxHeartbeats 4000000 in
theorem free1_seq (Bl : Nat) (Sb : Nat → Prop) (v : Value) (l : List Tok) (w : World) (hl : IsToks w v l) (hb : w.cell? ⟨Bl, 0, none⟩ = some v) (hS : Sb Bl) (hS2 : l ≠ [] → ∀ b o n c, v = .slice (some ⟨b, o, none⟩) n c → Sb b) :
    SeqE Tryz.prog 163 #[.pointer (some ⟨Bl, 0, none⟩)] (freeEn l) (fun _ => True) (freeL l).length (fun A B => Below A.heap.size A B) (KeepsOn Sb) w := by
  intro lp J Jx W hW hJ hJx hY h0
  have hlW := hl.below hW
  have hbW : W.cell? ⟨Bl, 0, none⟩ = some v := (hW.cell (World.block_lt_of_cell? w _ hb)).trans hb
  clear hl hb hW
  obtain ⟨a, c, rfl, k1, k2, k3, k4⟩ := hlW
  refine calls_wide (callsIn_of_wp Tryz.func163 rfl trivial ?_ rfl)
  simp only [Tryz.ntmps163, List.size_toArray, List.length_cons, List.length_nil, Nat.reduceAdd, Nat.reduceSub, Array.replicate_succ, Array.replicate_zero, List.push_toArray, List.append_toArray, List.nil_append, List.cons_append]
  gi_wp2
  gi_loopw [3, 4, 5, 6] (fun d i _ _ wr => ∃ m : Nat, m ≤ l.length ∧ d = .int .i64 (S (l.drop m)) ∧ i = .int .i64 ((m : Int) - 1) ∧ J (freeTo l (l.length - m)).length wr ∧ W.heap.size ≤ wr.heap.size ∧ (∀ p x, Sb p.block → W.cell? p = some x → wr.cell? p = some x))
    (fun _ i _ _ _ => (intOf i + 1).toNat)
  case atStart => exact ⟨l.length, Nat.le_refl _, by simp [S], by simp, by rw [Nat.sub_self]; exact h0, Nat.le_refl _, fun _ _ _ h => h⟩
  case round =>
    obtain ⟨m, hm, rfl, rfl, hj, hsz, hkp⟩ := hrel
    have hbox := hkp _ _ hS hbW
    cases m with
    | zero =>
      have hz : decide ((0 : Int) ≤ ((0 : Nat) : Int) - 1) = false := by decide
      gi_wp2
      go_end0
      exact ⟨⟨_, rfl⟩, .inl ⟨hj, trivial⟩⟩
    | succ m =>
      have hi : (((m + 1 : Nat) : Int) - 1) = (m : Int) := by omega
      have hd : decide ((0 : Int) ≤ (m : Int)) = true := by simp
      obtain ⟨t, ht⟩ : ∃ t, l[m]? = some t := ⟨_, List.getElem?_eq_getElem (by omega)⟩
      obtain ⟨b, o, vs, ve, rfl, ⟨c0, c1, c2, c3, c4⟩, i1, i2, i3⟩ := k4 m t ht
      have hSb : Sb b := hS2 (by intro e; rw [e] at ht; simp at ht) b o _ _ rfl
      replace c0 := hkp _ _ hSb c0
      replace c1 := hkp _ _ hSb c1
      replace c2 := hkp _ _ hSb c2
      replace c3 := hkp _ _ hSb c3
      replace c4 := hkp _ _ hSb c4
      obtain ⟨sa, sc, rfl, -⟩ := i1.parts
      obtain ⟨ea, ec, rfl, -⟩ := i2.parts
      have hstep := hid (show S (l.drop m) = wt t + S (l.drop (m + 1)) from S_drop_get l m t ht)
      have hfr := hid (show freeTo l (l.length - m) = freeTo l (l.length - (m + 1)) ++ (if S (l.drop m) = 0 then [m] else []) by
        rw [show l.length - m = (l.length - (m + 1)) + 1 by omega, freeTo, show l.length - 1 - (l.length - (m + 1)) = m by omega])
      have hml : m < l.length := by omega
      have hmi : (m : Int) < (l.length : Int) := by omega
      rw [hi]
      have hdb := S_bound (l.drop (m + 1))
      rw [List.length_drop] at hdb
      generalize S (l.drop (m + 1)) = d at *
      have hbr := bracket_any t (.slice sa t.val.shape.length sc) (.slice ea t.val.elems.length ec) wr
      have hw := hid (brk_wt t)
      generalize brk t = kb at *
      generalize isOpen t = ob at *
      gi_wp2
      refine ⟨trivial, rfl, (wide_calls hbr).mono ?_⟩
      rintro e wb ⟨rfl, bb⟩
      have hjb := hJ _ _ _ hsz hj bb
      have hsb := Nat.le_trans hsz bb.size
      have hkb : ∀ p x, Sb p.block → W.cell? p = some x → wb.cell? p = some x := fun p x hp hx => by
        have := hkp p x hp hx
        exact (bb.cell (World.block_lt_of_cell? wr p this)).trans this
      replace c0 := (bb.cell (World.block_lt_of_cell? wr _ c0)).trans c0
      replace c1 := (bb.cell (World.block_lt_of_cell? wr _ c1)).trans c1
      replace c2 := (bb.cell (World.block_lt_of_cell? wr _ c2)).trans c2
      replace c3 := (bb.cell (World.block_lt_of_cell? wr _ c3)).trans c3
      replace c4 := (bb.cell (World.block_lt_of_cell? wr _ c4)).trans c4
      replace hbox := (bb.cell (World.block_lt_of_cell? wr _ hbox)).trans hbox
      have hd1 : -9223372036854775808 ≤ d - 1 ∧ d + 1 ≤ 9223372036854775807 := by omega
      clear hj hsz hkp bb hbr k4 hdb i1 i2 i3
      by_cases hk0 : 0 ≤ kb
      · have hkd : decide (0 ≤ kb) = true := by simpa using hk0
        rw [if_pos hk0] at hw
        clear hk0
        cases ob
        · -- one that closes
          have HD := hid (show S (l.drop m) = d + 1 by rw [hstep.out, hw.out]; simp; omega)
          by_cases hz : d + 1 = 0
          · skip
            have t0 : (d + 1 == 0) = true := by rw [beq_iff_eq]; exact hz
            rw [if_pos (by rw [HD.out]; exact hz)] at hfr
            have hidx : (freeL l)[(freeTo l (l.length - (m + 1))).length]? = some m := freeTo_take l (l.length - m) l.length (by omega) _ _ (by rw [hfr.out]; simp)
            have hyy := hY _ #[.int .i64 (m : Nat), .agg #[.int .i64 t.kind, .string (bs t.txt), .int .i64 t.val.kind, .slice sa t.val.shape.length sc, .slice ea t.val.elems.length ec]] wb (List.getElem?_eq_some_iff.1 hidx).1 hjb ⟨m, t, sa, _, sc, ea, _, ec, hidx, ht, rfl⟩
            have hlen := hid (show (freeTo l (l.length - m)).length = (freeTo l (l.length - (m + 1))).length + 1 by rw [hfr.out]; simp)
            have HD2 := hid (HD.out)
            clear hstep hfr hw hY hJ hJx HD hidx ht
            obtain ⟨fn, tmps, assign, body, hy, hR⟩ := hyy
            gi_wp2
            refine ⟨rfl, hR.mono ?_⟩
            rintro e W3 (⟨rfl, hJ3, hk3⟩ | ⟨rfl, hJx3⟩)
            · have hk4 := fun p x (hp : Sb p.block) hx => (hk3.cell hp).trans (hkb p x hp hx)
              have hs4 := Nat.le_trans hsb hk3.1
              clear hk3
              gi_wp2
              go_roundw
              case rel => exact ⟨m, by omega, by rw [HD2.out, hz], by go_num, by rw [hlen.out]; exact hJ3, hs4, hk4⟩
              case measure => first | (simp [intOf]; done) | (simp [intOf]; omega)
            · gi_wp2
              refine bodyPost_ret (results_none rfl _ _ _) rfl ?_
              exact ⟨⟨_, rfl⟩, .inr hJx3⟩
          · skip
            have t0 : (d + 1 == 0) = false := by rw [beq_eq_false_iff_ne]; exact hz
            have hlen := hid (show (freeTo l (l.length - m)).length = (freeTo l (l.length - (m + 1))).length by rw [hfr.out, if_neg (by rw [HD.out]; exact hz)]; simp)
            have HD2 := hid (HD.out)
            clear hstep hfr hw hY hJ hJx HD ht
            gi_wp2
            refine ⟨fun _ _ => trivial, ?_⟩
            gi_wp2
            go_roundw
            case rel => exact ⟨m, by omega, by rw [HD2.out], by go_num, by rw [hlen.out]; exact hjb, hsb, hkb⟩
            case measure => first | (simp [intOf]; done) | (simp [intOf]; omega)
        · -- one that opens
          have HD := hid (show S (l.drop m) = d - 1 by rw [hstep.out, hw.out]; simp; omega)
          by_cases hz : d - 1 = 0
          · skip
            have t0 : (d - 1 == 0) = true := by rw [beq_iff_eq]; exact hz
            rw [if_pos (by rw [HD.out]; exact hz)] at hfr
            have hidx : (freeL l)[(freeTo l (l.length - (m + 1))).length]? = some m := freeTo_take l (l.length - m) l.length (by omega) _ _ (by rw [hfr.out]; simp)
            have hyy := hY _ #[.int .i64 (m : Nat), .agg #[.int .i64 t.kind, .string (bs t.txt), .int .i64 t.val.kind, .slice sa t.val.shape.length sc, .slice ea t.val.elems.length ec]] wb (List.getElem?_eq_some_iff.1 hidx).1 hjb ⟨m, t, sa, _, sc, ea, _, ec, hidx, ht, rfl⟩
            have hlen := hid (show (freeTo l (l.length - m)).length = (freeTo l (l.length - (m + 1))).length + 1 by rw [hfr.out]; simp)
            have HD2 := hid (HD.out)
            clear hstep hfr hw hY hJ hJx HD hidx ht
            obtain ⟨fn, tmps, assign, body, hy, hR⟩ := hyy
            gi_wp2
            refine ⟨rfl, hR.mono ?_⟩
            rintro e W3 (⟨rfl, hJ3, hk3⟩ | ⟨rfl, hJx3⟩)
            · have hk4 := fun p x (hp : Sb p.block) hx => (hk3.cell hp).trans (hkb p x hp hx)
              have hs4 := Nat.le_trans hsb hk3.1
              clear hk3
              gi_wp2
              go_roundw
              case rel => exact ⟨m, by omega, by rw [HD2.out, hz], by go_num, by rw [hlen.out]; exact hJ3, hs4, hk4⟩
              case measure => first | (simp [intOf]; done) | (simp [intOf]; omega)
            · gi_wp2
              refine bodyPost_ret (results_none rfl _ _ _) rfl ?_
              exact ⟨⟨_, rfl⟩, .inr hJx3⟩
          · skip
            have t0 : (d - 1 == 0) = false := by rw [beq_eq_false_iff_ne]; exact hz
            have hlen := hid (show (freeTo l (l.length - m)).length = (freeTo l (l.length - (m + 1))).length by rw [hfr.out, if_neg (by rw [HD.out]; exact hz)]; simp)
            have HD2 := hid (HD.out)
            clear hstep hfr hw hY hJ hJx HD ht
            gi_wp2
            refine ⟨fun _ _ => trivial, ?_⟩
            gi_wp2
            go_roundw
            case rel => exact ⟨m, by omega, by rw [HD2.out], by go_num, by rw [hlen.out]; exact hjb, hsb, hkb⟩
            case measure => first | (simp [intOf]; done) | (simp [intOf]; omega)
      · have hkd : decide (0 ≤ kb) = false := by simpa using hk0
        rw [if_neg hk0] at hw
        clear hk0
        have HD := hid (show S (l.drop m) = d by rw [hstep.out, hw.out]; simp)
        by_cases hz : d = 0
        · skip
          have t0 : (d == 0) = true := by rw [beq_iff_eq]; exact hz
          rw [if_pos (by rw [HD.out]; exact hz)] at hfr
          have hidx : (freeL l)[(freeTo l (l.length - (m + 1))).length]? = some m := freeTo_take l (l.length - m) l.length (by omega) _ _ (by rw [hfr.out]; simp)
          have hyy := hY _ #[.int .i64 (m : Nat), .agg #[.int .i64 t.kind, .string (bs t.txt), .int .i64 t.val.kind, .slice sa t.val.shape.length sc, .slice ea t.val.elems.length ec]] wb (List.getElem?_eq_some_iff.1 hidx).1 hjb ⟨m, t, sa, _, sc, ea, _, ec, hidx, ht, rfl⟩
          have hlen := hid (show (freeTo l (l.length - m)).length = (freeTo l (l.length - (m + 1))).length + 1 by rw [hfr.out]; simp)
          have HD2 := hid (HD.out)
          clear hstep hfr hw hY hJ hJx HD hidx ht
          obtain ⟨fn, tmps, assign, body, hy, hR⟩ := hyy
          gi_wp2
          refine ⟨rfl, hR.mono ?_⟩
          rintro e W3 (⟨rfl, hJ3, hk3⟩ | ⟨rfl, hJx3⟩)
          · have hk4 := fun p x (hp : Sb p.block) hx => (hk3.cell hp).trans (hkb p x hp hx)
            have hs4 := Nat.le_trans hsb hk3.1
            clear hk3
            gi_wp2
            go_roundw
            case rel => exact ⟨m, by omega, by rw [HD2.out, hz], by go_num, by rw [hlen.out]; exact hJ3, hs4, hk4⟩
            case measure => first | (simp [intOf]; done) | (simp [intOf]; omega)
          · gi_wp2
            refine bodyPost_ret (results_none rfl _ _ _) rfl ?_
            exact ⟨⟨_, rfl⟩, .inr hJx3⟩
        · skip
          have t0 : (d == 0) = false := by rw [beq_eq_false_iff_ne]; exact hz
          have hlen := hid (show (freeTo l (l.length - m)).length = (freeTo l (l.length - (m + 1))).length by rw [hfr.out, if_neg (by rw [HD.out]; exact hz)]; simp)
          have HD2 := hid (HD.out)
          clear hstep hfr hw hY hJ hJx HD ht
          gi_wp2
          refine ⟨fun _ _ => trivial, ?_⟩
          gi_wp2
          go_roundw
          case rel => exact ⟨m, by omega, by rw [HD2.out], by go_num, by rw [hlen.out]; exact hjb, hsb, hkb⟩
          case measure => first | (simp [intOf]; done) | (simp [intOf]; omega)
end Go.Proofs.YthlingdlehdlhaaGreatDoor.Par

namespace Go.Proofs.YthlingdlehdlhaaGreatDoor.Par
open Go.RowKit Go.Shelf
set_option linter.unusedVariables false
set_option linter.unusedSimpArgs false
attribute [local go_sem] Oper.semAt_some

/-- The first one that stands free, from the end on. -/
theorem free_first {l : List Tok} (h : Dyck l) (hne : l ≠ []) : (freeL l)[0]?.getD 0 = openedF l := by
  obtain ⟨a1, a2, a3⟩ := opened_spec h hne
  have h0 : ∀ k, k ≤ l.length - 1 - openedF l → freeTo l k = [] := by
    intro k
    induction k with
    | zero => intro _; rfl
    | succ k ih =>
      intro hk
      rw [freeTo, ih (by omega), if_neg]
      · rfl
      · have := a3 (l.length - 1 - k) (by omega) (by omega)
        omega
  have h1 : freeTo l (l.length - 1 - openedF l + 1) = [openedF l] := by
    rw [freeTo, h0 _ (Nat.le_refl _), show l.length - 1 - (l.length - 1 - openedF l) = openedF l by omega, if_pos a2]; rfl
  have := freeTo_take l (l.length - 1 - openedF l + 1) l.length (by omega) 0 (openedF l) (by rw [h1]; rfl)
  unfold freeL; rw [this]; rfl

set_option maxRecDepth 100000 in
set_option maxHeartbeats 4000000 in
theorem opened_any (v : Value) (l : List Tok) (w : World) (hl : IsToks w v l) :
    Calls Tryz.prog 84 #[v] w fun e w' => e = .returned (.int .i64 ((freeL l)[0]?.getD 0 : Nat)) ∧ Below w.heap.size w w' := by
  have hl0 := hl
  obtain ⟨a, c, rfl, k1, k2, k3, k4⟩ := hl
  have hblt : ∀ b o n c', Value.slice a l.length c = .slice (some ⟨b, o, none⟩) n c' → l ≠ [] → b < w.heap.size := by
    intro b o n c' e hne
    simp only [Value.slice.injEq] at e
    obtain ⟨rfl, -, -⟩ := e
    obtain ⟨t, ht⟩ : ∃ t, l[0]? = some t := ⟨_, List.getElem?_eq_getElem (List.length_pos_iff.2 hne)⟩
    obtain ⟨b', o', vs, ve, e1, ⟨c0, -⟩, -⟩ := k4 0 t ht
    simp only [Option.some.injEq, Addr.mk.injEq, and_true] at e1
    obtain ⟨rfl, rfl⟩ := e1
    exact World.block_lt_of_cell? w _ c0
  clear k4
  refine calls_of_wp_m Tryz.func84 rfl ?_
  simp only [Tryz.ntmps84, List.size_toArray, List.length_cons, List.length_nil, Nat.reduceAdd, Nat.reduceSub, Array.replicate_succ, Array.replicate_zero, List.push_toArray, List.append_toArray, List.nil_append, List.cons_append]
  go_wp2_with fail
  go_step3
  go_wp2_with fail
  go_step3
  go_wp2_with fail
  refine (free_any _ _ ⟨_, _, _, rfl⟩).mono ?_
  rintro e w' ⟨rfl, rfl⟩
  go_wp2_with fail
  go_outline
  have hB2 : Below w.heap.size w ((w.alloc (.cells #[.int .i64 0] 3)).alloc (.cells #[.slice a l.length c] 23)) := ((Below.refl _ w).alloc (Nat.le_refl _) _).alloc (by simp) _
  refine range_lawE rfl (enters_of Tryz.func163 (by kernel_rfl) rfl)
    (free1_seq (w.heap.size + 1) (fun b => b < w.heap.size ∨ b = w.heap.size + 1) (.slice a l.length c) l _ (hl0.below hB2) (by go_simp) (.inr rfl) (fun hne b o n c' e => .inl (hblt b o n c' e hne)))
    (fun _ A B row h hg hr => h)
    (fun A B h => ?_)
    (fun A B C h k => h.trans _ _ _ k) (fun W l o o' hl h1 h2 => KeepsOn.putObj (fun j hj => by simp; omega) W l o o' hl h1 h2)
    (fun k args W h => by obtain ⟨j, t, sa, sn, sc, ea, en, ec, -, -, rfl⟩ := h; rfl)
    (fun k W => (k = 0 ∧ Boxed W w.heap.size 3 (.int .i64 0)) ∧ Below w.heap.size w W)
    (fun cc W => (cc = .exit 0 ∧ Boxed W w.heap.size 3 (.int .i64 ((freeL l)[0]?.getD 0 : Nat))) ∧ Below w.heap.size w W)
    (OwnFrom.and (Own.from (fun s A B row hs hg hr => ⟨hs.1, boxed_turn hs.2 hg hr⟩) _) (ownFrom_below (Nat.le_refl _) (by simp; omega)))
    (OwnFrom.and (Own.from (fun s A B row hs hg hr => ⟨hs.1, boxed_turn hs.2 hg hr⟩) _) (ownFrom_below (Nat.le_refl _) (by simp; omega)))
    (fun k A B hA h hm => ?_) (fun k A B hA h hm => ?_)
    ⟨⟨rfl, (boxed_at rfl).alloc _⟩, hB2⟩
    (fun k a' W => ∃ (j : Nat) (tv : Value), (freeL l)[k]? = some j ∧ a' = { tmps := #[.slice a l.length c, undef, .int .i64 0, .pointer (some ⟨w.heap.size, 0, none⟩), .int .i64 (j : Nat), .slice a l.length c, .func (.func 163) #[] #[.pointer (some ⟨w.heap.size + 1, 0, none⟩)], .int .i64 (j : Nat), tv, undef, undef], defers := [] })
    (fun k a' _ A B row h hg hr => h)
    ?assign ?body ?done ?stop
  · exact ⟨h.size, fun i o _ hi _ => (h.block i (Array.getElem?_eq_some_iff.1 hi).1).trans hi⟩
  · exact ⟨⟨h.1.1, (hm.block _ h.1.2.lt).trans h.1.2⟩, h.2.trans (hm.mono h.2.size)⟩
  · exact ⟨⟨h.1.1, (hm.block _ h.1.2.lt).trans h.1.2⟩, h.2.trans (hm.mono h.2.size)⟩
  case assign =>
    rintro lp k args W K hk hI ⟨j, t, sa, sn, sc, ea, en, ec, hj, ht, rfl⟩ hK
    simp only [Array.toList_zip, List.zip, List.foldl]
    gi_wp2
    exact hK _ _ (KeepsFrom.refl _ _) (KeepsOn.refl _ _) hI ⟨j, _, hj, rfl⟩
  case body =>
    rintro lp k a' W hlp hr hk ⟨⟨rfl, hbx⟩, hB⟩ ⟨j, tv, hj, rfl⟩
    have c0 := hbx.cell
    have f0 := hbx.frozen
    have hj' := hid hj
    clear hj
    gi_wp2
    refine ⟨(KeepsOthers.setCell _ _ _).from _, ⟨rfl, ?_⟩, hB.setCell (by simp) _⟩
    rw [hj'.out]; exact hbx.set _
  case done =>
    rintro D W hD ⟨⟨h0, hbx⟩, hB⟩ _ hK
    have hz := hid (show (freeL l)[0]?.getD 0 = 0 by rw [List.eq_nil_of_length_eq_zero h0]; rfl)
    have c0 := hbx.cell
    clear h0
    go_wp2
    try rw [Exit.noGoto_ret]
    refine post_mark hK (results_tmp rfl _ _ _) ?_
    exact ⟨by rw [hz.out]; rfl, below_putObj hB (by simp at hD; omega) _⟩
  case stop =>
    rintro D cc W hD ⟨⟨rfl, hbx⟩, hB⟩ hK
    obtain ⟨r, hr⟩ : ∃ r, r = (freeL l)[0]?.getD 0 := ⟨_, rfl⟩
    rw [← hr] at hbx
    have Hr := hid hr
    clear hr
    have c0 := hbx.cell
    go_wp2
    try rw [Exit.noGoto_ret]
    refine post_mark hK (results_tmp rfl _ _ _) ?_
    exact ⟨by rw [← Hr.out]; rfl, below_putObj hB (by simp at hD; omega) _⟩
theorem opened_any' (v : Value) (l : List Tok) (w : World) (hl : IsToks w v l) (h : Dyck l) (hne : l ≠ []) :
    Calls Tryz.prog 84 #[v] w fun e w' => e = .returned (.int .i64 (openedF l : Nat)) ∧ Below w.heap.size w w' := by
  have := opened_any v l w hl
  rw [free_first h hne] at this
  exact this
end Go.Proofs.YthlingdlehdlhaaGreatDoor.Par

namespace Go.Proofs.YthlingdlehdlhaaGreatDoor.Par
open Go.RowKit Go.Shelf
set_option linter.unusedVariables false
set_option linter.unusedSimpArgs false

def seg (l : List Tok) (p : Nat × Nat) : List Tok := (l.take p.2).drop p.1
/-- Behind some free places: where the part that is read ends, and the bounds of those behind it, the last one first. -/
def cutSt (l : List Tok) (g : List UInt8) (js : List Nat) : Nat × List (Nat × Nat) :=
  js.foldl (fun st j => if (match l[j]? with | some t => isG t g | none => false) = true then (j, st.2 ++ [(j + 1, st.1)]) else st) (l.length, [])
theorem cutSt_snoc (l : List Tok) (g : List UInt8) (js : List Nat) (j : Nat) (t : Tok) (ht : l[j]? = some t) :
    cutSt l g (js ++ [j]) = if isG t g = true then (j, (cutSt l g js).2 ++ [(j + 1, (cutSt l g js).1)]) else cutSt l g js := by
  unfold cutSt; rw [List.foldl_append, List.foldl_cons, List.foldl_nil, ht]
theorem seg_cons {l : List Tok} {m e : Nat} {t : Tok} (ht : l[m]? = some t) (he : m + 1 ≤ e) : seg l (m, e) = t :: seg l (m + 1, e) := by
  unfold seg
  have h : (l.take e)[m]? = some t := by rw [List.getElem?_take_of_lt (by omega)]; exact ht
  obtain ⟨hl, h2⟩ := List.getElem?_eq_some_iff.1 h
  simp only
  rw [List.drop_eq_getElem_cons hl, h2]
theorem cut_inv (l : List Tok) (g : List UInt8) : ∀ k, k ≤ l.length → l.length - k ≤ (cutSt l g (freeTo l k)).1 ∧ (cutSt l g (freeTo l k)).1 ≤ l.length ∧
    partsF l g = partsR g (S (l.drop (l.length - k))) (seg l (l.length - k, (cutSt l g (freeTo l k)).1)) (((cutSt l g (freeTo l k)).2.map (seg l)).reverse) (l.take (l.length - k)).reverse := by
  intro k
  induction k with
  | zero =>
    intro _
    refine ⟨Nat.le_refl _, Nat.le_refl _, ?_⟩
    have e : cutSt l g (freeTo l 0) = (l.length, []) := rfl
    rw [e, Nat.sub_zero, List.drop_length, List.take_length]
    unfold partsF seg
    rw [List.take_length, List.drop_length]; rfl
  | succ k ih =>
    intro hk
    obtain ⟨h1, h2, h3⟩ := ih (by omega)
    obtain ⟨m, hm⟩ : ∃ m, l.length - k = m + 1 := ⟨l.length - k - 1, by omega⟩
    have hm2 : l.length - (k + 1) = m := by omega
    have hm3 : l.length - 1 - k = m := by omega
    obtain ⟨t, ht⟩ : ∃ t, l[m]? = some t := ⟨_, List.getElem?_eq_getElem (by omega)⟩
    have hrev : (l.take (m + 1)).reverse = t :: (l.take m).reverse := by rw [take_one _ _ _ ht, List.reverse_append]; rfl
    have hS := S_drop_get l m t ht
    rw [hm] at h1 h3
    rw [hm2, freeTo, hm3]
    rw [hrev, partsR, Int.add_comm, ← hS] at h3
    by_cases h0 : S (l.drop m) = 0
    · rw [if_pos h0, cutSt_snoc l g _ m t ht]
      by_cases hg : isG t g = true
      · rw [if_pos ⟨h0, hg⟩] at h3
        rw [if_pos hg]
        refine ⟨Nat.le_refl _, by omega, ?_⟩
        rw [h3, List.map_append, List.reverse_append]
        have : seg l (m, m) = [] := by unfold seg; rw [List.drop_eq_nil_of_le]; rw [List.length_take]; simp only; omega
        rw [this]; rfl
      · rw [if_neg (fun h => hg h.2), ← seg_cons ht h1] at h3
        rw [if_neg hg]
        exact ⟨by omega, h2, h3⟩
    · rw [if_neg h0, List.append_nil]
      rw [if_neg (fun h => h0 h.1), ← seg_cons ht h1] at h3
      exact ⟨by omega, h2, h3⟩
theorem parts_cut (l : List Tok) (g : List UInt8) : partsF l g = (((cutSt l g (freeL l)).2 ++ [(0, (cutSt l g (freeL l)).1)]).map (seg l)).reverse := by
  have h := (cut_inv l g l.length (Nat.le_refl _)).2.2
  rw [Nat.sub_self, List.take_zero, List.reverse_nil, partsR] at h
  unfold freeL
  rw [h, List.map_append, List.reverse_append]; rfl
end Go.Proofs.YthlingdlehdlhaaGreatDoor.Par

namespace Go.Proofs.YthlingdlehdlhaaGreatDoor.Par
open Go.RowKit Go.Shelf
set_option linter.unusedVariables false
set_option linter.unusedSimpArgs false

theorem rev_end {α : Type} (X Y : List α) (n i : Nat) (hX : X.length = n) (hY : Y.length = n) (hi : n ≤ 2 * i + 1)
    (h : ∀ p, p < n → Y[p]? = if p < i ∨ n ≤ p + i then X[n - 1 - p]? else X[p]?) : Y = X.reverse := by
  apply List.ext_getElem?
  intro p
  by_cases hp : p < n
  · rw [h p hp, List.getElem?_reverse (by omega), hX]
    split
    · rfl
    · rename_i hc
      rw [show n - 1 - p = p by omega]
  · rw [List.getElem?_eq_none (by omega), List.getElem?_eq_none (by rw [List.length_reverse]; omega)]
theorem Fr.set0 {rb : Nat} {a w : World} (h : Fr rb a w) (i : Nat) (c : Value) : Fr rb a (w.setCell ⟨rb, i, none⟩ c) :=
  ⟨h.os, h.tape, h.output, by have := h.size; simpa [World.setCell] using this, fun k hk hn => by rw [Below.heap_setCell _ _ _ _ hn]; exact h.block k hk hn⟩
theorem Fr.drew {rb : Nat} {a w : World} (h : Fr rb a w) : Fr rb a w.drew := ⟨h.os, h.tape, h.output, h.size, h.block⟩
set_option maxRecDepth 100000 in
set_option maxHeartbeats 4000000 in
theorem reverse_any (w : World) (g n cap : Nat) (cur : Array Value) (h : w.heap[g]? = some (.cells cur 23)) (hn : n ≤ cap) (hcap : cap ≤ maxLen) (hc : cur.size = cap) (hs : ∀ p, p < n → ∃ a m c, cur[p]? = some (.slice a m c)) :
    Calls Tryz.prog 165 #[.slice (some ⟨g, 0, none⟩) n cap] w fun e w' => (∃ v, e = .returned v) ∧ Fr g w w' ∧ ∃ cur', w'.heap[g]? = some (.cells cur' 23) ∧ cur'.size = cap ∧ cur'.toList.take n = (cur.toList.take n).reverse := by
  have hm : n ≤ 9223372036854775807 := by unfold maxLen at hcap; omega
  go_enter Tryz.func165, Tryz.ntmps165
  go_wp2
  go_loopw [2, 3] (fun vi vj wr => ∃ i : Nat, 2 * i ≤ n + 1 ∧ vi = .int .i64 (i : Nat) ∧ vj = .int .i64 ((n : Int) - 1 - i) ∧ Fr g w wr ∧ ∃ cur', wr.heap[g]? = some (.cells cur' 23) ∧ cur'.size = cap ∧ ∀ p, p < n → cur'[p]? = if p < i ∨ n ≤ p + i then cur[n - 1 - p]? else cur[p]?)
    (fun vi _ _ => n - (intOf vi).toNat)
  case atStart => exact ⟨0, by omega, rfl, by simp, Fr.refl _ _, cur, h, hc, fun p hp => by rw [if_neg (by omega)]⟩
  case round =>
    obtain ⟨i, hi, rfl, rfl, hF, cur', hg, hsz, hspec⟩ := hrel
    by_cases hlt : 2 * i + 1 < n
    · obtain ⟨j, hj⟩ : ∃ j, i + j + 1 = n := ⟨n - 1 - i, by omega⟩
      have ej : (n : Int) - 1 - (i : Int) = (j : Int) := by omega
      have hij : decide ((i : Int) < (j : Int)) = true := by simp; omega
      have hij2 : decide (i < j) = true := by simp; omega
      obtain ⟨ai, mi, ci, hvi⟩ := hs i (by omega)
      obtain ⟨aj, mj, cj, hvj⟩ := hs j (by omega)
      have hci : cur'[i]? = some (.slice ai mi ci) := by rw [hspec i (by omega), if_neg (by omega)]; exact hvi
      have hcj : cur'[j]? = some (.slice aj mj cj) := by rw [hspec j (by omega), if_neg (by omega)]; exact hvj
      have di : wr.cell? ⟨g, i, none⟩ = some (.slice ai mi ci) := by rw [Lib.cell_of_heap hg]; exact hci
      have dj : wr.cell? ⟨g, j, none⟩ = some (.slice aj mj cj) := by rw [Lib.cell_of_heap hg]; exact hcj
      have fi := Lib.frozen_of_heap hg i
      have fj := Lib.frozen_of_heap hg j
      have hin : (i : Int) < (n : Int) := by omega
      have hjn : (j : Int) < (n : Int) := by omega
      have hne : ¬ i = j := by omega
      have hg1 := heap_set1 (i := i) hg (.slice aj mj cj)
      have hg2 := heap_set1 (i := j) hg1 (.slice ai mi ci)
      rw [ej]
      have Hspec := hid hspec
      have Hvi := hid hvi
      have Hvj := hid hvj
      clear hspec hs h hvi hvj hci hcj
      go_wp2_with fail
      go_region
      go_wp2
      refine ⟨⟨i + 1, by omega, by simp, by congr 1; omega, ((hF.set0 _ _).set0 _ _).drew, _, hg2, by simp [hsz], fun p hp => ?_⟩, by simp [intOf]; omega⟩
      have hs' := Hspec.out p hp
      simp only [Array.getElem?_setIfInBounds, Array.size_setIfInBounds]
      by_cases e1 : j = p
      · subst e1
        rw [if_pos rfl, if_pos (by omega), if_pos (by omega), show n - 1 - j = i by omega, Hvi.out]
      · rw [if_neg e1]
        by_cases e2 : i = p
        · subst e2
          rw [if_pos rfl, if_pos (by omega), if_pos (by omega), show n - 1 - i = j by omega, Hvj.out]
        · rw [if_neg e2, hs']
          by_cases e3 : p < i ∨ n ≤ p + i
          · rw [if_pos e3, if_pos (by omega)]
          · rw [if_neg e3, if_neg (by omega)]
    · have hij : decide ((i : Int) < (n : Int) - 1 - (i : Int)) = false := by simp; omega
      have hE := hid (rev_end (cur.toList.take n) (cur'.toList.take n) n i (by rw [List.length_take, Array.length_toList]; omega) (by rw [List.length_take, Array.length_toList]; omega) (by omega) (fun p hp => by
        rw [List.getElem?_take_of_lt hp, Array.getElem?_toList, hspec p hp]
        split
        · rw [List.getElem?_take_of_lt (by omega), Array.getElem?_toList]
        · rw [List.getElem?_take_of_lt hp, Array.getElem?_toList]))
      clear hspec hs h
      go_wp2
      go_end0
      exact ⟨⟨_, rfl⟩, hF, cur', hg, hsz, hE.out⟩
/-- The same of a row of the call's own. -/
theorem reverse_own (w : World) (base g n cap : Nat) (xs : List Value) (h : w.ownsRow base 23 1 (.slice (some ⟨g, 0, none⟩) n cap) n xs) (hs : ∀ x ∈ xs, ∃ a m c, x = .slice a m c) :
    Calls Tryz.prog 165 #[.slice (some ⟨g, 0, none⟩) n cap] w fun e w' => (∃ v, e = .returned v) ∧ Fr g w w' ∧ w'.ownsRow base 23 1 (.slice (some ⟨g, 0, none⟩) n cap) n xs.reverse := by
  obtain ⟨h1, ⟨h2, -⟩ | ⟨g', cap', cur, e, h3, h4, h5, h6, h7, h8⟩⟩ := h
  · cases h2
  · simp only [Value.slice.injEq, Option.some.injEq, Addr.mk.injEq, and_true, true_and] at e
    obtain ⟨rfl, rfl⟩ := e
    rw [Nat.mul_one] at h1 h7 h8
    refine (reverse_any w g n cap cur h4 h5 h6 h7 (fun p hp => ?_)).mono ?_
    · have hx : xs[p]? = cur[p]? := by rw [← h8, List.getElem?_take_of_lt hp, Array.getElem?_toList]
      obtain ⟨x, hxp⟩ : ∃ x, xs[p]? = some x := ⟨_, List.getElem?_eq_getElem (by omega)⟩
      obtain ⟨a, m, c, rfl⟩ := hs x (List.mem_of_getElem? hxp)
      exact ⟨a, m, c, hx ▸ hxp⟩
    · rintro e w' ⟨hv, hF, cur', k1, k2, k3⟩
      refine ⟨hv, hF, by rw [List.length_reverse, Nat.mul_one]; exact h1, .inr ⟨g, cap, cur', rfl, h3, k1, h5, h6, by rw [Nat.mul_one]; exact k2, by rw [Nat.mul_one, k3, h8]⟩⟩
end Go.Proofs.YthlingdlehdlhaaGreatDoor.Par

namespace Go.Proofs.YthlingdlehdlhaaGreatDoor.Par
open Go.RowKit Go.Shelf
set_option linter.unusedVariables false
set_option linter.unusedSimpArgs false
attribute [local go_sem] Oper.semAt_some

/-- A piece of a slice of tokens, as a value. -/
def segV (a : Option Addr) (c : Nat) (p : Nat × Nat) : Value := (.slice (if c = p.1 then a else a.map fun x => ⟨x.block, x.off + p.1 * 5, x.spot⟩) (p.2 - p.1) (c - p.1))
theorem Tryz.infoToks : (Tryz.prog.info? 23).map (fun i => (i.zero, i.size, i.bytes)) = some (some (.slice none 0 0), 1, 24) := by kernel_rfl
theorem segs_last (a : Option Addr) (c Ce : Nat) (CL : List (Nat × Nat)) : (List.map (segV a c) (CL ++ [(0, Ce)])).reverse = (List.map (segV a c) CL ++ [Value.slice a Ce c]).reverse := by
  cases a <;> simp [segV]
theorem own_cells {w : World} {base g n cap m size : Nat} {T : TypeId} {xs : List Value} (h : w.ownsRow base T size (.slice (some ⟨g, 0, none⟩) n cap) m xs) : ∃ cs fz, w.heap[g]? = some (.cells cs T fz) := by
  obtain ⟨h1, ⟨h2, h3⟩ | ⟨g2, cap2, cur2, e2, h3, h4, h5⟩⟩ := h
  · cases h2
  · simp only [Value.slice.injEq, Option.some.injEq, Addr.mk.injEq, and_true] at e2
    obtain ⟨rfl, h6⟩ := e2
    exact ⟨_, _, h4⟩
/-- Ahead of free place k. -/
def partI (w : World) (l : List Tok) (g : List UInt8) (s : ByteArray) (a : Option Addr) (c : Nat) (k : Nat) (W : World) : Prop :=
  Boxed W w.heap.size 23 (.slice a l.length c) ∧ Boxed W (w.heap.size + 1) 9 (.string s) ∧
  (∃ ov, Boxed W (w.heap.size + 2) 176 ov ∧ W.ownsRow (w.heap.size + 5) 23 1 ov (cutSt l g ((freeL l).take k)).2.length ((cutSt l g ((freeL l).take k)).2.map (segV a c))) ∧
  Boxed W (w.heap.size + 3) 3 (.int .i64 ((cutSt l g ((freeL l).take k)).1 : Nat)) ∧ w.heap.size + 5 ≤ W.heap.size
theorem freeTo_at (l : List Tok) : ∀ m k j, m ≤ l.length → (freeTo l m)[k]? = some j → j < l.length ∧ l.length - 1 - j < m ∧ (freeTo l m).take k = freeTo l (l.length - 1 - j) := by
  intro m
  induction m with
  | zero => intro k j _ h; simp [freeTo] at h
  | succ m ih =>
    intro k j hm h
    rw [freeTo] at h ⊢
    by_cases hk : k < (freeTo l m).length
    · rw [List.getElem?_append_left hk] at h
      obtain ⟨h1, h2, h3⟩ := ih k j (by omega) h
      exact ⟨h1, by omega, by rw [List.take_append_of_le_length (by omega)]; exact h3⟩
    · rw [List.getElem?_append_right (by omega)] at h
      split at h
      · obtain ⟨hl, e⟩ := List.getElem?_eq_some_iff.1 h
        simp only [List.length_cons, List.length_nil] at hl
        have hz : k = (freeTo l m).length := by omega
        subst hz
        simp at e
        subst e
        refine ⟨by omega, by omega, ?_⟩
        rw [List.take_append_of_le_length (Nat.le_refl _), List.take_length, show l.length - 1 - (l.length - 1 - m) = m by omega]
      · simp at h
theorem cut_len (l : List Tok) (g : List UInt8) (js : List Nat) : ∀ st : Nat × List (Nat × Nat), (js.foldl (fun st j => if (match l[j]? with | some t => isG t g | none => false) = true then (j, st.2 ++ [(j + 1, st.1)]) else st) st).2.length ≤ st.2.length + js.length := by
  induction js with
  | nil => intro st; simp
  | cons j js ih =>
    intro st
    rw [List.foldl_cons]
    refine Nat.le_trans (ih _) ?_
    generalize (match l[j]? with | some t => isG t g | none => false) = b
    cases b
    · rw [if_neg (by simp)]; simp
    · rw [if_pos rfl]; simp; omega
theorem freeTo_len (l : List Tok) : ∀ m, (freeTo l m).length ≤ m := by
  intro m
  induction m with
  | zero => simp [freeTo]
  | succ m ih =>
    rw [freeTo, List.length_append]
    have : ∀ (p : Prop) [Decidable p] (x : Nat), (if p then [x] else []).length ≤ 1 := by intro p _ x; split <;> simp
    have := this (S (l.drop (l.length - 1 - m)) = 0) (l.length - 1 - m)
    omega
theorem cut_at (l : List Tok) (g : List UInt8) (k j : Nat) (t : Tok) (hj : (freeL l)[k]? = some j) (ht : l[j]? = some t) :
    j + 1 ≤ (cutSt l g ((freeL l).take k)).1 ∧ (cutSt l g ((freeL l).take k)).1 ≤ l.length ∧ (cutSt l g ((freeL l).take k)).2.length ≤ l.length ∧
    cutSt l g ((freeL l).take (k + 1)) = if isG t g = true then (j, (cutSt l g ((freeL l).take k)).2 ++ [(j + 1, (cutSt l g ((freeL l).take k)).1)]) else cutSt l g ((freeL l).take k) := by
  obtain ⟨h1, h2, h3⟩ := freeTo_at l l.length k j (Nat.le_refl _) hj
  have hc := cut_inv l g (l.length - 1 - j) (by omega)
  have hlen := cut_len l g ((freeL l).take k) (l.length, [])
  have hfl := freeTo_len l l.length
  have e : (freeL l).take k = freeTo l (l.length - 1 - j) := h3
  refine ⟨?_, ?_, ?_, ?_⟩
  · rw [e]; have := hc.1; omega
  · rw [e]; exact hc.2.1
  · refine Nat.le_trans hlen ?_
    simp only [List.length_nil, List.length_take, freeL]; omega
  · rw [List.take_add_one, hj]; exact cutSt_snoc l g _ j t ht
theorem partI_below {w : World} {l : List Tok} {g : List UInt8} {s : ByteArray} {a : Option Addr} {c k : Nat} {A B : World} (h : partI w l g s a c k A) (hm : Below A.heap.size A B) : partI w l g s a c k B := by
  obtain ⟨h1, h2, ⟨ov, h3, h4⟩, h5, h6⟩ := h
  exact ⟨(hm.block _ h1.lt).trans h1, (hm.block _ h2.lt).trans h2, ⟨ov, (hm.block _ h3.lt).trans h3, owns_below h4 hm⟩, (hm.block _ h5.lt).trans h5, Nat.le_trans h6 hm.size⟩
set_option maxRecDepth 100000 in
set_option maxHeartbeats 4000000 in
theorem parts_any (v : Value) (l : List Tok) (g : List UInt8) (s : ByteArray) (hs : s = bs g) (w : World) (hl : IsToks w v l) (hlen : l.length ≤ 8000000) :
    Calls Tryz.prog 133 #[v, .string s] w fun e w' => (∃ a c Ce CL ov, v = .slice a l.length c ∧ e = .returned ov ∧ cutSt l g (freeL l) = (Ce, CL) ∧ w'.ownsRow w.heap.size 23 1 ov (CL.length + 1) ((CL ++ [(0, Ce)]).map (segV a c)).reverse) ∧ Below w.heap.size w w' := by
  obtain ⟨i0, hi, hz0, hz1, hz2⟩ := info_parts Tryz.infoToks
  have Hs := hid hs
  clear hs
  have hl0 := hl
  obtain ⟨a, c, rfl, k1, k2, k3, k4⟩ := hl
  have hblt : ∀ b o n c', Value.slice a l.length c = .slice (some ⟨b, o, none⟩) n c' → l ≠ [] → b < w.heap.size := by
    intro b o n c' e hne
    simp only [Value.slice.injEq] at e
    obtain ⟨rfl, -, -⟩ := e
    obtain ⟨t, ht⟩ : ∃ t, l[0]? = some t := ⟨_, List.getElem?_eq_getElem (List.length_pos_iff.2 hne)⟩
    obtain ⟨b', o', vs, ve, e1, ⟨c0, -⟩, -⟩ := k4 0 t ht
    simp only [Option.some.injEq, Addr.mk.injEq, and_true] at e1
    obtain ⟨rfl, rfl⟩ := e1
    exact World.block_lt_of_cell? w _ c0
  have hlit : l ≠ [] → ∃ b o, a = some ⟨b, o, none⟩ := by
    intro hne
    obtain ⟨t, ht⟩ : ∃ t, l[0]? = some t := ⟨_, List.getElem?_eq_getElem (List.length_pos_iff.2 hne)⟩
    obtain ⟨b', o', vs, ve, e1, -⟩ := k4 0 t ht
    exact ⟨b', o', e1⟩
  clear k4
  refine calls_of_wp_m Tryz.func133 rfl ?_
  simp only [Tryz.ntmps133, List.size_toArray, List.length_cons, List.length_nil, Nat.reduceAdd, Nat.reduceSub, Array.replicate_succ, Array.replicate_zero, List.push_toArray, List.append_toArray, List.nil_append, List.cons_append]
  go_wp2_with fail
  refine (free_any _ _ ⟨_, _, _, rfl⟩).mono ?_
  rintro e w' ⟨rfl, rfl⟩
  go_wp2_with fail
  go_outline
  refine range_lawE rfl (enters_of Tryz.func163 (by kernel_rfl) rfl)
    (free1_seq (w.heap.size + 4) (fun b => b < w.heap.size ∨ b = w.heap.size + 4) (.slice a l.length c) l _ (hl0.below ?hB2) (by go_simp) (.inr rfl) (fun hne b o n c' e => .inl (hblt b o n c' e hne)))
    (fun _ A B row h hg hr => h)
    (fun A B h => ?_)
    (fun A B C h k => h.trans _ _ _ k) (fun W l o o' hl h1 h2 => KeepsOn.putObj (fun j hj => by simp; omega) W l o o' hl h1 h2)
    (fun k args W h => by obtain ⟨j, t, sa, sn, sc, ea, en, ec, -, -, rfl⟩ := h; rfl)
    (fun k W => partI w l g s a c k W ∧ Below w.heap.size w W)
    (fun cc W => False)
    (OwnFrom.and (Own.from (fun k A B row hs hg hr => by
      obtain ⟨h1, h2, ⟨ov, h3, h4⟩, h5, h6⟩ := hs
      exact ⟨boxed_turn h1 hg hr, boxed_turn h2 hg hr, ⟨ov, boxed_turn h3 hg hr, owns_turn h4 hg hr⟩, boxed_turn h5 hg hr, Nat.le_trans h6 hg.size⟩) _) (ownFrom_below (Nat.le_refl _) (by simp; omega)))
    (fun _ _ _ _ hs _ _ => hs)
    (fun k A B hA h hm => ?_) (fun k A B hA h hm => h)
    ⟨?h0, ?hB0⟩
    (fun k a' W => ∃ (j D : Nat) (t : Tok) (sa : Option Addr) (sn sc : Nat) (ea : Option Addr) (en ec : Nat), (freeL l)[k]? = some j ∧ l[j]? = some t ∧ w.heap.size + 5 ≤ D ∧ W.heap[D]? = some (.cells #[.int .i64 t.kind, .string (bs t.txt), .int .i64 t.val.kind, .slice sa sn sc, .slice ea en ec] 48) ∧
      a' = { tmps := #[.slice a l.length c, .string s, .pointer (some ⟨w.heap.size, 0, none⟩), .pointer (some ⟨w.heap.size + 1, 0, none⟩), .slice none 0 0, .pointer (some ⟨w.heap.size + 1 + 1, 0, none⟩), .pointer (some ⟨w.heap.size + 1 + 1 + 1, 0, none⟩), .int .i64 (j : Nat), .pointer (some ⟨D, 0, none⟩),
        .slice a l.length c, .int .i64 (l.length : Nat), .slice a l.length c, .func (.func 163) #[] #[.pointer (some ⟨w.heap.size + 1 + 1 + 1 + 1, 0, none⟩)], .int .i64 (j : Nat), .agg #[.int .i64 t.kind, .string (bs t.txt), .int .i64 t.val.kind, .slice sa sn sc, .slice ea en ec],
        undef, undef, undef, undef, undef, undef, undef, undef, undef, undef, undef, undef, undef, undef, undef, undef, undef, undef, undef, undef, undef], defers := [] })
    (fun k a' _ A B row h hg hr => ?axown)
    ?assign ?body ?done (fun D c W _ h _ => h.elim)
  case hB2 => exact (((((Below.refl _ w).alloc (Nat.le_refl _) _).alloc (by simp) _).alloc (by simp; omega) _).alloc (by simp; omega) _).alloc (by simp; omega) _
  case hB0 => exact (((((Below.refl _ w).alloc (Nat.le_refl _) _).alloc (by simp) _).alloc (by simp; omega) _).alloc (by simp; omega) _).alloc (by simp; omega) _
  case h0 =>
    refine ⟨((((boxed_at rfl).alloc _).alloc _).alloc _).alloc _, (((boxed_at (by simp)).alloc _).alloc _).alloc _, ⟨.slice none 0 0, ((boxed_at (by simp)).alloc _).alloc _, World.ownsRow_nil _ _ _ _⟩, (boxed_at (by simp)).alloc _, by simp⟩
  case axown =>
    obtain ⟨j, D, t, sa, sn, sc, ea, en, ec, h1, h2, h3, h4, h5⟩ := h
    refine ⟨j, D, t, sa, sn, sc, ea, en, ec, h1, h2, h3, (hg.block D (Array.getElem?_eq_some_iff.1 h4).1 (fun e => ?_)).trans h4, h5⟩
    obtain ⟨o, ho, hc⟩ := (hr D e.symm).2
    rw [h4] at ho; cases ho; cases hc
  case assign =>
    rintro lp k args W K hk hI ⟨j, t, sa, sn, sc, ea, en, ec, hj, ht, rfl⟩ hK
    have hz := hI.1.2.2.2.2
    have hj' := hid hj
    have ht' := hid ht
    clear hj ht
    simp only [Array.toList_zip, List.zip, List.foldl]
    gi_wp2
    have hBa := (Below.refl W.heap.size W).alloc (Nat.le_refl _) (.cells #[.int .i64 t.kind, .string (bs t.txt), .int .i64 t.val.kind, .slice sa sn sc, .slice ea en ec] 48)
    exact hK _ _ (((KeepsOthers.alloc W _)).from _) (KeepsOn.of_below hBa (fun b hb => by omega)) ⟨partI_below hI.1 hBa, hI.2.trans (hBa.mono hI.2.size)⟩ ⟨j, W.heap.size, t, sa, sn, sc, ea, en, ec, hj'.out, ht'.out, hz, heap_alloc_new W _, rfl⟩
  case body =>
    rintro lp k a' W hlp hr hk ⟨⟨hv, hsb, ⟨ov, hov, hrow⟩, hen, hsz⟩, hB⟩ ⟨j, D, t, sa, sn, sc, ea, en, ec, hj, ht, hD, hcell, rfl⟩
    obtain ⟨q1, q2, q3, q4⟩ := cut_at l g k j t hj ht
    obtain ⟨ab, ao, rfl⟩ := hlit (by rintro rfl; simp at ht)
    have hjl : j < l.length := (List.getElem?_eq_some_iff.1 ht).1
    generalize cutSt l g ((freeL l).take k) = C at *
    obtain ⟨Ce, CL⟩ := C
    simp only at hrow hen q1 q2 q3 q4
    have Q4 := hid q4
    clear q4 hj ht hk hlit hblt hl0
    obtain ⟨c0, c1, c2, c3, c4, f0, f1, f2, f3, f4⟩ := five_facts hcell
    have hs0 := hsb.cell
    gi_wp2
    refine ⟨trivial, rfl, ?_⟩
    refine (round_calls lp (is_any t _ _ g s Hs.out _)).mono ?_
    rintro e w1 ⟨rfl, b1⟩
    have hko : KeepsOthers W w1 := ⟨b1.size, fun i o hi _ => (b1.block i (Array.getElem?_eq_some_iff.1 hi).1).trans hi⟩
    have hkn : KeepsOn (fun b => b < w.heap.size ∨ b = w.heap.size + 4) W w1 := KeepsOn.of_below b1 (fun b hb => by omega)
    have hv1 : Boxed w1 w.heap.size 23 (.slice (some ⟨ab, ao, none⟩) l.length c) := (b1.block _ hv.lt).trans hv
    have hsb1 : Boxed w1 (w.heap.size + 1) 9 (.string s) := (b1.block _ hsb.lt).trans hsb
    have hov1 : Boxed w1 (w.heap.size + 2) 176 ov := (b1.block _ hov.lt).trans hov
    have hen1 : Boxed w1 (w.heap.size + 3) 3 (.int .i64 (Ce : Nat)) := (b1.block _ hen.lt).trans hen
    have hrow1 := owns_below hrow b1
    have hB1 := hB.trans (b1.mono hB.size)
    have hsz1 := Nat.le_trans hsz b1.size
    clear c0 c1 c2 c3 c4 f0 f1 f2 f3 f4 hs0 hcell hr b1
    generalize isG t g = G at *
    cases G
    · gi_wp2
      refine ⟨hko.from _, hkn, ⟨?_, hB1⟩⟩
      unfold partI
      rw [Q4.out, if_neg (by simp)]
      exact ⟨hv1, hsb1, ⟨ov, hov1, hrow1⟩, hen1, hsz1⟩
    · have Q5 := hid (Q4.out.trans (if_pos rfl))
      clear Q4
      obtain ⟨og, oc, rfl⟩ := own_slice hrow1
      have d0 := hv1.cell
      have d2 := hov1.cell
      have d3 := hen1.cell
      have e2 := hov1.frozen
      have e3 := hen1.frozen
      have hone := hid (fun x => one_new w1.drew x 23)
      have hrd : w1.drew.ownsRow (w.heap.size + 5) 23 1 (.slice og CL.length oc) CL.length (CL.map (segV (some ⟨ab, ao, none⟩) c)) := hrow1
      have hwr : IntKind.i64.wrap ((j : Int) + 1) = (j : Int) + 1 := IntWalk.i64_in _ (by omega)
      have hvd : Boxed w1.drew w.heap.size 23 (.slice (some ⟨ab, ao, none⟩) l.length c) := hv1
      have hsbd : Boxed w1.drew (w.heap.size + 1) 9 (.string s) := hsb1
      have hovd : Boxed w1.drew (w.heap.size + 2) 176 (.slice og CL.length oc) := hov1
      have hend : Boxed w1.drew (w.heap.size + 3) 3 (.int .i64 (Ce : Nat)) := hen1
      have cn : ∀ o, (w1.alloc o).cell? ⟨w.heap.size + 2, 0, none⟩ = some (.slice og CL.length oc) := fun o => (((Below.refl _ w1).alloc (Nat.le_refl _) o).cell (p := ⟨w.heap.size + 2, 0, none⟩) (World.block_lt_of_cell? w1 _ d2)).trans d2
      have cm : ∀ o, (w1.alloc o).drew.cell? ⟨w.heap.size + 2, 0, none⟩ = some (.slice og CL.length oc) := cn
      have hkod : KeepsOthers W w1.drew := ⟨hko.1, fun i o hi hc => hko.2 i o hi hc⟩
      have hknd : KeepsOn (fun b => b < w.heap.size ∨ b = w.heap.size + 4) W w1.drew := ⟨hkn.1, fun b hb => hkn.2 b hb⟩
      have hBd : Below w.heap.size w w1.drew := hB1.drew
      have hfa : (0 : Int) ≤ (j : Int) + 1 := by omega
      have hfb : (j : Int) + 1 ≤ (Ce : Int) := by omega
      gi_wp2_with fail
      by_cases hcj : c = j + 1
      · subst hcj
        have hfc : (Ce : Int) ≤ (j : Int) + 1 := by omega
        have hmap := hid (show CL.map (segV (some ⟨ab, ao, none⟩) (j + 1)) ++ [.slice (some ⟨ab, ao, none⟩) (Ce - (j + 1)) 0] = (CL ++ [(j + 1, Ce)]).map (segV (some ⟨ab, ao, none⟩) (j + 1)) by simp [segV])
        refine round_any (by kernel_rfl) (by kernel_rfl) (by rintro ⟨_, _, h⟩; exact h) ?_
        change wpAny _ _ _ _ _ _ _ (World.drew _)
        refine wpAny_take (i := 2) (v := .int .i64 (j : Nat)) rfl (by kernel_rfl) (by kernel_rfl) (by kernel_rfl) (fun _ _ _ h => h) (Or.inl ⟨by rfl, by intro w; (go_simp <;> first | with_reducible rfl | rw [hwr])⟩) ?_
        refine wpAny_take (i := 3) (v := .int .i64 ((j : Int) + 1)) rfl (by kernel_rfl) (by kernel_rfl) (by kernel_rfl) (fun _ _ _ h => h) (Or.inl ⟨by rfl, by intro w; (go_simp <;> first | with_reducible rfl | rw [hwr])⟩) ?_
        (refine wpAny_ready (rs := [0, 1, 4]) (by decide +kernel) (by simp) (AllReady.cons rfl (fun K hK => ?_) (AllReady.cons rfl (fun K hK => ?_) (AllReady.cons rfl (fun K hK => ?_) AllReady.nil))) <;> (go_simp; refine hK _ _ ?_; clear hK K))
        all_goals (first | (refine wpAny_ready (rs := [0]) (by decide +kernel) (by simp) (AllReady.cons rfl (fun K hK => ?_) AllReady.nil) <;> (go_simp; refine hK _ _ ?_; clear hK K)) | (refine wpAny_ready (rs := [1]) (by decide +kernel) (by simp) (AllReady.cons rfl (fun K hK => ?_) AllReady.nil) <;> (go_simp; refine hK _ _ ?_; clear hK K)) | (refine wpAny_ready (rs := [4]) (by decide +kernel) (by simp) (AllReady.cons rfl (fun K hK => ?_) AllReady.nil) <;> (go_simp; refine hK _ _ ?_; clear hK K)) | (refine wpAny_ready (rs := [5]) (by decide +kernel) (by simp) (AllReady.cons rfl (fun K hK => ?_) AllReady.nil) <;> (go_simp; refine hK _ _ ?_; clear hK K)) | (refine wpAny_ready (rs := [6]) (by decide +kernel) (by simp) (AllReady.cons rfl (fun K hK => ?_) AllReady.nil) <;> (go_simp; refine hK _ _ ?_; clear hK K)) | (refine wpAny_ready (rs := [0, 5]) (by decide +kernel) (by simp) (AllReady.cons rfl (fun K hK => ?_) (AllReady.cons rfl (fun K hK => ?_) AllReady.nil)) <;> (go_simp; refine hK _ _ ?_; clear hK K)) | (refine wpAny_ready (rs := [0, 6]) (by decide +kernel) (by simp) (AllReady.cons rfl (fun K hK => ?_) (AllReady.cons rfl (fun K hK => ?_) AllReady.nil)) <;> (go_simp; refine hK _ _ ?_; clear hK K)) | (refine wpAny_ready (rs := [0, 1]) (by decide +kernel) (by simp) (AllReady.cons rfl (fun K hK => ?_) (AllReady.cons rfl (fun K hK => ?_) AllReady.nil)) <;> (go_simp; refine hK _ _ ?_; clear hK K)) | (refine wpAny_ready (rs := [0, 4]) (by decide +kernel) (by simp) (AllReady.cons rfl (fun K hK => ?_) (AllReady.cons rfl (fun K hK => ?_) AllReady.nil)) <;> (go_simp; refine hK _ _ ?_; clear hK K)) | (refine wpAny_ready (rs := [1, 4]) (by decide +kernel) (by simp) (AllReady.cons rfl (fun K hK => ?_) (AllReady.cons rfl (fun K hK => ?_) AllReady.nil)) <;> (go_simp; refine hK _ _ ?_; clear hK K)))
        all_goals (first | (refine wpAny_ready (rs := [0]) (by decide +kernel) (by simp) (AllReady.cons rfl (fun K hK => ?_) AllReady.nil) <;> (go_simp; refine hK _ _ ?_; clear hK K)) | (refine wpAny_ready (rs := [1]) (by decide +kernel) (by simp) (AllReady.cons rfl (fun K hK => ?_) AllReady.nil) <;> (go_simp; refine hK _ _ ?_; clear hK K)) | (refine wpAny_ready (rs := [4]) (by decide +kernel) (by simp) (AllReady.cons rfl (fun K hK => ?_) AllReady.nil) <;> (go_simp; refine hK _ _ ?_; clear hK K)) | (refine wpAny_ready (rs := [5]) (by decide +kernel) (by simp) (AllReady.cons rfl (fun K hK => ?_) AllReady.nil) <;> (go_simp; refine hK _ _ ?_; clear hK K)) | (refine wpAny_ready (rs := [6]) (by decide +kernel) (by simp) (AllReady.cons rfl (fun K hK => ?_) AllReady.nil) <;> (go_simp; refine hK _ _ ?_; clear hK K)) | (refine wpAny_ready (rs := [0, 5]) (by decide +kernel) (by simp) (AllReady.cons rfl (fun K hK => ?_) (AllReady.cons rfl (fun K hK => ?_) AllReady.nil)) <;> (go_simp; refine hK _ _ ?_; clear hK K)) | (refine wpAny_ready (rs := [0, 6]) (by decide +kernel) (by simp) (AllReady.cons rfl (fun K hK => ?_) (AllReady.cons rfl (fun K hK => ?_) AllReady.nil)) <;> (go_simp; refine hK _ _ ?_; clear hK K)) | (refine wpAny_ready (rs := [0, 1]) (by decide +kernel) (by simp) (AllReady.cons rfl (fun K hK => ?_) (AllReady.cons rfl (fun K hK => ?_) AllReady.nil)) <;> (go_simp; refine hK _ _ ?_; clear hK K)) | (refine wpAny_ready (rs := [0, 4]) (by decide +kernel) (by simp) (AllReady.cons rfl (fun K hK => ?_) (AllReady.cons rfl (fun K hK => ?_) AllReady.nil)) <;> (go_simp; refine hK _ _ ?_; clear hK K)) | (refine wpAny_ready (rs := [1, 4]) (by decide +kernel) (by simp) (AllReady.cons rfl (fun K hK => ?_) (AllReady.cons rfl (fun K hK => ?_) AllReady.nil)) <;> (go_simp; refine hK _ _ ?_; clear hK K)))
        all_goals (first | (refine wpAny_ready (rs := [0]) (by decide +kernel) (by simp) (AllReady.cons rfl (fun K hK => ?_) AllReady.nil) <;> (go_simp; refine hK _ _ ?_; clear hK K)) | (refine wpAny_ready (rs := [1]) (by decide +kernel) (by simp) (AllReady.cons rfl (fun K hK => ?_) AllReady.nil) <;> (go_simp; refine hK _ _ ?_; clear hK K)) | (refine wpAny_ready (rs := [4]) (by decide +kernel) (by simp) (AllReady.cons rfl (fun K hK => ?_) AllReady.nil) <;> (go_simp; refine hK _ _ ?_; clear hK K)) | (refine wpAny_ready (rs := [5]) (by decide +kernel) (by simp) (AllReady.cons rfl (fun K hK => ?_) AllReady.nil) <;> (go_simp; refine hK _ _ ?_; clear hK K)) | (refine wpAny_ready (rs := [6]) (by decide +kernel) (by simp) (AllReady.cons rfl (fun K hK => ?_) AllReady.nil) <;> (go_simp; refine hK _ _ ?_; clear hK K)) | (refine wpAny_ready (rs := [0, 5]) (by decide +kernel) (by simp) (AllReady.cons rfl (fun K hK => ?_) (AllReady.cons rfl (fun K hK => ?_) AllReady.nil)) <;> (go_simp; refine hK _ _ ?_; clear hK K)) | (refine wpAny_ready (rs := [0, 6]) (by decide +kernel) (by simp) (AllReady.cons rfl (fun K hK => ?_) (AllReady.cons rfl (fun K hK => ?_) AllReady.nil)) <;> (go_simp; refine hK _ _ ?_; clear hK K)) | (refine wpAny_ready (rs := [0, 1]) (by decide +kernel) (by simp) (AllReady.cons rfl (fun K hK => ?_) (AllReady.cons rfl (fun K hK => ?_) AllReady.nil)) <;> (go_simp; refine hK _ _ ?_; clear hK K)) | (refine wpAny_ready (rs := [0, 4]) (by decide +kernel) (by simp) (AllReady.cons rfl (fun K hK => ?_) (AllReady.cons rfl (fun K hK => ?_) AllReady.nil)) <;> (go_simp; refine hK _ _ ?_; clear hK K)) | (refine wpAny_ready (rs := [1, 4]) (by decide +kernel) (by simp) (AllReady.cons rfl (fun K hK => ?_) (AllReady.cons rfl (fun K hK => ?_) AllReady.nil)) <;> (go_simp; refine hK _ _ ?_; clear hK K)))
        all_goals (first | (refine wpAny_ready (rs := [0]) (by decide +kernel) (by simp) (AllReady.cons rfl (fun K hK => ?_) AllReady.nil) <;> (go_simp; refine hK _ _ ?_; clear hK K)) | (refine wpAny_ready (rs := [1]) (by decide +kernel) (by simp) (AllReady.cons rfl (fun K hK => ?_) AllReady.nil) <;> (go_simp; refine hK _ _ ?_; clear hK K)) | (refine wpAny_ready (rs := [4]) (by decide +kernel) (by simp) (AllReady.cons rfl (fun K hK => ?_) AllReady.nil) <;> (go_simp; refine hK _ _ ?_; clear hK K)) | (refine wpAny_ready (rs := [5]) (by decide +kernel) (by simp) (AllReady.cons rfl (fun K hK => ?_) AllReady.nil) <;> (go_simp; refine hK _ _ ?_; clear hK K)) | (refine wpAny_ready (rs := [6]) (by decide +kernel) (by simp) (AllReady.cons rfl (fun K hK => ?_) AllReady.nil) <;> (go_simp; refine hK _ _ ?_; clear hK K)) | (refine wpAny_ready (rs := [0, 5]) (by decide +kernel) (by simp) (AllReady.cons rfl (fun K hK => ?_) (AllReady.cons rfl (fun K hK => ?_) AllReady.nil)) <;> (go_simp; refine hK _ _ ?_; clear hK K)) | (refine wpAny_ready (rs := [0, 6]) (by decide +kernel) (by simp) (AllReady.cons rfl (fun K hK => ?_) (AllReady.cons rfl (fun K hK => ?_) AllReady.nil)) <;> (go_simp; refine hK _ _ ?_; clear hK K)) | (refine wpAny_ready (rs := [0, 1]) (by decide +kernel) (by simp) (AllReady.cons rfl (fun K hK => ?_) (AllReady.cons rfl (fun K hK => ?_) AllReady.nil)) <;> (go_simp; refine hK _ _ ?_; clear hK K)) | (refine wpAny_ready (rs := [0, 4]) (by decide +kernel) (by simp) (AllReady.cons rfl (fun K hK => ?_) (AllReady.cons rfl (fun K hK => ?_) AllReady.nil)) <;> (go_simp; refine hK _ _ ?_; clear hK K)) | (refine wpAny_ready (rs := [1, 4]) (by decide +kernel) (by simp) (AllReady.cons rfl (fun K hK => ?_) (AllReady.cons rfl (fun K hK => ?_) AllReady.nil)) <;> (go_simp; refine hK _ _ ?_; clear hK K)))
        all_goals refine wpAny_ready (rs := [7]) (by decide +kernel) (by simp) (AllReady.cons rfl (fun K hK => ?_) AllReady.nil)
        all_goals refine step_append_lies _ (by rfl) _ _ _ (by rfl) (w.heap.size + 5) 23 i0 (.slice none 0 0) 1 24 Tryz.underlying176 hi hz0 hz1 hz2 rfl (by decide) (.slice og CL.length oc) CL.length (CL.map _) (by rfl) (hrd.alloc _) ⟨w1.heap.size, 0, none⟩ 1 1 [.slice (some ⟨ab, ao, none⟩) (Ce - (j + 1)) 0] (by rfl) (by rfl) (hone.out _) (by simp [Value.oneCell']) (by omega) (by simp [maxLen]; omega) (by omega) (by simp; omega) _ rfl ?_
        all_goals intro g' cap' w2 hown' hgrow hat hlt2
        all_goals obtain ⟨hr4, hk4, hb4, hoth, hbx, hkn4⟩ := append_put (B := w.heap.size + 2) (n₀ := w.heap.size) hrd hown' hgrow (by omega) hsz1 (by omega)
        all_goals have hv3 := (hbx _ hovd).1
        all_goals have hc3 := hv3.cell
        all_goals have hf3 := hv3.frozen
        all_goals (go_simp; refine hK _ _ ?_; clear hK K)
        all_goals refine wpAny_ready (rs := [8]) (by decide +kernel) (by simp) (AllReady.cons rfl (fun K hK => ?_) AllReady.nil) <;> (go_simp; refine hK _ _ ?_; clear hK K)
        all_goals refine wpAny_done (by decide +kernel) ?_ _
        all_goals clear hat hown' hgrow
        all_goals have hE3 := hoth _ _ _ (by omega) (by omega) hend
        all_goals have hV3 := hoth _ _ _ (by omega) (by omega) hvd
        all_goals have hS3 := hoth _ _ _ (by omega) (by omega) hsbd
        all_goals have hO3 := (hbx _ hovd).2
        all_goals have x1 := hE3.cell
        all_goals have x2 := hE3.frozen
        all_goals clear hc3 hf3 hv3 d0 d2 d3 e2 e3
        all_goals gi_wp2
        all_goals refine ⟨(hkod.trans (hk4.trans (KeepsOthers.setCell _ _ _))).from _, (hknd.trans _ _ _ (hkn4 _ (fun b hb => by omega))).setCell (by simp; omega) _, ⟨?_, (hBd.trans hb4).setCell (by simp; omega) _⟩⟩
        all_goals unfold partI
        all_goals rw [Q5.out]
        all_goals refine ⟨hV3.other (by omega) _, hS3.other (by omega) _, ⟨_, hO3.other (by omega) _, ?_⟩, hE3.set _, Nat.le_trans hsz1 (Nat.le_trans hb4.size (by simp [World.setCell]))⟩
        all_goals simp only [List.length_append, List.length_cons, List.length_nil]
        all_goals rw [← hmap.out]
        all_goals exact ownsRow_setCell_below hr4 (show w.heap.size + 3 < w.heap.size + 5 by omega) _

      · have hfc : (Ce : Int) ≤ (c : Int) := by omega
        have hmap := hid (show CL.map (segV (some ⟨ab, ao, none⟩) c) ++ [.slice (some ⟨ab, ao + (j + 1) * 5, none⟩) (Ce - (j + 1)) (c - (j + 1))] = (CL ++ [(j + 1, Ce)]).map (segV (some ⟨ab, ao, none⟩) c) by simp [segV, hcj])
        refine round_any (by kernel_rfl) (by kernel_rfl) (by rintro ⟨_, _, h⟩; exact h) ?_
        change wpAny _ _ _ _ _ _ _ (World.drew _)
        refine wpAny_take (i := 2) (v := .int .i64 (j : Nat)) rfl (by kernel_rfl) (by kernel_rfl) (by kernel_rfl) (fun _ _ _ h => h) (Or.inl ⟨by rfl, by intro w; (go_simp <;> first | with_reducible rfl | rw [hwr])⟩) ?_
        refine wpAny_take (i := 3) (v := .int .i64 ((j : Int) + 1)) rfl (by kernel_rfl) (by kernel_rfl) (by kernel_rfl) (fun _ _ _ h => h) (Or.inl ⟨by rfl, by intro w; (go_simp <;> first | with_reducible rfl | rw [hwr])⟩) ?_
        (refine wpAny_ready (rs := [0, 1, 4]) (by decide +kernel) (by simp) (AllReady.cons rfl (fun K hK => ?_) (AllReady.cons rfl (fun K hK => ?_) (AllReady.cons rfl (fun K hK => ?_) AllReady.nil))) <;> (go_simp; refine hK _ _ ?_; clear hK K))
        all_goals (first | (refine wpAny_ready (rs := [0]) (by decide +kernel) (by simp) (AllReady.cons rfl (fun K hK => ?_) AllReady.nil) <;> (go_simp; refine hK _ _ ?_; clear hK K)) | (refine wpAny_ready (rs := [1]) (by decide +kernel) (by simp) (AllReady.cons rfl (fun K hK => ?_) AllReady.nil) <;> (go_simp; refine hK _ _ ?_; clear hK K)) | (refine wpAny_ready (rs := [4]) (by decide +kernel) (by simp) (AllReady.cons rfl (fun K hK => ?_) AllReady.nil) <;> (go_simp; refine hK _ _ ?_; clear hK K)) | (refine wpAny_ready (rs := [5]) (by decide +kernel) (by simp) (AllReady.cons rfl (fun K hK => ?_) AllReady.nil) <;> (go_simp; refine hK _ _ ?_; clear hK K)) | (refine wpAny_ready (rs := [6]) (by decide +kernel) (by simp) (AllReady.cons rfl (fun K hK => ?_) AllReady.nil) <;> (go_simp; refine hK _ _ ?_; clear hK K)) | (refine wpAny_ready (rs := [0, 5]) (by decide +kernel) (by simp) (AllReady.cons rfl (fun K hK => ?_) (AllReady.cons rfl (fun K hK => ?_) AllReady.nil)) <;> (go_simp; refine hK _ _ ?_; clear hK K)) | (refine wpAny_ready (rs := [0, 6]) (by decide +kernel) (by simp) (AllReady.cons rfl (fun K hK => ?_) (AllReady.cons rfl (fun K hK => ?_) AllReady.nil)) <;> (go_simp; refine hK _ _ ?_; clear hK K)) | (refine wpAny_ready (rs := [0, 1]) (by decide +kernel) (by simp) (AllReady.cons rfl (fun K hK => ?_) (AllReady.cons rfl (fun K hK => ?_) AllReady.nil)) <;> (go_simp; refine hK _ _ ?_; clear hK K)) | (refine wpAny_ready (rs := [0, 4]) (by decide +kernel) (by simp) (AllReady.cons rfl (fun K hK => ?_) (AllReady.cons rfl (fun K hK => ?_) AllReady.nil)) <;> (go_simp; refine hK _ _ ?_; clear hK K)) | (refine wpAny_ready (rs := [1, 4]) (by decide +kernel) (by simp) (AllReady.cons rfl (fun K hK => ?_) (AllReady.cons rfl (fun K hK => ?_) AllReady.nil)) <;> (go_simp; refine hK _ _ ?_; clear hK K)))
        all_goals (first | (refine wpAny_ready (rs := [0]) (by decide +kernel) (by simp) (AllReady.cons rfl (fun K hK => ?_) AllReady.nil) <;> (go_simp; refine hK _ _ ?_; clear hK K)) | (refine wpAny_ready (rs := [1]) (by decide +kernel) (by simp) (AllReady.cons rfl (fun K hK => ?_) AllReady.nil) <;> (go_simp; refine hK _ _ ?_; clear hK K)) | (refine wpAny_ready (rs := [4]) (by decide +kernel) (by simp) (AllReady.cons rfl (fun K hK => ?_) AllReady.nil) <;> (go_simp; refine hK _ _ ?_; clear hK K)) | (refine wpAny_ready (rs := [5]) (by decide +kernel) (by simp) (AllReady.cons rfl (fun K hK => ?_) AllReady.nil) <;> (go_simp; refine hK _ _ ?_; clear hK K)) | (refine wpAny_ready (rs := [6]) (by decide +kernel) (by simp) (AllReady.cons rfl (fun K hK => ?_) AllReady.nil) <;> (go_simp; refine hK _ _ ?_; clear hK K)) | (refine wpAny_ready (rs := [0, 5]) (by decide +kernel) (by simp) (AllReady.cons rfl (fun K hK => ?_) (AllReady.cons rfl (fun K hK => ?_) AllReady.nil)) <;> (go_simp; refine hK _ _ ?_; clear hK K)) | (refine wpAny_ready (rs := [0, 6]) (by decide +kernel) (by simp) (AllReady.cons rfl (fun K hK => ?_) (AllReady.cons rfl (fun K hK => ?_) AllReady.nil)) <;> (go_simp; refine hK _ _ ?_; clear hK K)) | (refine wpAny_ready (rs := [0, 1]) (by decide +kernel) (by simp) (AllReady.cons rfl (fun K hK => ?_) (AllReady.cons rfl (fun K hK => ?_) AllReady.nil)) <;> (go_simp; refine hK _ _ ?_; clear hK K)) | (refine wpAny_ready (rs := [0, 4]) (by decide +kernel) (by simp) (AllReady.cons rfl (fun K hK => ?_) (AllReady.cons rfl (fun K hK => ?_) AllReady.nil)) <;> (go_simp; refine hK _ _ ?_; clear hK K)) | (refine wpAny_ready (rs := [1, 4]) (by decide +kernel) (by simp) (AllReady.cons rfl (fun K hK => ?_) (AllReady.cons rfl (fun K hK => ?_) AllReady.nil)) <;> (go_simp; refine hK _ _ ?_; clear hK K)))
        all_goals (first | (refine wpAny_ready (rs := [0]) (by decide +kernel) (by simp) (AllReady.cons rfl (fun K hK => ?_) AllReady.nil) <;> (go_simp; refine hK _ _ ?_; clear hK K)) | (refine wpAny_ready (rs := [1]) (by decide +kernel) (by simp) (AllReady.cons rfl (fun K hK => ?_) AllReady.nil) <;> (go_simp; refine hK _ _ ?_; clear hK K)) | (refine wpAny_ready (rs := [4]) (by decide +kernel) (by simp) (AllReady.cons rfl (fun K hK => ?_) AllReady.nil) <;> (go_simp; refine hK _ _ ?_; clear hK K)) | (refine wpAny_ready (rs := [5]) (by decide +kernel) (by simp) (AllReady.cons rfl (fun K hK => ?_) AllReady.nil) <;> (go_simp; refine hK _ _ ?_; clear hK K)) | (refine wpAny_ready (rs := [6]) (by decide +kernel) (by simp) (AllReady.cons rfl (fun K hK => ?_) AllReady.nil) <;> (go_simp; refine hK _ _ ?_; clear hK K)) | (refine wpAny_ready (rs := [0, 5]) (by decide +kernel) (by simp) (AllReady.cons rfl (fun K hK => ?_) (AllReady.cons rfl (fun K hK => ?_) AllReady.nil)) <;> (go_simp; refine hK _ _ ?_; clear hK K)) | (refine wpAny_ready (rs := [0, 6]) (by decide +kernel) (by simp) (AllReady.cons rfl (fun K hK => ?_) (AllReady.cons rfl (fun K hK => ?_) AllReady.nil)) <;> (go_simp; refine hK _ _ ?_; clear hK K)) | (refine wpAny_ready (rs := [0, 1]) (by decide +kernel) (by simp) (AllReady.cons rfl (fun K hK => ?_) (AllReady.cons rfl (fun K hK => ?_) AllReady.nil)) <;> (go_simp; refine hK _ _ ?_; clear hK K)) | (refine wpAny_ready (rs := [0, 4]) (by decide +kernel) (by simp) (AllReady.cons rfl (fun K hK => ?_) (AllReady.cons rfl (fun K hK => ?_) AllReady.nil)) <;> (go_simp; refine hK _ _ ?_; clear hK K)) | (refine wpAny_ready (rs := [1, 4]) (by decide +kernel) (by simp) (AllReady.cons rfl (fun K hK => ?_) (AllReady.cons rfl (fun K hK => ?_) AllReady.nil)) <;> (go_simp; refine hK _ _ ?_; clear hK K)))
        all_goals (first | (refine wpAny_ready (rs := [0]) (by decide +kernel) (by simp) (AllReady.cons rfl (fun K hK => ?_) AllReady.nil) <;> (go_simp; refine hK _ _ ?_; clear hK K)) | (refine wpAny_ready (rs := [1]) (by decide +kernel) (by simp) (AllReady.cons rfl (fun K hK => ?_) AllReady.nil) <;> (go_simp; refine hK _ _ ?_; clear hK K)) | (refine wpAny_ready (rs := [4]) (by decide +kernel) (by simp) (AllReady.cons rfl (fun K hK => ?_) AllReady.nil) <;> (go_simp; refine hK _ _ ?_; clear hK K)) | (refine wpAny_ready (rs := [5]) (by decide +kernel) (by simp) (AllReady.cons rfl (fun K hK => ?_) AllReady.nil) <;> (go_simp; refine hK _ _ ?_; clear hK K)) | (refine wpAny_ready (rs := [6]) (by decide +kernel) (by simp) (AllReady.cons rfl (fun K hK => ?_) AllReady.nil) <;> (go_simp; refine hK _ _ ?_; clear hK K)) | (refine wpAny_ready (rs := [0, 5]) (by decide +kernel) (by simp) (AllReady.cons rfl (fun K hK => ?_) (AllReady.cons rfl (fun K hK => ?_) AllReady.nil)) <;> (go_simp; refine hK _ _ ?_; clear hK K)) | (refine wpAny_ready (rs := [0, 6]) (by decide +kernel) (by simp) (AllReady.cons rfl (fun K hK => ?_) (AllReady.cons rfl (fun K hK => ?_) AllReady.nil)) <;> (go_simp; refine hK _ _ ?_; clear hK K)) | (refine wpAny_ready (rs := [0, 1]) (by decide +kernel) (by simp) (AllReady.cons rfl (fun K hK => ?_) (AllReady.cons rfl (fun K hK => ?_) AllReady.nil)) <;> (go_simp; refine hK _ _ ?_; clear hK K)) | (refine wpAny_ready (rs := [0, 4]) (by decide +kernel) (by simp) (AllReady.cons rfl (fun K hK => ?_) (AllReady.cons rfl (fun K hK => ?_) AllReady.nil)) <;> (go_simp; refine hK _ _ ?_; clear hK K)) | (refine wpAny_ready (rs := [1, 4]) (by decide +kernel) (by simp) (AllReady.cons rfl (fun K hK => ?_) (AllReady.cons rfl (fun K hK => ?_) AllReady.nil)) <;> (go_simp; refine hK _ _ ?_; clear hK K)))
        all_goals refine wpAny_ready (rs := [7]) (by decide +kernel) (by simp) (AllReady.cons rfl (fun K hK => ?_) AllReady.nil)
        all_goals refine step_append_lies _ (by rfl) _ _ _ (by rfl) (w.heap.size + 5) 23 i0 (.slice none 0 0) 1 24 Tryz.underlying176 hi hz0 hz1 hz2 rfl (by decide) (.slice og CL.length oc) CL.length (CL.map _) (by rfl) (hrd.alloc _) ⟨w1.heap.size, 0, none⟩ 1 1 [.slice (some ⟨ab, ao + (j + 1) * 5, none⟩) (Ce - (j + 1)) (c - (j + 1))] (by rfl) (by rfl) (hone.out _) (by simp [Value.oneCell']) (by omega) (by simp [maxLen]; omega) (by omega) (by simp; omega) _ rfl ?_
        all_goals intro g' cap' w2 hown' hgrow hat hlt2
        all_goals obtain ⟨hr4, hk4, hb4, hoth, hbx, hkn4⟩ := append_put (B := w.heap.size + 2) (n₀ := w.heap.size) hrd hown' hgrow (by omega) hsz1 (by omega)
        all_goals have hv3 := (hbx _ hovd).1
        all_goals have hc3 := hv3.cell
        all_goals have hf3 := hv3.frozen
        all_goals (go_simp; refine hK _ _ ?_; clear hK K)
        all_goals refine wpAny_ready (rs := [8]) (by decide +kernel) (by simp) (AllReady.cons rfl (fun K hK => ?_) AllReady.nil) <;> (go_simp; refine hK _ _ ?_; clear hK K)
        all_goals refine wpAny_done (by decide +kernel) ?_ _
        all_goals clear hat hown' hgrow
        all_goals have hE3 := hoth _ _ _ (by omega) (by omega) hend
        all_goals have hV3 := hoth _ _ _ (by omega) (by omega) hvd
        all_goals have hS3 := hoth _ _ _ (by omega) (by omega) hsbd
        all_goals have hO3 := (hbx _ hovd).2
        all_goals have x1 := hE3.cell
        all_goals have x2 := hE3.frozen
        all_goals clear hc3 hf3 hv3 d0 d2 d3 e2 e3
        all_goals gi_wp2
        all_goals refine ⟨(hkod.trans (hk4.trans (KeepsOthers.setCell _ _ _))).from _, (hknd.trans _ _ _ (hkn4 _ (fun b hb => by omega))).setCell (by simp; omega) _, ⟨?_, (hBd.trans hb4).setCell (by simp; omega) _⟩⟩
        all_goals unfold partI
        all_goals rw [Q5.out]
        all_goals refine ⟨hV3.other (by omega) _, hS3.other (by omega) _, ⟨_, hO3.other (by omega) _, ?_⟩, hE3.set _, Nat.le_trans hsz1 (Nat.le_trans hb4.size (by simp [World.setCell]))⟩
        all_goals simp only [List.length_append, List.length_cons, List.length_nil]
        all_goals rw [← hmap.out]
        all_goals exact ownsRow_setCell_below hr4 (show w.heap.size + 3 < w.heap.size + 5 by omega) _

  case refine_1 => exact ⟨h.size, fun i o _ hi _ => (h.block i (Array.getElem?_eq_some_iff.1 hi).1).trans hi⟩
  case refine_2 => exact ⟨partI_below h.1 hm, h.2.trans (hm.mono h.2.size)⟩
  case done =>
    rintro D W hD ⟨⟨hv, hsb, ⟨ov, hov, hrow⟩, hen, hsz⟩, hB⟩ _ hK
    rw [List.take_of_length_le (Nat.le_refl _)] at hrow hen
    obtain ⟨og, oc, rfl⟩ := own_slice hrow
    have hpc := hid (parts_cut l g)
    have hce := (cut_inv l g l.length (Nat.le_refl _)).2.1
    have hcl := cut_len l g (freeL l) (l.length, [])
    have hfl := freeTo_len l l.length
    change (cutSt l g (freeL l)).2.length ≤ 0 + (freeTo l l.length).length at hcl
    change (cutSt l g (freeL l)).1 ≤ l.length at hce
    have d0 := hv.cell
    have d2 := hov.cell
    have d3 := hen.cell
    have e2 := hov.frozen
    generalize hC : cutSt l g (freeL l) = C at *
    have HC := hid hC
    clear hC
    obtain ⟨Ce, CL⟩ := C
    simp only at hrow hen d3
    simp only at hov d2 hce hcl
    have hCl : Ce ≤ l.length ∧ CL.length ≤ l.length := by omega
    have hfc : (Ce : Int) ≤ (c : Int) := by omega
    have hfa : (0 : Int) ≤ (Ce : Int) := by omega
    have cn : ∀ o, (W.alloc o).cell? ⟨w.heap.size + 2, 0, none⟩ = some (.slice og CL.length oc) := fun o => (((Below.refl _ W).alloc (Nat.le_refl _) o).cell (p := ⟨w.heap.size + 2, 0, none⟩) (World.block_lt_of_cell? W _ d2)).trans d2
    have cm : ∀ o, (W.alloc o).drew.cell? ⟨w.heap.size + 2, 0, none⟩ = some (.slice og CL.length oc) := cn
    have hone := hid (fun x => one_new W.drew x 23)
    have hrd : W.drew.ownsRow (w.heap.size + 5) 23 1 (.slice og CL.length oc) CL.length (CL.map (segV a c)) := hrow
    clear hrow
    go_wp2_with fail
    first | go_region_law (
      refine step_append_lies _ (by rfl) _ _ _ (by rfl) (w.heap.size + 5) 23 i0 (.slice none 0 0) 1 24 Tryz.underlying176 hi hz0 hz1 hz2 rfl (by decide) (.slice og CL.length oc) CL.length (CL.map (segV a c)) (by rfl) (hrd.alloc _) ⟨W.heap.size, 0, none⟩ 1 1 [.slice a Ce c] (by rfl) (by rfl) (hone.out _) (by simp [Value.oneCell']) (by omega) (by simp [maxLen]; omega) (by omega) (by simp; omega) _ rfl ?_
      intro g' cap' w2 hown' hgrow hat hlt2
      obtain ⟨hr4, hk4, hb4, hoth, hbx, hkn4⟩ := append_put (B := w.heap.size + 2) (n₀ := w.heap.size) hrd hown' hgrow (by omega) hsz (by omega)
      have hv3 := (hbx _ (show Boxed W.drew (w.heap.size + 2) 176 (.slice og CL.length oc) from hov)).1
      have hc3 := hv3.cell
      have hf3 := hv3.frozen) | fail
    all_goals have hO3 := (hbx _ (show Boxed W.drew (w.heap.size + 2) 176 (.slice og CL.length oc) from hov)).2
    all_goals have x1 := hO3.cell
    all_goals have hrev := reverse_own _ _ g' (CL.length + 1) cap' _ hr4 (by
      intro x hx
      rw [List.mem_append] at hx
      rcases hx with hx | hx
      · obtain ⟨p, -, rfl⟩ := List.mem_map.1 hx; exact ⟨_, _, _, rfl⟩
      · rw [List.mem_singleton] at hx; exact ⟨_, _, _, hx⟩)
    all_goals clear hat hown' hgrow hc3 hf3 hv3 d0 d2 d3 e2 cn cm hbx hoth hkn4
    all_goals go_wp2_with fail
    all_goals refine hrev.mono ?_
    all_goals rintro e w4 ⟨⟨u, rfl⟩, hF, hr5⟩
    all_goals have hge := (hr4.lt g' rfl).1
    all_goals have hD3 := hk4.2 D _ hK rfl
    all_goals obtain ⟨cs, fz, hcs⟩ := own_cells hr4
    all_goals have hne : D ≠ g' := fun e => by rw [e, hcs] at hD3; cases hD3
    all_goals clear hcs
    all_goals have hO4 := (hF.block _ hO3.lt (by omega)).trans hO3
    all_goals have hK4 := (hF.block D (Array.getElem?_eq_some_iff.1 hD3).1 hne).trans hD3
    all_goals have hB4 := (hB.drew.trans hb4).trans (⟨hF.os, hF.tape, hF.output, hF.size, fun k hk => hF.block k (by have := hb4.size; have := hB.size; simp at *; omega) (by omega)⟩ : Below w.heap.size _ w4)
    all_goals replace hK := hK4
    all_goals have x4 := (show Boxed w4 (w.heap.size + 2) 176 _ from hO4).cell
    all_goals clear hO4 hO3 x1 hrev hK4 hD3 hr4 hk4 hb4 hF
    all_goals go_wp2
    all_goals try rw [Exit.noGoto_ret]
    all_goals refine post_mark hK (results_tmp rfl _ _ _) ?_
    all_goals refine ⟨⟨a, c, Ce, CL, _, rfl, rfl, HC.out, ?_⟩, below_putObj hB4 (by simp at hD; omega) _⟩
    all_goals rw [segs_last]
    all_goals exact owns_mono (owns_turn hr5 (grownBy_putObj' w4 D (.deferred none)) (fun r e => by cases e; exact ⟨_, hK, rfl⟩)) (by omega)
end Go.Proofs.YthlingdlehdlhaaGreatDoor.Par

namespace Go.Proofs.YthlingdlehdlhaaGreatDoor.Par
open Go.RowKit Go.Shelf
set_option linter.unusedVariables false
set_option linter.unusedSimpArgs false

theorem IsToks.noBool {w : World} {v : Value} {l : List Tok} (h : IsToks w v l) : ∀ b, v ≠ .bool b := by
  obtain ⟨a, cap, rfl, -⟩ := h; intro b e; cases e
/-- A list of lists of tokens, in memory. -/
def IsRows (w : World) (v : Value) (ls : List (List Tok)) : Prop :=
  ∃ a c, v = .slice a ls.length c ∧ ls.length ≤ c ∧ c ≤ 9223372036854775807 ∧ ∀ k l, ls[k]? = some l → ∃ b o x, a = some ⟨b, o, none⟩ ∧ w.cell? ⟨b, o + k, none⟩ = some x ∧ IsToks w x l
theorem cut_bounds (l : List Tok) (g : List UInt8) : ∀ k, k ≤ l.length → ∀ p ∈ (cutSt l g (freeTo l k)).2, p.1 ≤ p.2 ∧ p.2 ≤ l.length := by
  intro k
  induction k with
  | zero => intro _ p hp; rw [show (cutSt l g (freeTo l 0)).2 = [] from rfl] at hp; cases hp
  | succ k ih =>
    intro hk p hp
    obtain ⟨h1, h2, -⟩ := cut_inv l g k (by omega)
    obtain ⟨t, ht⟩ : ∃ t, l[l.length - 1 - k]? = some t := ⟨_, List.getElem?_eq_getElem (by omega)⟩
    rw [freeTo] at hp
    split at hp
    · rw [cutSt_snoc l g _ _ t ht] at hp
      split at hp
      · simp only [List.mem_append, List.mem_singleton] at hp
        rcases hp with hp | rfl
        · exact ih (by omega) p hp
        · exact ⟨by simp only; omega, h2⟩
      · exact ih (by omega) p hp
    · rw [List.append_nil] at hp; exact ih (by omega) p hp
theorem seg_get {l : List Tok} {p : Nat × Nat} {k : Nat} {t : Tok} (h : (seg l p)[k]? = some t) : p.1 + k < p.2 ∧ l[p.1 + k]? = some t := by
  unfold seg at h
  rw [List.getElem?_drop, List.getElem?_take] at h
  split at h
  · exact ⟨by assumption, h⟩
  · cases h
theorem seg_len {l : List Tok} {p : Nat × Nat} (h2 : p.2 ≤ l.length) : (seg l p).length = p.2 - p.1 := by
  unfold seg; rw [List.length_drop, List.length_take]; omega
/-- A piece of a slice of tokens reads as the piece of the list. -/
theorem segV_toks {w : World} {a : Option Addr} {c : Nat} {l : List Tok} (h : IsToks w (.slice a l.length c) l) {p : Nat × Nat} (h1 : p.1 ≤ p.2) (h2 : p.2 ≤ l.length) : IsToks w (segV a c p) (seg l p) := by
  obtain ⟨a', c', e, k1, k2, k3, k4⟩ := h
  simp only [Value.slice.injEq, true_and] at e
  obtain ⟨rfl, rfl⟩ := e
  refine ⟨_, _, by unfold segV; rw [seg_len h2], by rw [seg_len h2]; omega, by omega, fun hn => ?_, fun k t hk => ?_⟩
  · by_cases hc : c = p.1
    · omega
    · rw [if_neg hc] at hn
      cases a with
      | none => have := k3 rfl; omega
      | some x => cases hn
  · obtain ⟨q1, q2⟩ := seg_get hk
    obtain ⟨b, o, vs, ve, rfl, e2, e3, e4, e5⟩ := k4 _ t q2
    refine ⟨b, o + p.1 * 5, vs, ve, ?_, ?_, e3, e4, e5⟩
    · rw [if_neg (by omega)]; rfl
    · rw [show o + p.1 * 5 + k * 5 = o + (p.1 + k) * 5 by omega]; exact e2
/-- A row of pieces reads as the list of the pieces. -/
theorem IsRows.of_own {w : World} {base : Nat} {ov : Value} {a : Option Addr} {c m : Nat} {l : List Tok} {ps : List (Nat × Nat)} (h : w.ownsRow base 23 1 ov m (ps.map (segV a c)).reverse)
    (hp : ∀ p ∈ ps, p.1 ≤ p.2 ∧ p.2 ≤ l.length) (hl : IsToks w (.slice a l.length c) l) (hm : m = ps.length) (hne : 0 < m) : IsRows w ov ((ps.map (seg l)).reverse) := by
  have hlen : (List.map (seg l) ps).reverse.length = m := by simp [hm]
  obtain ⟨h1, ⟨rfl, h2⟩ | ⟨g, cap, cur, rfl, h3, h4, h5, h6, h7, h8⟩⟩ := h
  · omega
  · refine ⟨some ⟨g, 0, none⟩, cap, by rw [hlen], by rw [hlen]; exact h5, by unfold maxLen at h6; omega, fun k x hk => ?_⟩
    rw [← List.map_reverse, List.getElem?_map, Option.map_eq_some_iff] at hk
    obtain ⟨p, hk, rfl⟩ := hk
    have hpm : p ∈ ps := List.mem_reverse.1 (List.mem_of_getElem? hk)
    obtain ⟨q1, q2⟩ := hp p hpm
    refine ⟨g, 0, segV a c p, rfl, ?_, segV_toks hl q1 q2⟩
    rw [Lib.cell_of_heap h4, Nat.zero_add]
    have hx : ((ps.map (segV a c)).reverse)[k]? = some (segV a c p) := by rw [← List.map_reverse, List.getElem?_map, hk]; rfl
    rw [← h8, List.getElem?_take] at hx
    split at hx
    · simpa using hx
    · cases hx
theorem parts_rows (v : Value) (l : List Tok) (g : List UInt8) (s : ByteArray) (hs : s = bs g) (w : World) (hl : IsToks w v l) (hlen : l.length ≤ 8000000) :
    Calls Tryz.prog 133 #[v, .string s] w fun e w' => (∃ ov, e = .returned ov ∧ IsRows w' ov (partsF l g)) ∧ Below w.heap.size w w' := by
  refine (parts_any v l g s hs w hl hlen).mono ?_
  rintro e w' ⟨⟨a, c, Ce, CL, ov, rfl, rfl, hC, hr⟩, hB⟩
  refine ⟨⟨ov, rfl, ?_⟩, hB⟩
  have hb : ∀ p ∈ CL ++ [(0, Ce)], p.1 ≤ p.2 ∧ p.2 ≤ l.length := by
    have b1 := cut_bounds l g l.length (Nat.le_refl _)
    have b2 := (cut_inv l g l.length (Nat.le_refl _)).2.1
    unfold freeL at hC
    rw [hC] at b1 b2
    intro p hp
    simp only [List.mem_append, List.mem_singleton] at hp
    rcases hp with hp | rfl
    · exact b1 p hp
    · exact ⟨Nat.zero_le _, b2⟩
  rw [parts_cut, hC]
  exact IsRows.of_own hr hb (hl.below hB) (by simp) (by omega)
theorem parts_rows2 (v : Value) (l : List Tok) (g : List UInt8) (s : ByteArray) (hs : s = bs g) (w : World) (hl : IsToks w v l) (hlen : l.length ≤ 8000000) :
    Calls Tryz.prog 133 #[v, .string s] w fun e w' => (∃ ov, e = .returned ov ∧ IsRows w' ov (partsF l g) ∧ ∀ k, ov.ownBlock = some k → w.heap.size ≤ k) ∧ Below w.heap.size w w' := by
  refine (parts_any v l g s hs w hl hlen).mono ?_
  rintro e w' ⟨⟨a, c, Ce, CL, ov, rfl, rfl, hC, hr⟩, hB⟩
  refine ⟨⟨ov, rfl, ?_, fun k hk => (hr.lt k hk).1⟩, hB⟩
  have hb : ∀ p ∈ CL ++ [(0, Ce)], p.1 ≤ p.2 ∧ p.2 ≤ l.length := by
    have b1 := cut_bounds l g l.length (Nat.le_refl _)
    have b2 := (cut_inv l g l.length (Nat.le_refl _)).2.1
    unfold freeL at hC
    rw [hC] at b1 b2
    intro p hp
    simp only [List.mem_append, List.mem_singleton] at hp
    rcases hp with hp | rfl
    · exact b1 p hp
    · exact ⟨Nat.zero_le _, b2⟩
  rw [parts_cut, hC]
  exact IsRows.of_own hr hb (hl.below hB) (by simp) (by omega)
/-- The glyphs' tables. -/
structure Gly (w : World) : Prop where
  a : Strs w (.slice (some ⟨2, 0, none⟩) 18 18) ((([] : List UInt8) :: glyph12).map bs)
  b : Strs w (.slice (some ⟨1, 0, none⟩) 12 12) (mixedG.map bs)
theorem Gly.soft {w w' : World} (h : Gly w) (hs : Soft w w') : Gly w' := ⟨Strs.soft h.a hs, Strs.soft h.b hs⟩
theorem Gly.below {w w' : World} (h : Gly w) (hb : Below w.heap.size w w') : Gly w' := h.soft (Soft.of_below hb)
end Go.Proofs.YthlingdlehdlhaaGreatDoor.Par
