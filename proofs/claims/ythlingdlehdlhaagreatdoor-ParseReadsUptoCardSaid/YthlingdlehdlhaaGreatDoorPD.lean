/- parse: whether brackets match, by definition. Plain.
   parse: whether brackets match, walked.
   parse: the name that a text gives a value. -/
import Derived.Test.YthlingdlehdlhaaGreatDoorPB
namespace Go.Proofs.YthlingdlehdlhaaGreatDoor.Par
open Go.RowKit Go.Shelf
set_option linter.unusedVariables false
set_option linter.unusedSimpArgs false

/-- From the start on: the brackets that are open (the last one stands first), and how many stand within one another. -/
def matchF : List Int → Nat → List Tok → Option (List Int × Nat)
  | st, d, [] => some (st, d)
  | st, d, t :: r =>
    if brk t < 0 then matchF st d r
    else if isOpen t = true then matchF (brk t :: st) (max d (st.length + 1)) r
    else if st.head? = some (brk t) then matchF st.tail d r else none
def matchedF (l : List Tok) : Int × Bool := match matchF [] 0 l with | none => (0, false) | some (st, d) => ((d : Int), st.isEmpty)
theorem matchF_sum : ∀ (l : List Tok) (st : List Int) (d : Nat) (st' : List Int) (d' : Nat), matchF st d l = some (st', d') → S l = (st.length : Int) - st'.length ∧ ∀ k, 0 ≤ S (l.drop k) + st'.length := by
  intro l
  induction l with
  | nil =>
    intro st d st' d' h
    rw [matchF] at h
    injection h with h; injection h with h1 h2; subst h1
    exact ⟨by simp [S], fun k => by simp [S]⟩
  | cons t r ih =>
    intro st d st' d' h
    have hw := brk_wt t
    have key : ∀ (s2 : List Int) (d2 : Nat), matchF s2 d2 r = some (st', d') → (s2.length : Int) + wt t = st.length → S (t :: r) = (st.length : Int) - st'.length ∧ ∀ k, 0 ≤ S ((t :: r).drop k) + st'.length := by
      intro s2 d2 h2 e
      obtain ⟨a1, a2⟩ := ih s2 d2 st' d' h2
      have hz : S (t :: r) = (st.length : Int) - st'.length := by rw [S]; omega
      refine ⟨hz, fun k => ?_⟩
      cases k with
      | zero => rw [List.drop_zero, hz]; omega
      | succ k => rw [List.drop_succ_cons]; exact a2 k
    rw [matchF] at h
    split at h
    · rename_i hc
      rw [if_neg (by omega)] at hw
      exact key _ _ h (by omega)
    · rename_i hc
      rw [if_pos (by omega)] at hw
      split at h
      · rename_i ho
        rw [if_pos ho] at hw
        exact key _ _ h (by rw [List.length_cons]; omega)
      · rename_i ho
        rw [if_neg ho] at hw
        split at h
        · rename_i hh
          obtain ⟨st2, rfl⟩ := List.head?_eq_some_iff.1 hh
          exact key _ _ h (by rw [List.tail_cons, List.length_cons]; omega)
        · cases h
/-- Brackets that match sum up. -/
theorem match_dyck {l : List Tok} {d : Int} (h : matchedF l = (d, true)) : Dyck l := by
  unfold matchedF at h
  split at h
  · cases h
  · rename_i st d' he
    have hst : st = [] := by
      have := congrArg Prod.snd h
      simpa using this
    subst hst
    obtain ⟨h1, h2⟩ := matchF_sum l [] 0 [] d' he
    refine ⟨by simpa using h1, fun k => ?_⟩
    have := h2 k; simpa using this
theorem matchF_append : ∀ (a b : List Tok) (st : List Int) (d : Nat), matchF st d (a ++ b) = (matchF st d a).bind fun p => matchF p.1 p.2 b := by
  intro a
  induction a with
  | nil => intro b st d; rfl
  | cons t r ih =>
    intro b st d
    rw [List.cons_append, matchF, matchF]
    split
    · exact ih _ _ _
    · split
      · exact ih _ _ _
      · split
        · exact ih _ _ _
        · rfl
end Go.Proofs.YthlingdlehdlhaaGreatDoor.Par

namespace Go.Proofs.YthlingdlehdlhaaGreatDoor.Par
open Go.RowKit Go.Shelf
set_option linter.unusedVariables false
set_option linter.unusedSimpArgs false

theorem owns_cut {w : World} {base : Nat} {T : TypeId} {a : Option Addr} {n c : Nat} {xs : List Value} (h : w.ownsRow base T 1 (.slice a n c) n xs) {m : Nat} (hm : m ≤ n) : w.ownsRow base T 1 (.slice a m c) m (xs.take m) := by
  obtain ⟨h1, ⟨h2, h3⟩ | ⟨g, cap, cur, e, h4, h5, h6, h7, h8, h9⟩⟩ := h
  · simp only [Value.slice.injEq] at h2
    obtain ⟨rfl, -, rfl⟩ := h2
    have hz : m = 0 := by omega
    subst hz
    exact ⟨by simp, .inl ⟨rfl, rfl⟩⟩
  · simp only [Value.slice.injEq, true_and] at e
    obtain ⟨rfl, rfl⟩ := e
    refine ⟨by rw [List.length_take, h1]; omega, .inr ⟨g, c, cur, rfl, h4, h5, by omega, h7, h8, ?_⟩⟩
    rw [← h9, List.take_take, Nat.mul_one, Nat.mul_one, Nat.min_eq_left hm]
theorem own_grow {w A C : World} {base : Nat} {T : TypeId} {n : Nat} {v : Value} {xs : List Value} (h : Below base w A) (ho : A.ownsRow base T 1 v n xs) (hg : A.grownBy C v.ownBlock) (hb : base ≤ A.heap.size) : Below base w C :=
  ⟨hg.os.trans h.os, hg.tape.trans h.tape, hg.output.trans h.output, Nat.le_trans h.size hg.size, fun k hk => (hg.block k (by omega) (fun e => by have := (ho.lt k e.symm).1; omega)).trans (h.block k hk)⟩
set_option maxRecDepth 100000 in
set_option maxHeartbeats 4000000 in
theorem matched_any (v : Value) (l : List Tok) (w : World) (hl : IsToks w v l) (hlen : l.length ≤ 8000000) :
    Calls Tryz.prog 33 #[v] w fun e w' => e = .returned (.tuple #[.int .i64 (matchedF l).1, .bool (matchedF l).2]) ∧ Below w.heap.size w w' := by
  obtain ⟨i0, hi, hz0, hz1, hz2⟩ := info_parts (show (Tryz.prog.info? 3).map (fun i => (i.zero, i.size, i.bytes)) = some (some (.int .i64 0), 1, 8) by kernel_rfl)
  obtain ⟨a, c, rfl, k1, k2, k3, k4⟩ := hl
  go_enter Tryz.func33, Tryz.ntmps33
  go_wp2_with fail
  go_loopw [2, 4, 12] (fun vd vo vi wr => ∃ (k d : Nat) (st : List Int), k ≤ l.length ∧ vi = .int .i64 k ∧ vd = .int .i64 (d : Nat) ∧ d ≤ k ∧ st.length ≤ k ∧ wr.ownsRow w.heap.size 3 1 vo st.length (st.reverse.map (.int .i64)) ∧ Below w.heap.size w wr ∧ Hid (matchF [] 0 l = matchF st d (l.drop k)))
    (fun _ _ vi _ => l.length - (intOf vi).toNat)
  case atStart => exact ⟨0, 0, [], Nat.zero_le _, rfl, rfl, Nat.le_refl _, Nat.le_refl _, World.ownsRow_nil _ _ _ _, Below.refl _ _, hid rfl⟩
  case round =>
    obtain ⟨k, d, st, hk, rfl, rfl, hd, hst, hrow, hB, HM⟩ := hrel
    obtain ⟨av, cv, rfl⟩ := own_slice hrow
    by_cases hlt : k < l.length
    · obtain ⟨t, ht⟩ : ∃ t, l[k]? = some t := ⟨_, List.getElem?_eq_getElem hlt⟩
      obtain ⟨b, o, vs, ve, rfl, ⟨c0, c1, c2, c3, c4⟩, i1, i2, i3⟩ := k4 k t ht
      obtain ⟨sa, sc, rfl, -⟩ := i1.parts
      obtain ⟨ea, ec, rfl, -⟩ := i2.parts
      replace c0 := (hB.cell (World.block_lt_of_cell? w _ c0)).trans c0
      replace c1 := (hB.cell (World.block_lt_of_cell? w _ c1)).trans c1
      replace c2 := (hB.cell (World.block_lt_of_cell? w _ c2)).trans c2
      replace c3 := (hB.cell (World.block_lt_of_cell? w _ c3)).trans c3
      replace c4 := (hB.cell (World.block_lt_of_cell? w _ c4)).trans c4
      have hki : (k : Int) < (l.length : Int) := by omega
      have hdr : l.drop k = t :: l.drop (k + 1) := by
        obtain ⟨hl, e⟩ := List.getElem?_eq_some_iff.1 ht
        rw [List.drop_eq_getElem_cons hl, e]
      have HM2 := HM.out
      rw [hdr, matchF] at HM2
      have hbr := bracket_any t (.slice sa t.val.shape.length sc) (.slice ea t.val.elems.length ec)
      generalize brk t = kb at *
      generalize isOpen t = ob at *
      have hA := hB.alloc hB.size (.cells #[.int .i64 t.kind, .string (bs t.txt), .int .i64 t.val.kind, .slice sa t.val.shape.length sc, .slice ea t.val.elems.length ec] 48)
      have hrowA := hrow.alloc (.cells #[.int .i64 t.kind, .string (bs t.txt), .int .i64 t.val.kind, .slice sa t.val.shape.length sc, .slice ea t.val.elems.length ec] 48)
      clear k4 i1 i2 i3 hdr ht HM
      go_wp2_with fail
      refine (hbr _).mono ?_
      rintro e w1 ⟨rfl, b1⟩
      have hrow1 := owns_below hrowA b1
      have hB1 := hA.trans (b1.mono hA.size)
      clear hrow hrowA hA b1 hB hbr c0 c1 c2 c3 c4
      by_cases hk0 : kb < 0
      · have HM3 := hid HM2
        have hkd : decide (kb < 0) = true := by simpa using hk0
        rw [if_pos hk0] at HM3
        clear HM2 hk0
        go_wp2_with fail
        go_roundw
        case rel => exact ⟨k + 1, d, st, by omega, by go_num, rfl, by omega, by omega, hrow1, hB1, HM3⟩
        case measure => simp [intOf]; omega
      · have hkd : decide (kb < 0) = false := by simpa using hk0
        rw [if_neg hk0] at HM2
        clear hk0
        cases ob
        · -- one that closes
          rw [if_neg (by simp)] at HM2
          cases st with
          | nil =>
            have HM3 := hid (show matchedF l = (0, false) by unfold matchedF; rw [HM2]; rfl)
            clear HM2
            go_wp2_with fail
            refine bodyPost_ret (results_tmp2 rfl _ _ _) rfl ?_
            exact ⟨by rw [HM3.out]; rfl, hB1⟩
          | cons x st =>
            simp only [List.head?_cons, Option.some.injEq, List.tail_cons] at HM2
            have hio := Ints.of_owns (xs := (x :: st).reverse) (by rw [List.length_reverse]; exact hrow1)
            obtain ⟨bb, oo, rfl, hcx⟩ := hio.cell st.length (by simp)
            have hcv : (st.length : Int) ≤ (cv : Int) := by
              obtain ⟨a', c', e', q1, -⟩ := hio
              simp only [Value.slice.injEq] at e'
              obtain ⟨-, -, rfl⟩ := e'
              simp at q1; omega
            have hnn : (0 : Int) ≤ (st.length : Int) := by omega
            simp only [List.length_cons] at hst hrow1 ⊢
            clear hio
            have hget : ((x :: st).reverse)[st.length]?.getD 0 = x := by simp
            rw [hget] at hcx
            have hn1 : IntKind.i64.wrap (((st.length + 1 : Nat) : Int) - 1) = (st.length : Int) := by rw [show ((st.length + 1 : Nat) : Int) - 1 = (st.length : Int) by omega]; exact IntWalk.i64_in _ (by omega)
            have hn2 : ((st.length + 1 : Nat) : Int) - 1 = (st.length : Int) := by omega
            have hn3 : IntKind.i64.wrap ((st.length : Int) + 1 - 1) = (st.length : Int) := by rw [show (st.length : Int) + 1 - 1 = (st.length : Int) by omega]; exact IntWalk.i64_in _ (by omega)
            have hn4 : (((st.length : Int) + 1) == 0) = false := by rw [beq_eq_false_iff_ne]; omega
            have hn0 : (((st.length + 1 : Nat) : Int) == 0) = false := by rw [beq_eq_false_iff_ne]; omega
            have hsl : (st.length : Int) < ((st.length + 1 : Nat) : Int) := by omega
            have hcut := owns_cut hrow1 (m := st.length) (by simp)
            by_cases hx : x = kb
            · subst hx
              have hxb : (x != x) = false := by simp
              rw [if_pos rfl] at HM2
              have HM3 := hid HM2
              clear HM2
              go_wp2_with fail
              go_roundw
              case rel => exact ⟨k + 1, d, st, by omega, by go_num, rfl, by omega, by omega, by simpa using hcut, hB1, HM3⟩
              case measure => simp [intOf]; omega
            · have hxb : (x != kb) = true := by simpa using hx
              rw [if_neg hx] at HM2
              have HM3 := hid (show matchedF l = (0, false) by unfold matchedF; rw [HM2])
              clear HM2
              go_wp2_with fail
              refine bodyPost_ret (results_tmp2 rfl _ _ _) rfl ?_
              exact ⟨by rw [HM3.out]; rfl, hB1⟩
        · -- one that opens
          rw [if_pos rfl] at HM2
          have HM3 := hid HM2
          clear HM2
          go_wp2_with (at_builtin; go_must (refine wpList_append_own _ rfl _ _ 27 rfl w.heap.size 3 i0 (.int .i64 0) 1 8 Tryz.underlying27 hi hz0 hz1 hz2 rfl (by decide) _ _ _ rfl (hrow1.alloc _) ⟨w1.heap.size, 0, none⟩ 1 1 [.int .i64 kb] rfl rfl (one_new w1 (.int .i64 kb) 3) (by simp [Value.oneCell']) (by simp [maxLen]; omega) (by omega) (by simp; have := hB1.size; omega) ?_); intro v' w2 hown' hgrow _; obtain ⟨g', cap', rfl⟩ := ownsRow_succ hown')
          go_roundw
          case rel =>
            refine ⟨k + 1, max d (st.length + 1), kb :: st, by omega, by go_num, ?_, by omega, by simp; omega, ?_, own_grow (hB1.alloc hB1.size _) (hrow1.alloc _) hgrow (by simp; have := hB1.size; omega), HM3⟩
            · congr 1; omega
            · simpa using hown'
          case measure => simp [intOf]; omega
    · have hM : matchedF l = ((d : Int), st.isEmpty) := by
        unfold matchedF; rw [HM.out, List.drop_eq_nil_of_le (by omega), matchF]
      have HM3 := hid hM
      have hem : ((st.length : Int) == 0) = st.isEmpty := by
        cases st with
        | nil => rfl
        | cons x s => simp; omega
      clear hM HM
      go_wp2_with fail
      refine bodyPost_ret (results_tmp2 rfl _ _ _) rfl ?_
      exact ⟨by rw [HM3.out]; rfl, hB⟩
end Go.Proofs.YthlingdlehdlhaaGreatDoor.Par

namespace Go.Proofs.YthlingdlehdlhaaGreatDoor.Par
open Go.RowKit Go.Shelf
set_option linter.unusedVariables false
set_option linter.unusedSimpArgs false

theorem seg_drop2 (l : List Tok) : seg l (2, l.length) = l.drop 2 := by unfold seg; rw [List.take_length]
/-- What 'set' answers. -/
def SetA (w : World) (l : List Tok) (v : Value) : Prop :=
  (∃ s r rv, setF l = some (s, r) ∧ v = .tuple #[.string (bs s), rv] ∧ IsToks w rv r) ∨ (setF l = none ∧ ∃ a n c, v = .tuple #[.string (bs []), .slice a n c])
set_option maxRecDepth 100000 in
set_option maxHeartbeats 2000000 in
theorem set_any (v : Value) (l : List Tok) (w : World) (hl : IsToks w v l) :
    Calls Tryz.prog 81 #[v] w fun e w' => (∃ u, e = .returned u ∧ SetA w l u) ∧ Below w.heap.size w w' := by
  have hl0 := hl
  obtain ⟨a, c, rfl, k1, k2, k3, k4⟩ := hl
  match l, hl0, k1, k2, k3, k4 with
  | [], hl0, k1, k2, k3, k4 =>
    clear k4
    have hn := hid (show SetA w [] (.tuple #[.string ⟨#[]⟩, .slice none 0 0]) from .inr ⟨rfl, _, _, _, rfl⟩)
    generalize SetA w [] = P at *
    rw [List.length_nil]
    go_enter Tryz.func81, Tryz.ntmps81
    go_wp2_with fail
    refine bodyPost_ret (results_tmp2 rfl _ _ _) rfl ?_
    exact ⟨⟨_, rfl, hn.out⟩, Below.refl _ _⟩
  | [t], hl0, k1, k2, k3, k4 =>
    clear k4
    have hn := hid (show SetA w [t] (.tuple #[.string ⟨#[]⟩, .slice none 0 0]) from .inr ⟨rfl, _, _, _, rfl⟩)
    generalize SetA w [t] = P at *
    rw [show [t].length = 1 from rfl]
    go_enter Tryz.func81, Tryz.ntmps81
    go_wp2_with fail
    refine bodyPost_ret (results_tmp2 rfl _ _ _) rfl ?_
    exact ⟨⟨_, rfl, hn.out⟩, Below.refl _ _⟩
  | t :: u :: r, hl0, k1, k2, k3, k4 =>
    obtain ⟨b, o, vs, ve, rfl, ⟨c0, c1, c2, c3, c4⟩, i1, i2, i3⟩ := k4 0 t rfl
    obtain ⟨b', o', vs', ve', e', ⟨d0, d1, d2, d3, d4⟩, j1, j2, j3⟩ := k4 1 u rfl
    simp only [Option.some.injEq, Addr.mk.injEq, and_true] at e'
    obtain ⟨rfl, rfl⟩ := e'
    obtain ⟨sa, sc, rfl, -⟩ := i1.parts
    obtain ⟨ea, ec, rfl, -⟩ := i2.parts
    obtain ⟨sa', sc', rfl, -⟩ := j1.parts
    obtain ⟨ea', ec', rfl, -⟩ := j2.parts
    have hs := hid (show setF (t :: u :: r) = if t.kind = 2 ∧ t.txt ≠ [] ∧ isG u gGets = true then some (t.txt, r) else none from rfl)
    have hlen : (t :: u :: r).length = r.length + 2 := rfl
    have hseg := hid (segV_toks hl0 (p := (2, (t :: u :: r).length)) (by rw [hlen]; omega) (Nat.le_refl _))
    have hnn := hid (show setF (t :: u :: r) = none → SetA w (t :: u :: r) (.tuple #[.string ⟨#[]⟩, .slice none 0 0]) from fun h => .inr ⟨h, _, _, _, rfl⟩)
    have hgs := fun V => is_any u (.slice sa' u.val.shape.length sc') (.slice ea' u.val.elems.length ec') gGets _ rfl V
    rw [Nat.zero_mul, Nat.add_zero] at c0 c1
    rw [Nat.one_mul] at d0 d1 d2 d3 d4
    rw [hlen] at k1 ⊢
    clear hl0 k4 i1 i2 j1 j2 c2 c3 c4
    have l2 : decide (((r.length + 2 : Nat) : Int) < 2) = false := by simp; omega
    have l3 : (0 : Int) < ((r.length + 2 : Nat) : Int) := by omega
    have l4 : (1 : Int) < ((r.length + 2 : Nat) : Int) := by omega
    have l5 : (2 : Int) ≤ ((r.length + 2 : Nat) : Int) := by omega
    by_cases hk : t.kind = 2
    · have t2 : (t.kind != 2) = false := by simp [hk]
      cases hg : isG u gGets
      · have hN := hid (hnn.out (hs.out.trans (if_neg (by rw [hg]; simp))))
        rw [hg] at hgs
        generalize SetA w (t :: u :: r) = P at *
        clear hs hseg hnn hg hk
        go_enter Tryz.func81, Tryz.ntmps81
        go_wp2_with fail
        refine (hgs _).mono ?_
        rintro e w1 ⟨rfl, b1⟩
        go_wp2_with fail
        refine bodyPost_ret (results_tmp2 rfl _ _ _) rfl ?_
        exact ⟨⟨_, rfl, hN.out⟩, b1⟩
      · have hY : ∀ rv, rv = segV (some ⟨b, o, none⟩) c (2, r.length + 2) → SetA w (t :: u :: r) (.tuple #[.string (bs t.txt), rv]) := fun rv hrv => by
          subst hrv
          by_cases hne : t.txt = []
          · refine .inr ⟨hs.out.trans (if_neg (fun h => h.2.1 hne)), ?_⟩
            rw [hne]; exact ⟨_, _, _, rfl⟩
          · refine .inl ⟨t.txt, r, _, hs.out.trans (if_pos ⟨hk, hne, hg⟩), rfl, ?_⟩
            have := hseg.out
            rw [seg_drop2] at this
            exact this
        have HY := hid hY
        rw [hg] at hgs
        clear hY
        generalize SetA w (t :: u :: r) = P at *
        clear hs hseg hnn hg hk
        by_cases hc : c = 2
        · subst hc
          have hrl : r.length = 0 := by omega
          go_enter Tryz.func81, Tryz.ntmps81
          go_wp2_with fail
          refine (hgs _).mono ?_
          rintro e w1 ⟨rfl, b1⟩
          replace c1 := (b1.cell (World.block_lt_of_cell? w _ c1)).trans c1
          go_wp2_with fail
          go_region
          go_wp2_with fail
          refine bodyPost_ret (results_tmp2 rfl _ _ _) rfl ?_
          exact ⟨⟨_, rfl, HY.out _ (by unfold segV; simp [hrl])⟩, b1.drew⟩
        · have hcl : (2 : Int) ≤ (c : Int) := by omega
          go_enter Tryz.func81, Tryz.ntmps81
          go_wp2_with fail
          refine (hgs _).mono ?_
          rintro e w1 ⟨rfl, b1⟩
          replace c1 := (b1.cell (World.block_lt_of_cell? w _ c1)).trans c1
          go_wp2_with fail
          go_region
          go_wp2_with fail
          refine bodyPost_ret (results_tmp2 rfl _ _ _) rfl ?_
          exact ⟨⟨_, rfl, HY.out _ (by unfold segV; simp [hc])⟩, b1.drew⟩
    · have t2 : (t.kind != 2) = true := by simpa using hk
      have hN := hid (hnn.out (hs.out.trans (if_neg (fun h => hk h.1))))
      generalize SetA w (t :: u :: r) = P at *
      clear hs hseg hnn hk
      go_enter Tryz.func81, Tryz.ntmps81
      go_wp2_with fail
      refine bodyPost_ret (results_tmp2 rfl _ _ _) rfl ?_
      exact ⟨⟨_, rfl, hN.out⟩, Below.refl _ _⟩
end Go.Proofs.YthlingdlehdlhaaGreatDoor.Par
