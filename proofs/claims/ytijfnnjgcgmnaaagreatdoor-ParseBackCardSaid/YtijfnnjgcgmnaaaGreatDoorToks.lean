/- lex's reader: what reads the next token; the tokens, one by one.
   Lists of tokens in memory. -/
import Derived.Test.YtijfnnjgcgmnaaaGreatDoorRdr
import Derived.Test.YtijfnnjgcgmnaaaGreatDoorBase
import Derived.Test.YtijfnnjgcgmnaaaGreatDoorRd
import Derived.Test.YtijfnnjgcgmnaaaGreatDoorRTk
namespace Go.Proofs.YtijfnnjgcgmnaaaGreatDoor
open Go.RowKit Go.Shelf
open Go.Lib (trimLeftB)
set_option linter.unusedVariables false
set_option linter.unusedSimpArgs false

theorem enters_next (c : UInt8) (r : List UInt8) (args : Array Value) (w : World) : (callFunc (nextF c r) args).run Tryz.prog w = .ok (.enter (nextF c r) args) w := by
  unfold nextF
  split
  · exact enters_of Tryz.func122 (by kernel_rfl) rfl args w
  · split
    · exact enters_of Tryz.func123 (by kernel_rfl) rfl args w
    · split
      · exact enters_of Tryz.func124 (by kernel_rfl) rfl args w
      · exact enters_of Tryz.func125 (by kernel_rfl) rfl args w

theorem chLen_le (c : UInt8) (r : List UInt8) : chLen (c :: r) ≤ (c :: r).length := by
  have := Lib.decodeL_le (c :: r) (by simp)
  unfold chLen Lib.decodeGo
  rw [if_neg (by rw [bs_size]; simp)]
  exact this

theorem read_any (b : Nat) (c : UInt8) (r : List UInt8) (bad much : Bool) (w : World) (hr : IsRd w b (c :: r) bad much) (hl : (c :: r).length ≤ 500000) (hG : Glob w) (hb : ¬ isGlob b) :
    Calls Tryz.prog (nextF c r) #[.pointer (some ⟨b, 0, none⟩)] w fun e w' => (∃ v, e = .returned v ∧ TokOwn w' w.heap.size v (readTok (c :: r)).1) ∧
      IsRd w' b (readTok (c :: r)).2.1 (bad || (readTok (c :: r)).2.2) (much || decide (4096 < (readTok (c :: r)).1.val.elems.length)) ∧ w.grownBy w' (some b) := by
  obtain ⟨hE, hU, m, hM⟩ := id hG
  have nb : b ≠ 6 ∧ b ≠ 7 ∧ b ≠ 2 ∧ b ≠ 3 ∧ b ≠ 4 := by
    unfold isGlob at hb
    refine ⟨?_, ?_, ?_, ?_, ?_⟩ <;> (intro e; exact hb (by simp [e]))
  unfold nextF
  by_cases hn : numB (c :: r) = true
  · rw [if_pos hn]
    have e : readTok (c :: r) = (⟨1, [], numsArr (numsFrom (c :: r).length (c :: r)).1⟩, (numsFrom (c :: r).length (c :: r)).2.1, (numsFrom (c :: r).length (c :: r)).2.2) := by unfold readTok; rw [if_pos hn]
    rw [e]
    exact numbers_any b (c :: r) bad much w hr (by omega) hE nb.1 nb.2.1
  · rw [if_neg hn]
    by_cases h39 : c = 39
    · subst h39
      rw [if_pos rfl, readTok_39]
      exact rdchars_any b r bad much w m hr (by simp at hl; omega) hM nb.2.2.2.2
    · rw [if_neg h39]
      by_cases hlt : letB c = true
      · rw [if_pos hlt]
        have e : readTok (c :: r) = (⟨2, (c :: r).take (nameLen (c :: r)), noArr⟩, (c :: r).drop (nameLen (c :: r)), decide (12 < nameLen (c :: r))) := by unfold readTok; rw [if_neg hn]; simp only [if_neg h39, if_pos hlt]
        rw [e]
        refine (rdname_any b (c :: r) bad much w hr (by omega)).mono ?_
        rintro e w' ⟨rfl, h1, h2⟩
        exact ⟨⟨_, rfl, tok_plain⟩, by simpa [noArr] using h1, h2⟩
      · rw [if_neg hlt]
        have e : readTok (c :: r) = (⟨3, glyTxt (c :: r), noArr⟩, (c :: r).drop (chLen (c :: r)), !Lib.contains glyphsL (glyTxt (c :: r))) := by unfold readTok; rw [if_neg hn]; simp only [if_neg h39, if_neg hlt]
        rw [e]
        refine (rdglyph_any b (c :: r) bad much w m hr (by omega) (chLen_le c r) hU hM nb.2.2.2.2 (fun w' hb' => (hG.below hb').2.1)).mono ?_
        rintro e w' ⟨rfl, h1, h2⟩
        exact ⟨⟨_, rfl, tok_plain⟩, by simpa [noArr] using h1, h2⟩

/-- Where the reading stands when k tokens have been told. -/
def RState (T : List Tok × Bool × Bool) (k : Nat) (l : List UInt8) (bad much : Bool) : Prop :=
  (bad = false ∧ ∃ fuel, l.length < fuel ∧ T.1.drop k = (toksFrom fuel l).1 ∧ T.2.1 = (toksFrom fuel l).2.1 ∧ T.2.2 = (much || (toksFrom fuel l).2.2)) ∨
  (bad = true ∧ T.1.length = k ∧ T.2 = (true, much))

theorem RState.trim {T : List Tok × Bool × Bool} {k : Nat} {l : List UInt8} {bad much : Bool} (h : RState T k l bad much) : RState T k (Lib.trimLeftB l 32) bad much := by
  rcases h with ⟨h0, f, h1, h2, h3, h4⟩ | h
  · exact .inl ⟨h0, f, by have := trimLeft_len l 32; omega, by rw [toksFrom_trim]; exact h2, by rw [toksFrom_trim]; exact h3, by rw [toksFrom_trim]; exact h4⟩
  · exact .inr h

theorem RState.next {T : List Tok × Bool × Bool} {k : Nat} {c : UInt8} {r : List UInt8} {much : Bool} (h : RState T k (c :: r) false much) (ht : Lib.trimLeftB (c :: r) 32 = c :: r) :
    k < T.1.length ∧ T.1[k]? = some (readTok (c :: r)).1 ∧ RState T (k + 1) (readTok (c :: r)).2.1 (readTok (c :: r)).2.2 (much || decide (4096 < (readTok (c :: r)).1.val.elems.length)) := by
  rcases h with ⟨_, f, h1, h2, h3, h4⟩ | ⟨h, _⟩
  · obtain ⟨f, rfl⟩ : ∃ g, f = g + 1 := ⟨f - 1, by omega⟩
    have hlt := readTok_lt (c := c) (r := r)
    rw [toksFrom, ht, if_neg (by simp)] at h2 h3 h4
    cases hb : (readTok (c :: r)).2.2 with
    | true =>
      rw [if_pos hb] at h2 h3 h4
      have hk : T.1[k]? = some (readTok (c :: r)).1 := by
        have := congrArg (fun l => l[0]?) h2
        simpa using this
      have hlen : T.1.length = k + 1 := by
        have := congrArg List.length h2
        simp at this; omega
      exact ⟨by omega, hk, .inr ⟨rfl, hlen, by rw [show T.2 = (T.2.1, T.2.2) from rfl, h3, h4]⟩⟩
    | false =>
      rw [if_neg (by rw [hb]; simp)] at h2 h3 h4
      have hk : T.1[k]? = some (readTok (c :: r)).1 := by
        have := congrArg (fun l => l[0]?) h2
        simpa using this
      have hk' := (List.getElem?_eq_some_iff.1 hk).1
      refine ⟨hk', hk, .inl ⟨rfl, f, by omega, ?_, h3, by rw [h4, Bool.or_assoc]⟩⟩
      have := congrArg List.tail h2
      simpa using this
  · cases h

theorem RState.ends {T : List Tok × Bool × Bool} {k : Nat} {bad much : Bool} {l : List UInt8} (h : RState T k l bad much) (he : l = [] ∨ bad = true) (hk : k ≤ T.1.length) : T.1.length = k ∧ T.2 = (bad, much) := by
  rcases h with ⟨rfl, f, h1, h2, h3, h4⟩ | ⟨rfl, h⟩
  · rcases he with rfl | h
    · obtain ⟨f, rfl⟩ : ∃ g, f = g + 1 := ⟨f - 1, by omega⟩
      rw [toksFrom, show Lib.trimLeftB [] 32 = [] from rfl, if_pos rfl] at h2 h3 h4
      have := congrArg List.length h2
      simp at this
      exact ⟨by omega, by rw [show T.2 = (T.2.1, T.2.2) from rfl, h3, h4, Bool.or_false]⟩
    · cases h
  · exact h

theorem bs_nil_empty : (bs []).toList.isEmpty = true := by rw [ByteArray.toList_eq, bs_list]; rfl
theorem bs_cons_empty (c : UInt8) (r : List UInt8) : (bs (c :: r)).toList.isEmpty = false := by rw [ByteArray.toList_eq, bs_list]; rfl
theorem RState.start (l : List UInt8) : RState (toksFrom (l.length + 1) l) 0 l false false := .inl ⟨rfl, l.length + 1, by omega, rfl, rfl, rfl⟩

set_option maxRecDepth 100000 in
set_option maxHeartbeats 4000000 in
theorem tokens1_seq (b c : Nat) (l : List UInt8) (w : World) (n0 : Nat) (hr : IsRd w b l false false) (hc : w.heap[c]? = some (.cells #[.pointer (some ⟨b, 0, none⟩)] 102)) (hb : ¬ isGlob b) (hbn : b < n0) (hcn : c < n0) (hbc : c ≠ b)
    (hG : Glob w) (hgn : ∀ j, isGlob j → j < n0) (hn0 : n0 ≤ w.heap.size) (hl : l.length ≤ 400000) :
    SeqE Tryz.prog 87 #[.pointer (some ⟨c, 0, none⟩)] (fun k args W => ∃ v, args = #[v] ∧ TokOwn W w.heap.size v ((toksFrom (l.length + 1) l).1[k]?.getD ⟨0, [], noArr⟩))
      (fun W => ∃ l', IsRd W b l' (toksFrom (l.length + 1) l).2.1 (toksFrom (l.length + 1) l).2.2) (toksFrom (l.length + 1) l).1.length (fun A B => A.grownBy B (some b)) (KeepsOn (fun j => j < n0)) w := by
  intro lp J Jx W hW hJ hJx hY h0
  have hS0 := RState.start l
  have hS1 := hS0.trim
  generalize toksFrom (l.length + 1) l = T at *
  have hrW := hr.below hW
  have hcW := (hW.block c (Array.getElem?_eq_some_iff.1 hc).1).trans hc
  have hGW := hG.below hW
  have hsW := hW.size
  have hltW : b < W.heap.size := (Array.getElem?_eq_some_iff.1 hrW).1
  have hcltW : c < W.heap.size := (Array.getElem?_eq_some_iff.1 hcW).1
  have cc : W.cell? ⟨c, 0, none⟩ = some (.pointer (some ⟨b, 0, none⟩)) := by rw [Lib.cell_of_heap hcW]; rfl
  clear hr hc hG hW
  refine calls_wide (callsIn_of_wp Tryz.func87 rfl trivial ?_ rfl)
  simp only [Tryz.ntmps87, List.size_toArray, List.length_cons, List.length_nil, Nat.reduceAdd, Nat.reduceSub, Array.replicate_succ, Array.replicate_zero, List.push_toArray, List.append_toArray, List.nil_append, List.cons_append]
  gi_wp2_with (refine ⟨trivial, rfl, ?_⟩; gi_at_call 88; refine (wide_calls (blanks_any b l false false _ hrW)).mono ?_; rintro e w1 ⟨rfl, hr1, hg1⟩)
  have hJ1 := hJ 0 W w1 (Nat.le_refl _) h0 hg1
  have hK1 : ∀ j, j < n0 → j ≠ b → w1.heap[j]? = W.heap[j]? := fun j hj hne => hg1.block j (by omega) (fun e => hne (Option.some.inj e))
  have hs1 := hg1.size
  have hll := trimLeft_len l 32
  have htt := trimLeft_idem l
  generalize trimLeftB l 32 = l0 at *
  clear h0 hrW hg1 cc
  gi_loopw [3] (fun _ wr => ∃ (k : Nat) (l1 : List UInt8) (bad1 much1 : Bool), IsRd wr b l1 bad1 much1 ∧ RState T k l1 bad1 much1 ∧ J k wr ∧ (∀ j, j < n0 → j ≠ b → wr.heap[j]? = W.heap[j]?) ∧ W.heap.size ≤ wr.heap.size ∧ trimLeftB l1 32 = l1 ∧ l1.length ≤ l.length ∧ k ≤ T.1.length)
    (fun _ wr => rdLen wr b)
  case atStart => exact ⟨0, l0, false, false, hr1, hS1, hJ1, hK1, hs1, htt, hll, Nat.zero_le _⟩
  case round =>
    obtain ⟨k, l1, bad1, much1, hr1, hst, hj, hK, hsz, htr, hll1, hkle⟩ := hrel
    have hltr : b < wr.heap.size := by omega
    have hcr := (hK c hcn hbc).trans hcW
    have hGr : Glob wr := hGW.keep fun j hj => hK j (hgn j hj) (fun e => hb (e ▸ hj))
    have cc : wr.cell? ⟨c, 0, none⟩ = some (.pointer (some ⟨b, 0, none⟩)) := by rw [Lib.cell_of_heap hcr]; rfl
    have hmu : rdLen wr b = l1.length := hr1.len
    obtain ⟨d0, d1, d2, f0, f1, f2⟩ := hr1.cells
    cases l1 with
    | nil =>
      have HE := hid (hst.ends (.inl rfl) hkle)
      have t0 := bs_nil_empty
      clear hJ hJx hY hS0 hS1 hst
      generalize bs [] = S at *
      gi_wp2
      go_end0
      obtain ⟨e1, e2⟩ := HE.out
      exact ⟨⟨_, rfl⟩, .inl ⟨by rw [e1]; exact hj, [], by rw [e2]; exact hr1⟩⟩
    | cons c0 r0 =>
      have t0 := bs_cons_empty c0 r0
      cases bad1 with
      | true =>
        have HE := hid (hst.ends (.inr rfl) hkle)
        clear hJ hJx hY hS0 hS1 hst
        gi_wp2
        go_end0
        obtain ⟨e1, e2⟩ := HE.out
        exact ⟨⟨_, rfl⟩, .inl ⟨by rw [e1]; exact hj, c0 :: r0, by rw [e2]; exact hr1⟩⟩
      | false =>
        clear hS0 hS1
        have hlc : (c0 :: r0).length ≤ 400000 := by omega
        gi_wp2_with (refine ⟨trivial, rfl, ?_⟩; gi_at_call 89; refine (wide_calls (rdnext_any b c0 r0 false much1 _ hr1 (by omega))).mono ?_; rintro e w2 ⟨rfl, hq2⟩)
        have hr2 := hr1.below (hq2.below _)
        have hG2 := hGr.below (hq2.below _)
        have hread := fun w hr hG => read_any b c0 r0 false much1 w hr (by omega) hG hb
        have hen := enters_next c0 r0
        have hB2 : Below wr.heap.size wr w2 := hq2.below _
        obtain ⟨hkN, hTk, hst2⟩ := hst.next htr
        have hlt2 := readTok_lt (c := c0) (r := r0)
        generalize readTok (c0 :: r0) = RT at *
        generalize nextF c0 r0 = F at *
        obtain ⟨tk, lr, bd⟩ := RT
        simp only [Bool.false_or] at hread hTk hst2 hlt2
        generalize hmm : (much1 || decide (4096 < tk.val.elems.length)) = much2 at *
        clear hq2 hst hmm
        gi_wp2
        refine ⟨trivial, ?_⟩
        rw [hen]
        simp only [Oper.uponIn]
        refine ⟨fun h => by simp [Fence.wide] at h, ?_⟩
        refine (wide_calls (hread _ hr2 hG2)).mono ?_
        rintro e w3 ⟨⟨v3, rfl, tok3⟩, hr3, hg3⟩
        clear hread hen
        have hj2 := hJ k _ _ hsz hj (show wr.grownBy w2 (some b) from ⟨hB2.os, hB2.tape, hB2.output, hB2.size, fun j hj _ => hB2.block j hj⟩)
        have hj3 := hJ k _ _ (Nat.le_trans hsz hB2.size) hj2 hg3
        have hsz3 : W.heap.size ≤ w3.heap.size := Nat.le_trans hsz (Nat.le_trans hB2.size hg3.size)
        have hK3 : ∀ j, j < n0 → j ≠ b → w3.heap[j]? = W.heap[j]? := fun j hj hne => ((hg3.block j (by have := hB2.size; omega) (fun e => hne (Option.some.inj e))).trans (hB2.block j (by omega))).trans (hK j hj hne)
        obtain ⟨fn, tmps, assign, body, hy, hR⟩ := hY k #[v3] w3 hkN hj3 ⟨v3, rfl, by rw [hTk]; exact tok3.mono (by have := hB2.size; omega)⟩
        clear hj hj2 hg3 hK hr2 hG2 hB2 hGr tok3 hr1 hcr
        gi_wp2
        refine ⟨rfl, hR.mono ?_⟩
        rintro e W3 (⟨rfl, hJ3, hk3⟩ | ⟨rfl, hJx3⟩)
        · have hcW3 := ((hk3.2 c hcn).trans (hK3 c hcn hbc)).trans hcW
          have hrW3 : IsRd W3 b lr bd much2 := (hk3.2 b hbn).trans hr3
          have cc3 : W3.cell? ⟨c, 0, none⟩ = some (.pointer (some ⟨b, 0, none⟩)) := by rw [Lib.cell_of_heap hcW3]; rfl
          have hs3 := hk3.1
          have hK4 : ∀ j, j < n0 → j ≠ b → W3.heap[j]? = W.heap[j]? := fun j hj hne => (hk3.2 j hj).trans (hK3 j hj hne)
          clear hk3 hK3 hr3
          gi_wp2_with (refine ⟨trivial, rfl, ?_⟩; gi_at_call 88; refine (wide_calls (blanks_any b lr bd much2 _ hrW3)).mono ?_; rintro e w4 ⟨rfl, hr4, hg4⟩)
          have htl := trimLeft_len lr 32
          go_roundw
          case rel => exact ⟨k + 1, _, _, _, hr4, hst2.trim, hJ _ _ _ (by omega) hJ3 hg4, fun j hj hne => (hg4.block j (by omega) (fun e => hne (Option.some.inj e))).trans (hK4 j hj hne), by have := hg4.size; omega, trimLeft_idem lr, by omega, by omega⟩
          case measure => rw [hr4.len, hmu]; omega
        · gi_wp2
          refine bodyPost_ret (results_none rfl _ _ _) rfl ?_
          exact ⟨⟨_, rfl⟩, .inr hJx3⟩
end Go.Proofs.YtijfnnjgcgmnaaaGreatDoor

namespace Go.Proofs.YtijfnnjgcgmnaaaGreatDoor
open Go.RowKit Go.Shelf
set_option linter.unusedVariables false
set_option linter.unusedSimpArgs false
attribute [local go_sem] Oper.semAt_some

/-- Tokens of a call's own, by their cells. -/
def ToksOwn (w : World) (base : Nat) : List (List Value) → List Tok → Prop
  | [], [] => True
  | u :: us, t :: ts => TokOwn w base (.agg u.toArray) t ∧ ToksOwn w base us ts
  | _, _ => False
theorem ToksOwn.snoc {w : World} {base : Nat} {us : List (List Value)} {ts : List Tok} {u : List Value} {t : Tok} (h : ToksOwn w base us ts) (hu : TokOwn w base (.agg u.toArray) t) : ToksOwn w base (us ++ [u]) (ts ++ [t]) := by
  induction us generalizing ts with
  | nil => cases ts with
    | nil => exact ⟨hu, trivial⟩
    | cons => exact h.elim
  | cons x us ih => cases ts with
    | nil => exact h.elim
    | cons y ts => exact ⟨h.1, ih h.2⟩
theorem ToksOwn.map {w w' : World} {base base' : Nat} {us : List (List Value)} {ts : List Tok} (h : ToksOwn w base us ts) (hm : ∀ v t, TokOwn w base v t → TokOwn w' base' v t) : ToksOwn w' base' us ts := by
  induction us generalizing ts with
  | nil => cases ts with
    | nil => trivial
    | cons => exact h.elim
  | cons x us ih => cases ts with
    | nil => exact h.elim
    | cons y ts => exact ⟨hm _ _ h.1, ih h.2⟩
theorem tok_five {w : World} {base : Nat} {u : List Value} {t : Tok} (h : TokOwn w base (.agg u.toArray) t) : u.length = 5 := by
  obtain ⟨vs, ve, e, -⟩ := h
  have : u.toArray = #[.int .i64 t.kind, .string (bs t.txt), .int .i64 t.val.kind, vs, ve] := by simpa using e
  have := congrArg Array.size this
  simpa using this
theorem ToksOwn.len {w : World} {base : Nat} {us : List (List Value)} {ts : List Tok} (h : ToksOwn w base us ts) : us.length = ts.length ∧ us.flatten.length = ts.length * 5 := by
  induction us generalizing ts with
  | nil => cases ts with
    | nil => simp
    | cons => exact h.elim
  | cons x us ih => cases ts with
    | nil => exact h.elim
    | cons y ts =>
      have := ih h.2
      have := tok_five h.1
      simp only [List.length_cons, List.flatten_cons, List.length_append]
      omega
theorem ToksOwn.at {w : World} {base : Nat} {us : List (List Value)} {ts : List Tok} (h : ToksOwn w base us ts) (i : Nat) (hi : i < ts.length) : ∃ u, us[i]? = some u ∧ TokOwn w base (.agg u.toArray) ts[i] ∧ (us.flatten.drop (i * 5)).take 5 = u := by
  induction us generalizing ts i with
  | nil => cases ts with
    | nil => simp at hi
    | cons => exact h.elim
  | cons x us ih => cases ts with
    | nil => exact h.elim
    | cons y ts =>
      have h5 := tok_five h.1
      cases i with
      | zero => exact ⟨x, rfl, h.1, by simp [← h5]⟩
      | succ i =>
        obtain ⟨u, e, hu, hd⟩ := ih h.2 i (by simpa using hi)
        refine ⟨u, by simpa using e, by simpa using hu, ?_⟩
        rw [List.flatten_cons, show (i + 1) * 5 = x.length + i * 5 from by omega, ← List.drop_drop, List.drop_left]
        exact hd

theorem owns_apart {A B : World} {row : Option Nat} {base e size : Nat} {v : Value} {n : Nat} {xs : List Value} (h : A.ownsRow base e size v n xs) (hg : A.grownBy B row)
    (hr : ∀ r, row = some r → ∃ cur t fr, A.heap[r]? = some (.cells cur t fr) ∧ t ≠ e) : B.ownsRow base e size v n xs := by
  refine h.kept hg ?_
  obtain ⟨_, ⟨rfl, _⟩ | ⟨g, cap, cur, rfl, _, hh, _⟩⟩ := h
  · exact .inl rfl
  · refine .inr (fun e' => ?_)
    obtain ⟨c, t, fr, ho, hc⟩ := hr g (by rw [← e']; rfl)
    rw [hh] at ho; cases ho; exact hc rfl
theorem TokOwn.apart {A B : World} {base base' size n : Nat} {v v' : Value} {xs : List Value} {t : Tok} (h : TokOwn A base v t) (hg : A.grownBy B v'.ownBlock) (ho : A.ownsRow base' 88 size v' n xs) : TokOwn B base v t := by
  have hr : ∀ e, e ≠ 88 → ∀ r, v'.ownBlock = some r → ∃ cur t fr, A.heap[r]? = some (.cells cur t fr) ∧ t ≠ e := by
    intro e he r hr
    obtain ⟨_, ⟨rfl, _⟩ | ⟨g, cap, cur, rfl, _, hh, _⟩⟩ := ho
    · cases hr
    · cases hr; exact ⟨_, _, _, hh, Ne.symm he⟩
  obtain ⟨vs, ve, e, h1, h2, h3⟩ := h
  exact ⟨vs, ve, e, owns_apart h1 hg (hr _ (by decide)), owns_apart h2 hg (hr _ (by decide)), h3⟩
theorem TokOwn.turn {A B : World} {base : Nat} {v : Value} {t : Tok} {row : Option Nat} (h : TokOwn A base v t) (hg : A.grownBy B row) (hr : ∀ r, row = some r → ∃ o : Obj, A.heap[r]? = some o ∧ o.isCells = false) : TokOwn B base v t := by
  obtain ⟨vs, ve, e, h1, h2, h3⟩ := h
  exact ⟨vs, ve, e, owns_turn h1 hg hr, owns_turn h2 hg hr, h3⟩
theorem TokOwn.set {A : World} {base : Nat} {v : Value} {t : Tok} (h : TokOwn A base v t) {p : Addr} (hp : p.block < base) (u : Value) : TokOwn (A.setCell p u) base v t := by
  obtain ⟨vs, ve, e, h1, h2, h3⟩ := h
  exact ⟨vs, ve, e, ownsRow_setCell_below h1 hp u, ownsRow_setCell_below h2 hp u, h3⟩

theorem row_new (w : World) (xs : List Value) (t : TypeId) : ∀ (j : Nat) (u : Value), xs[j]? = some u → (w.alloc (.cells xs.toArray t)).cell? ((⟨w.heap.size, 0, none⟩ : Addr).add j) = some u := by
  intro j u hj
  rw [Addr.add_lit, World.cell?, heap_alloc_new w (.cells xs.toArray t)]
  simp only [Nat.zero_add, List.getElem?_toArray, hj]
  rfl
theorem toks_len (f : Nat) (l : List UInt8) : (toksFrom f l).1.length ≤ f := by
  induction f generalizing l with
  | zero => simp [toksFrom]
  | succ f ih =>
    rw [toksFrom]
    split
    · simp
    · simp only
      split
      · simp
      · have := ih (readTok (Lib.trimLeftB l 32)).2.1
        simp only [List.length_cons]; omega

def seqI (w : World) (b : Nat) (T : List Tok) (k : Nat) (W : World) : Prop :=
  (∃ v us, Boxed W w.heap.size 58 v ∧ W.ownsRow (w.heap.size + 1) 88 5 v k us.flatten ∧ ToksOwn W (w.heap.size + 1) us (T.take k)) ∧ w.grownBy W (some b) ∧ w.heap.size + 1 ≤ W.heap.size

set_option maxRecDepth 100000 in
set_option maxHeartbeats 4000000 in
theorem appendSeq_any (b c : Nat) (l : List UInt8) (w : World) (hr : IsRd w b l false false) (hc : w.heap[c]? = some (.cells #[.pointer (some ⟨b, 0, none⟩)] 102)) (hb : ¬ isGlob b) (hbc : c ≠ b) (hG : Glob w) (hl : l.length ≤ 400000) :
    Calls Tryz.prog 86 #[.slice none 0 0, .func (.func 87) #[] #[.pointer (some ⟨c, 0, none⟩)]] w fun e w' => (∃ v us, e = .returned v ∧ w'.ownsRow w.heap.size 88 5 v (toksFrom (l.length + 1) l).1.length us.flatten ∧ ToksOwn w' w.heap.size us (toksFrom (l.length + 1) l).1) ∧
      (∃ l', IsRd w' b l' (toksFrom (l.length + 1) l).2.1 (toksFrom (l.length + 1) l).2.2) ∧ w.grownBy w' (some b) := by
  obtain ⟨i0, hi, hz0, hz1, hz2⟩ := info_parts (show (Tryz.prog.info? 88).map (fun i => (i.zero, i.size, i.bytes)) = some (some (.agg zeroTok), 5, 80) by kernel_rfl)
  have hblt : b < w.heap.size := (Array.getElem?_eq_some_iff.1 hr).1
  have hclt : c < w.heap.size := (Array.getElem?_eq_some_iff.1 hc).1
  have hBe : ∀ o, Below w.heap.size w (w.alloc o) := fun o => (Below.refl _ w).alloc (Nat.le_refl _) o
  have hseq := fun o => tokens1_seq b c l (w.alloc o) w.heap.size (hr.below (hBe o)) ((hBe o |>.block c hclt).trans hc) hb hblt hclt hbc (hG.alloc o) (fun j hj => hG.lt j hj) (by simp) hl
  have htl := toks_len (l.length + 1) l
  generalize toksFrom (l.length + 1) l = T at *
  refine calls_of_wp_m Tryz.func86 rfl ?_
  simp only [Tryz.ntmps86, List.size_toArray, List.length_cons, List.length_nil, Nat.reduceAdd, Nat.reduceSub, Array.replicate_succ, Array.replicate_zero, List.push_toArray, List.append_toArray, List.nil_append, List.cons_append]
  go_wp2_with fail
  go_outline
  refine range_lawE rfl (enters_of Tryz.func87 (by kernel_rfl) rfl) (hseq _)
    (fun _ A B row h hg hr => by
      obtain ⟨l', h⟩ := h
      exact ⟨l', (hg.block b (Array.getElem?_eq_some_iff.1 h).1 (fun e => by have := (hr b e.symm).1; simp at this; omega)).trans h⟩)
    (fun A B hg => KeepsFrom.of_grownBy hg (fun j e => by cases e; simp; omega))
    (fun A B C h k => h.trans _ _ _ k) (fun W l o o' hl h1 h2 => KeepsOn.putObj (fun j hj => by simp; omega) W l o o' hl h1 h2)
    (fun k args W h => by obtain ⟨v, rfl, _⟩ := h; rfl)
    (seqI w b T.1) (fun _ _ => False)
    (fun k A B row h hg hr => ?own) (fun _ _ _ _ hs _ _ => hs)
    (fun k A B hA h hg => ?mv) (fun _ _ _ _ h _ => h)
    ⟨⟨.slice none 0 0, [], boxed_at rfl, World.ownsRow_nil _ _ _ _, trivial⟩, ⟨rfl, rfl, rfl, by simp, fun j hj _ => heap_alloc_old w _ hj⟩, by simp⟩
    (fun k a' W => ∃ (D : Nat) (u : List Value), w.heap.size + 1 ≤ D ∧ W.heap[D]? = some (.cells u.toArray 88) ∧ TokOwn W (w.heap.size + 1) (.agg u.toArray) (T.1[k]?.getD ⟨0, [], noArr⟩) ∧
      a' = { tmps := #[.slice none 0 0, .func (.func 87) #[] #[.pointer (some ⟨c, 0, none⟩)], .pointer (some ⟨w.heap.size, 0, none⟩), undef, .slice none 0 0, .pointer (some ⟨D, 0, none⟩), .func (.func 87) #[] #[.pointer (some ⟨c, 0, none⟩)], .agg u.toArray, undef, undef, undef, undef, undef], defers := [] })
    (fun k a' _ A B row h hg hr => ?axown)
    ?assign ?body ?done (fun D c W _ h _ => h.elim)
  case own =>
    obtain ⟨⟨v, us, h1, h2, h3⟩, h4, h5⟩ := h
    have hr2 := fun r e => (hr r e).2
    refine ⟨⟨v, us, boxed_turn h1 hg hr2, owns_turn h2 hg hr2, h3.map fun v t ht => ht.turn hg hr2⟩, grown_own h4 hg (fun q e => by have := (hr q e).1; simp at this; omega), Nat.le_trans h5 hg.size⟩
  case mv =>
    obtain ⟨⟨v, us, h1, h2, h3⟩, h4, h5⟩ := h
    exact ⟨⟨v, us, (hg.block w.heap.size (by omega) (by simp; omega)).trans h1, owns_grown h2 hg (by omega), h3.map fun v t ht => ht.grown hg (by omega)⟩, grown_trans h4 hg, Nat.le_trans h5 hg.size⟩
  case axown =>
    obtain ⟨D, u, h1, h2, h3, h4⟩ := h
    refine ⟨D, u, h1, (hg.block D (Array.getElem?_eq_some_iff.1 h2).1 (fun e => ?_)).trans h2, h3.turn hg (fun r e => (hr r e).2), h4⟩
    obtain ⟨o, ho, hc⟩ := (hr D e.symm).2
    rw [h2] at ho; cases ho; cases hc
  case assign =>
    rintro lp k args W K hk hI ⟨v, rfl, htok⟩ hK
    obtain ⟨vs, ve, rfl, o1, o2, o3⟩ := id htok
    obtain ⟨aS, cS, rfl⟩ := own_slice o1
    obtain ⟨aE, cE, rfl⟩ := own_slice o2
    have hz := hI.2.2
    have hTk : T.1[k]?.getD ⟨0, [], noArr⟩ = T.1[k] := by rw [List.getElem?_eq_getElem hk]; rfl
    rw [hTk] at htok
    obtain ⟨t, ht⟩ : ∃ t, T.1[k] = t := ⟨_, rfl⟩
    have hTk2 : T.1[k]?.getD ⟨0, [], noArr⟩ = t := by rw [hTk, ht]
    rw [hTk] at o1 o2 o3 ⊢
    rw [ht] at htok o1 o2 o3 ⊢
    have HTk := hid hTk2
    clear hTk hTk2 ht
    gi_wp2
    refine hK _ _ (((KeepsOthers.alloc W _)).from _) (KeepsOn.of_below ((Below.refl W.heap.size W).alloc (Nat.le_refl _) _) (fun b hb => by omega)) ?_ ⟨W.heap.size, [.int .i64 t.kind, .string (bs t.txt), .int .i64 t.val.kind, .slice aS t.val.shape.length cS, .slice aE t.val.elems.length cE], hz, heap_alloc_new W _, ?_, ?_⟩
    · obtain ⟨⟨v, us, h1, h2, h3⟩, h4, h5⟩ := hI
      exact ⟨⟨v, us, h1.alloc _, h2.alloc _, h3.map fun v t ht => ht.below ((Below.refl _ _).alloc (Nat.le_refl _) _)⟩, grown_alloc h4 _, by simp; omega⟩
    · rw [HTk.out]
      have := htok.below ((Below.refl _ _).alloc (Nat.le_refl _) (.cells #[.int .i64 t.kind, .string (bs t.txt), .int .i64 t.val.kind, .slice aS t.val.shape.length cS, .slice aE t.val.elems.length cE] 88))
      exact this.mono (by simp)
    · rfl
  case body =>
    rintro lp k a' W hlp hex hk ⟨⟨v, us, hbox, hrow, htoks⟩, hg, hsz⟩ ⟨D, u, hD, hcell, htok, rfl⟩
    obtain ⟨vs, ve, hu, o1, o2, o3⟩ := id htok
    have hTk : T.1[k]?.getD ⟨0, [], noArr⟩ = T.1[k] := by rw [List.getElem?_eq_getElem hk]; rfl
    rw [hTk] at htok o1 o2 o3 hu
    have hts := htoks.snoc htok
    rw [show T.1.take k ++ [T.1[k]] = T.1.take (k + 1) from by rw [List.take_add_one, List.getElem?_eq_getElem hk]; rfl] at hts
    generalize T.1[k] = t at *
    obtain ⟨aS, cS, rfl⟩ := own_slice o1
    obtain ⟨aE, cE, rfl⟩ := own_slice o2
    have hu2 : u.toArray = #[.int .i64 t.kind, .string (bs t.txt), .int .i64 t.val.kind, .slice aS t.val.shape.length cS, .slice aE t.val.elems.length cE] := by simpa using hu
    obtain rfl : u = [.int .i64 t.kind, .string (bs t.txt), .int .i64 t.val.kind, .slice aS t.val.shape.length cS, .slice aE t.val.elems.length cE] := by
      simpa using congrArg Array.toList hu2
    obtain ⟨k0, k1, k2, k3, k4, f0, f1, f2, f3, f4⟩ := five_facts hcell
    have hc0 := hbox.cell
    have hf0 := hbox.frozen
    have hkl : k ≤ 400000 := by omega
    have hnew := hid (row_new W [.int .i64 t.kind, .string (bs t.txt), .int .i64 t.val.kind, .slice aS t.val.shape.length cS, .slice aE t.val.elems.length cE] 88)
    obtain ⟨av, cv, rfl⟩ := own_slice hrow
    clear hu hu2 o1 o2 o3 hTk hex
    gi_wp2_with (gi_at_builtin; refine wpListIn_append_own _ rfl _ _ 58 rfl (w.heap.size + 1) 88 i0 (.agg zeroTok) 5 80 Tryz.underlying58 hi hz0 hz1 hz2 rfl (by decide) _ _ _ rfl (hrow.alloc _) ⟨W.heap.size, 0, none⟩ 1 1 [.int .i64 t.kind, .string (bs t.txt), .int .i64 t.val.kind, .slice aS t.val.shape.length cS, .slice aE t.val.elems.length cE] rfl rfl hnew.out (by simp [Value.oneCell']) (by simp [maxLen]; omega) (by omega) (by simp; omega) ?_; intro v' w1 hown' hgrow _; obtain ⟨g', cap', rfl⟩ := ownsRow_succ hown'; obtain ⟨hr4, hk4, hb4, hoth, hbx, hkn4⟩ := append_put (B := w.heap.size) (n₀ := w.heap.size) hrow hown' hgrow (by omega) (by omega) (by omega); have hv3 := (hbx _ hbox).1; have hc3 := hv3.cell; have hf3 := hv3.frozen)
    have hlo := fun q e => (hrow.lt q e).1
    refine ⟨hk4.from _, hkn4 _ (fun b hb => by omega), ⟨⟨_, us ++ [[.int .i64 t.kind, .string (bs t.txt), .int .i64 t.val.kind, .slice aS t.val.shape.length cS, .slice aE t.val.elems.length cE]], (hbx _ hbox).2, by simpa using hr4, hts.map fun v t ht => ?_⟩, grown_put (grown_own (grown_alloc hg _) hgrow (fun q e => by have := hlo q e; omega)) (.inr (Nat.le_refl _)), by have := hb4.size; omega⟩⟩
    exact ((ht.below ((Below.refl _ _).alloc (Nat.le_refl _) _)).apart hgrow (hrow.alloc _)).set (by simp) _
  case done =>
    rintro D W hD ⟨⟨v, us, hbox, hrow, htoks⟩, hg, hsz⟩ ⟨l', hrd⟩ hK
    rw [List.take_of_length_le (Nat.le_refl _)] at htoks
    have hvc := hbox.cell
    have hDs : w.heap.size + 1 ≤ D := by simpa using hD
    go_wp2
    try rw [Exit.noGoto_ret]
    refine post_mark hK (results_tmp rfl _ _ _) ?_
    have hgp := grownBy_putObj' W D (.deferred none)
    have hrp : ∀ r, some D = some r → ∃ o : Obj, W.heap[r]? = some o ∧ o.isCells = false := fun r e => by cases e; exact ⟨_, hK, rfl⟩
    refine ⟨⟨v, us, rfl, owns_mono (owns_turn hrow hgp hrp) (by omega), htoks.map fun v t ht => (ht.turn hgp hrp).mono (by omega)⟩, ⟨l', (hgp.block b (Array.getElem?_eq_some_iff.1 hrd).1 (by simp; omega)).trans hrd⟩, grown_own hg hgp (fun q e => by cases e; omega)⟩

set_option maxRecDepth 100000 in
theorem collect_any (b c : Nat) (l : List UInt8) (w : World) (hr : IsRd w b l false false) (hc : w.heap[c]? = some (.cells #[.pointer (some ⟨b, 0, none⟩)] 102)) (hb : ¬ isGlob b) (hbc : c ≠ b) (hG : Glob w) (hl : l.length ≤ 400000) :
    Calls Tryz.prog 56 #[.func (.func 87) #[] #[.pointer (some ⟨c, 0, none⟩)]] w fun e w' => (∃ v us, e = .returned v ∧ w'.ownsRow w.heap.size 88 5 v (toksFrom (l.length + 1) l).1.length us.flatten ∧ ToksOwn w' w.heap.size us (toksFrom (l.length + 1) l).1) ∧
      (∃ l', IsRd w' b l' (toksFrom (l.length + 1) l).2.1 (toksFrom (l.length + 1) l).2.2) ∧ w.grownBy w' (some b) := by
  go_enter Tryz.func56, Tryz.ntmps56
  go_wp2_with fail
  refine (appendSeq_any b c l _ hr hc hb hbc hG hl).mono ?_
  rintro e w' ⟨⟨v, us, rfl, h1, h2⟩, h3, h4⟩
  go_wp2_with fail
  go_ret
  exact ⟨⟨v, us, rfl, h1, h2⟩, h3, h4⟩

set_option maxRecDepth 100000 in
theorem tokens_fn (b : Nat) (w : World) :
    Calls Tryz.prog 57 #[.pointer (some ⟨b, 0, none⟩)] w fun e w' => e = .returned (.func (.func 87) #[] #[.pointer (some ⟨w.heap.size, 0, none⟩)]) ∧ w.alloc (.cells #[.pointer (some ⟨b, 0, none⟩)] 102) = w' := by
  go_enter Tryz.func57, Tryz.ntmps57
  go_wp2_with fail
  go_ret
  exact ⟨rfl, rfl⟩

theorem below_fresh {w A B : World} {b : Nat} (h : Below w.heap.size w A) (hg : A.grownBy B (some b)) (hb : w.heap.size ≤ b) : Below w.heap.size w B :=
  h.grown hg h.size (fun k e => by cases e; exact hb)

set_option maxRecDepth 100000 in
set_option maxHeartbeats 4000000 in
theorem tokens_any (l : List UInt8) (w : World) (hG : Glob w) (hl : l.length ≤ 300000) :
    Calls Tryz.prog 26 #[.string (bs l)] w fun e w' => (∃ v us, e = .returned (.tuple #[v, .int .i64 (tokensOf l).2]) ∧ w'.ownsRow w.heap.size 88 5 v (tokensOf l).1.length us.flatten ∧ ToksOwn w' w.heap.size us (tokensOf l).1) ∧ Below w.heap.size w w' := by
  have hnil : ∀ W : World, W.ownsRow w.heap.size 88 5 (.slice none 0 0) 0 ([] : List (List Value)).flatten ∧ ToksOwn W w.heap.size [] [] := fun W => ⟨World.ownsRow_nil _ _ _ _, trivial⟩
  have hvs := fun w hT => Any.utf8_ValidString Tryz.lays196 (bs l) w (by rw [bs_size]; omega) hT
  rw [bs_list] at hvs
  obtain ⟨V, hV⟩ : ∃ V, Lib.validD l = V := ⟨_, rfl⟩
  rw [hV] at hvs
  go_enter Tryz.func26, Tryz.ntmps26
  go_wp2_with fail
  refine (hvs _ hG.2.1).mono ?_
  rintro e w1 ⟨rfl, hb1⟩
  have hG1 := hG.below hb1
  cases V with
  | false =>
    have HT : Hid (tokensOf l = ([], 170)) := hid (by unfold tokensOf; rw [if_pos hV])
    clear hvs hV
    go_wp2_with fail
    refine bodyPost_ret (results_tmp2 rfl _ _ _) rfl ?_
    rw [HT.out]
    exact ⟨⟨_, [], rfl, (hnil _).1, (hnil _).2⟩, hb1⟩
  | true =>
    have HT : Hid (tokensOf l = if (toksFrom (l.length + 1) l).2.1 = true then ([], 170) else if (toksFrom (l.length + 1) l).2.2 = true ∨ 4000 < (toksFrom (l.length + 1) l).1.length then ([], 9) else ((toksFrom (l.length + 1) l).1, 0)) := hid (by unfold tokensOf; rw [if_neg (by rw [hV]; simp)])
    clear hvs hV
    go_wp2_with fail
    have hr1 : IsRd (w1.alloc (.cells #[.string (bs l), .bool false, .bool false] 104)) w1.heap.size l false false := heap_alloc_new _ _
    have hGa := hG1.alloc (.cells #[.string (bs l), .bool false, .bool false] 104)
    have hba : Below w.heap.size w (w1.alloc (.cells #[.string (bs l), .bool false, .bool false] 104)) := hb1.alloc hb1.size _
    have hsz := hb1.size
    have hng : ¬ isGlob w1.heap.size := fun h => by have := hG1.lt _ h; omega
    refine (tokens_fn w1.heap.size _).mono ?_
    rintro e w2 ⟨rfl, rfl⟩
    go_wp2_with fail
    refine (collect_any w1.heap.size (w1.heap.size + 1) l _ (hr1.below ((Below.refl _ _).alloc (Nat.le_refl _) _)) (by have := heap_alloc_new (w1.alloc (.cells #[.string (bs l), .bool false, .bool false] 104)) (.cells #[.pointer (some ⟨w1.heap.size, 0, none⟩)] 102); simpa using this) hng (by omega) (hGa.alloc _) (by omega)).mono ?_
    rintro e w3 ⟨⟨v, us, rfl, hrow, htoks⟩, ⟨l', hr3⟩, hg3⟩
    have hb3 : Below w.heap.size w w3 := below_fresh (hba.alloc hba.size _) hg3 hsz
    have hrow' := owns_mono hrow (show w.heap.size ≤ _ by simp; omega)
    have htoks' : ToksOwn w3 w.heap.size us (toksFrom (l.length + 1) l).1 := htoks.map fun v t ht => ht.mono (by simp; omega)
    have hN := toks_len (l.length + 1) l
    generalize toksFrom (l.length + 1) l = T at *
    obtain ⟨TL, T1, T2⟩ := T
    simp only at hrow' htoks' hr3 HT hN
    obtain ⟨d0, d1, d2, f0, f1, f2⟩ := hr3.cells
    obtain ⟨av, cv, rfl⟩ := own_slice hrow'
    clear hrow htoks hg3 hba hb1 hG1 hGa hr1 hng
    cases T1 with
    | true =>
      have HT2 : Hid (tokensOf l = ([], 170)) := hid (by rw [HT.out, if_pos rfl])
      clear HT
      go_wp2_with fail
      refine bodyPost_ret (results_tmp2 rfl _ _ _) rfl ?_
      rw [HT2.out]
      exact ⟨⟨_, [], rfl, (hnil _).1, (hnil _).2⟩, hb3⟩
    | false =>
      cases T2 with
      | true =>
        have HT2 : Hid (tokensOf l = ([], 9)) := hid (by rw [HT.out, if_neg (by simp), if_pos (.inl rfl)])
        clear HT
        go_wp2_with fail
        all_goals
          refine bodyPost_ret (results_tmp2 rfl _ _ _) rfl ?_
          rw [HT2.out]
          exact ⟨⟨_, [], rfl, (hnil _).1, (hnil _).2⟩, hb3⟩
      | false =>
        by_cases h4 : 4000 < TL.length
        · have HT2 : Hid (tokensOf l = ([], 9)) := hid (by rw [HT.out, if_neg (by simp), if_pos (.inr h4)])
          have t4 : decide (4000 < TL.length) = true := by simpa using h4
          have t4' : decide ((4000 : Int) < (TL.length : Int)) = true := by simp; omega
          clear HT
          go_wp2_with fail
          all_goals
            refine bodyPost_ret (results_tmp2 rfl _ _ _) rfl ?_
            rw [HT2.out]
            exact ⟨⟨_, [], rfl, (hnil _).1, (hnil _).2⟩, hb3⟩
        · have HT2 : Hid (tokensOf l = (TL, 0)) := hid (by rw [HT.out, if_neg (by simp), if_neg (by simp; omega)])
          have t4 : decide (4000 < TL.length) = false := by simpa using h4
          have t4' : decide ((4000 : Int) < (TL.length : Int)) = false := by simp; omega
          clear HT
          go_wp2_with fail
          all_goals
            refine bodyPost_ret (results_tmp2 rfl _ _ _) rfl ?_
            rw [HT2.out]
            exact ⟨⟨_, us, rfl, hrow', htoks'⟩, hb3⟩
end Go.Proofs.YtijfnnjgcgmnaaaGreatDoor
