/- lex.Show: tokens' text. -/
import Derived.Test.YtijfnnjgcgmnaaaGreatDoorTokSame
import Derived.Test.YtijfnnjgcgmnaaaGreatDoorLexLaw
import Derived.Test.YtijfnnjgcgmnaaaGreatDoorTextA
namespace Go.Proofs.YtijfnnjgcgmnaaaGreatDoor
open Go.RowKit Go.Shelf
set_option linter.unusedVariables false
set_option linter.unusedSimpArgs false

/-- A value's text; nothing: none can be. -/
def valTxt (x : Arr) : List UInt8 := if canV x = true then textRes x else []

theorem canV_bools (x : Arr) (bC b1 b2 b3 b4 b5 : Bool) (hC : (chk x != 0) = bC) (h1 : decide (1 < x.shape.length) = b1) (h2 : ((x.shape.length : Int) == 1) = b2) (h3 : ((x.elems.length : Int) == 1) = b3) (h4 : ((x.elems.length : Int) == 0) = b4) (h5 : (x.kind == 1) = b5) :
    canV x = !(bC || (b1 || (b2 && (b3 || (b4 && b5))))) := by
  have e2 : ((x.shape.length : Int) == 1) = decide (x.shape.length = 1) := by rw [Bool.eq_iff_iff, beq_iff_eq, decide_eq_true_eq]; omega
  have e3 : ((x.elems.length : Int) == 1) = decide (x.elems.length = 1) := by rw [Bool.eq_iff_iff, beq_iff_eq, decide_eq_true_eq]; omega
  have e4 : ((x.elems.length : Int) == 0) = decide (x.elems.length = 0) := by rw [Bool.eq_iff_iff, beq_iff_eq, decide_eq_true_eq]; omega
  have e5 : (x.kind == 1) = decide (x.kind = 1) := by rw [Bool.eq_iff_iff, beq_iff_eq, decide_eq_true_eq]
  have eC : (chk x != 0) = !okArr x := by unfold chk; cases okArr x <;> rfl
  have e0 : decide (x.shape.length = 0) = (!decide (1 < x.shape.length) && !decide (x.shape.length = 1)) := by
    by_cases a0 : x.shape.length = 0
    · rw [a0]; rfl
    · by_cases a1 : x.shape.length = 1
      · rw [a1]; rfl
      · rw [decide_eq_false a0, decide_eq_true (show 1 < x.shape.length by omega)]; rfl
  have hx : decide (1 < x.shape.length) = true → decide (x.shape.length = 1) = false := by
    intro h
    have := of_decide_eq_true h
    exact decide_eq_false (by omega)
  rw [← hC, ← h1, ← h2, ← h3, ← h4, ← h5, e2, e3, e4, e5, eC]
  unfold canV
  rw [e0]
  generalize okArr x = a
  generalize decide (1 < x.shape.length) = b at *
  generalize decide (x.shape.length = 1) = c at *
  generalize decide (x.elems.length = 1) = d
  generalize decide (x.elems.length = 0) = e
  generalize decide (x.kind = 1) = f
  revert hx
  cases a <;> cases b <;> cases c <;> cases d <;> cases e <;> cases f <;> simp

set_option maxRecDepth 100000 in
set_option maxHeartbeats 4000000 in
theorem lvalue_any (v : Value) (x : Arr) (w : World) (hT : Tabs w) (hx : IsArr w v x) :
    Calls Tryz.prog 51 #[v] w fun e w' => e = .returned (.string (bs (valTxt x))) ∧ Below w.heap.size w w' := by
  have hB1 : ∀ o, Below w.heap.size w (w.alloc o) := fun o => (Below.refl _ w).alloc (Nat.le_refl _) o
  have htx := fun o => text_any v x (w.alloc o) (hT.below (hB1 o)) (hx.below (hB1 o))
  obtain ⟨vs, ve, rfl, hs, he, hr⟩ := hx
  obtain ⟨as_, cs, rfl, s1, s2, s3, -⟩ := hs.parts
  obtain ⟨ae, ce, rfl, e1, e2, e3, -⟩ := he.parts
  obtain ⟨bC, hC⟩ : ∃ b, (chk x != 0) = b := ⟨_, rfl⟩
  obtain ⟨b1, h1⟩ : ∃ b, decide (1 < x.shape.length) = b := ⟨_, rfl⟩
  have h1' : decide ((1 : Int) < (x.shape.length : Int)) = b1 := by rw [← h1, Bool.eq_iff_iff, decide_eq_true_eq, decide_eq_true_eq]; omega
  obtain ⟨b2, h2⟩ : ∃ b, ((x.shape.length : Int) == 1) = b := ⟨_, rfl⟩
  obtain ⟨b3, h3⟩ : ∃ b, ((x.elems.length : Int) == 1) = b := ⟨_, rfl⟩
  obtain ⟨b4, h4⟩ : ∃ b, ((x.elems.length : Int) == 0) = b := ⟨_, rfl⟩
  obtain ⟨b5, h5⟩ : ∃ b, (x.kind == 1) = b := ⟨_, rfl⟩
  have HR : Hid (valTxt x = if !(bC || (b1 || (b2 && (b3 || (b4 && b5))))) then textRes x else []) := hid (by unfold valTxt; rw [canV_bools x bC b1 b2 b3 b4 b5 hC h1 h2 h3 h4 h5])
  clear hs he
  generalize chk x = C at *
  generalize textRes x = T at *
  generalize x.shape.length = sl at *
  generalize x.elems.length = el at *
  generalize x.kind = kd at *
  go_enter Tryz.func51, Tryz.ntmps51
  go_wp2_with fail
  refine (htx _).mono ?_
  rintro e w1 ⟨rfl, hb⟩
  have hB := (hB1 _).trans (hb.mono (hB1 _).size)
  have k0 := (hb.cell (p := ⟨w.heap.size, 0, none⟩) (by simp)).trans (show _ = some (Value.int .i64 kd) by go_simp)
  have k1 := (hb.cell (p := ⟨w.heap.size, 1, none⟩) (by simp)).trans (show _ = some (Value.slice as_ sl cs) by go_simp)
  have k2 := (hb.cell (p := ⟨w.heap.size, 2, none⟩) (by simp)).trans (show _ = some (Value.slice ae el ce) by go_simp)
  clear hb htx hB1
  go_wp2_with fail
  go_quiet (fail)
  cases bC with
  | true =>
    go_wp2
    go_ret
    exact ⟨by rw [HR.out]; rfl, below_drewN hB _⟩
  | false =>
    cases b1 with
    | true =>
      go_wp2
      go_ret
      exact ⟨by rw [HR.out]; rfl, below_drewN hB _⟩
    | false =>
      cases b2 with
      | true =>
        cases b3 with
        | true =>
          go_wp2
          go_ret
          exact ⟨by rw [HR.out]; rfl, below_drewN hB _⟩
        | false =>
          cases b4 with
          | true =>
            cases b5 with
            | true =>
              go_wp2
              go_ret
              exact ⟨by rw [HR.out]; rfl, below_drewN hB _⟩
            | false =>
              go_wp2
              go_ret
              exact ⟨by rw [HR.out]; rfl, below_drewN hB _⟩
          | false =>
            go_wp2
            go_ret
            exact ⟨by rw [HR.out]; rfl, below_drewN hB _⟩
      | false =>
        go_wp2
        go_ret
        exact ⟨by rw [HR.out]; rfl, below_drewN hB _⟩

theorem below_iter (w : World) (s : ByteArray) (p : Nat) : Below w.heap.size w (w.iter s p) := (Below.refl _ w).alloc (Nat.le_refl _) _

/-- A token's text, or a sign that it has none. -/
def chosen (t : Tok) : List UInt8 := if t.kind = 1 then valTxt t.val else if t.kind = 2 ∧ namB (bs t.txt) = true ∨ t.kind = 3 ∧ Lib.runeCount (bs t.txt) = 1 ∧ Lib.contains glyphsL t.txt = true then t.txt else []
def shwOf (t : Tok) : List UInt8 := if chosen t = [] then [63] else chosen t

theorem shw_len {t : Tok} (h : t.txt.length ≤ 1000000) (hr : Rng t.val.elems) : (shwOf t).length ≤ 100000000 := by
  have hv : (valTxt t.val).length ≤ 500000 := by
    unfold valTxt
    split
    · rename_i hc
      obtain ⟨h1, -, h2, -⟩ := canV_parts hc
      unfold textRes
      rw [if_pos h1, h2]
      exact elemText_len _ h1 hr
    · simp
  have hch : (chosen t).length ≤ 1000000 := by
    unfold chosen
    split
    · omega
    · split
      · omega
      · simp
  unfold shwOf
  split
  · simp
  · omega
-- SHOW
set_option maxRecDepth 100000 in
set_option maxHeartbeats 8000000 in
theorem show_any (v : Value) (T : List Tok) (w : World) (hG : Glob w) (hT : Tabs w) (hx : IsToks w v T) (hl : T.length ≤ 100000) (ht : ∀ t ∈ T, t.txt.length ≤ 1000000) :
    Calls Tryz.prog 25 #[v] w fun e w' => e = .returned (.string (bs (Lib.join (T.map shwOf) [32]))) ∧ Below w.heap.size w w' := by
  obtain ⟨i0, hi, hz0, hz1, hz2⟩ := info_parts Tryz.infoStr
  obtain ⟨a, cap, rfl, h1, h2, h3, hc⟩ := hx
  have Hlen := hid (fun x (hx : x ∈ T.map shwOf) => show x.length ≤ 100000000 by
    obtain ⟨t, ht1, rfl⟩ := List.mem_map.1 hx
    obtain ⟨k, hk, rfl⟩ := List.getElem_of_mem ht1
    obtain ⟨b, o, vs, ve, -, -, -, -, hr⟩ := hc k _ (List.getElem?_eq_getElem hk)
    exact shw_len (ht _ ht1) hr)
  have Ht := hid ht
  clear ht
  go_enter Tryz.func25, Tryz.ntmps25
  go_wp2_with fail
  go_loopw [3, 5, 6, 9, 13, 20] (fun vo _ _ i _ _ wr => ∃ k : Nat, k ≤ T.length ∧ i = .int .i64 k ∧ wr.ownsRow w.heap.size 9 1 vo k ((T.take k).map (fun t => .string (bs (shwOf t)))) ∧ Below w.heap.size w wr) (fun _ _ _ i _ _ _ => T.length - (intOf i).toNat)
  case atStart => exact ⟨0, by omega, rfl, World.ownsRow_nil _ _ _ _, Below.refl _ _⟩
  case round =>
    obtain ⟨k, hk, rfl, hrow, hB⟩ := hrel
    obtain ⟨av, cv, rfl⟩ := own_slice hrow
    by_cases hlt : k < T.length
    · have hd : decide (k < T.length) = true := by simpa using hlt
      have hki : (k : Int) < (T.length : Int) := by omega
      have hkT : T[k]? = some T[k] := List.getElem?_eq_getElem hlt
      have hmem : T[k] ∈ T := List.getElem_mem hlt
      generalize T[k] = t at *
      have htl := Ht.out t hmem
      obtain ⟨b, o, vs, ve, rfl, at1, i1, i2, i3⟩ := hc k t hkT
      have T4 := hid (take_one T k t hkT)
      have hxa := hid (show IsArr wr (.agg #[.int .i64 t.val.kind, vs, ve]) t.val from ⟨vs, ve, rfl, i1.below hB, i2.below hB, i3⟩)
      obtain ⟨c0, c1, c2, c3, c4⟩ := at1.below hB
      obtain ⟨as1, cs1, rfl, -⟩ := i1.parts
      obtain ⟨ae1, ce1, rfl, -⟩ := i2.parts
      obtain ⟨m, hm⟩ := (hG.below hB).2.2
      have hGw := hG.below hB
      have hTw := hT.below hB
      have hts : (bs t.txt).size ≤ 1000000 := by rw [bs_size]; exact htl
      have hss := hB.size
      have hkl : k ≤ 100000 := by omega
      clear hkT hmem at1 i1 i2 i3 htl
      by_cases k1 : t.kind = 1
      · have t1 : (t.kind == 1) = true := by simp [k1]
        have HS : Hid (shwOf t = if valTxt t.val = [] then [63] else valTxt t.val) := hid (by unfold shwOf; rw [show chosen t = valTxt t.val from if_pos k1])
        clear k1
        go_wp2_with fail
        refine (lvalue_any _ t.val _ (hTw.below ((Below.refl _ wr).alloc (Nat.le_refl _) _)) (hxa.out.below ((Below.refl _ wr).alloc (Nat.le_refl _) _))).mono ?_
        rintro e w2 ⟨rfl, hb⟩
        have hrow3 := owns_below (hrow.alloc _) hb
        have hB3 := (hB.alloc hB.size _).trans (hb.mono (Nat.le_trans hB.size (by simp)))
        generalize valTxt t.val = S at *
        clear hb hrow hB c0 c1 c2 c3 c4 hm hxa hTw hGw
        have hSz := bs_size S
        have hs3 := hB3.size
        by_cases hS : S = []
        · have te : (bs S).toList.isEmpty = true := by rw [hS]; exact bs_nil_empty
          have HE : Hid (shwOf t = [63]) := hid (by rw [HS.out, if_pos hS])
          clear hS hSz
          have HN : Hid ((T.take (k + 1)).map (fun t => Value.string (bs (shwOf t))) = (T.take k).map (fun t => Value.string (bs (shwOf t))) ++ [.string ⟨#[63]⟩]) := hid (by rw [T4.out, List.map_append, List.map_singleton, HE.out] <;> rfl)
          go_wp2_with (at_builtin; go_must (refine wpList_append_own _ rfl _ _ 22 rfl w.heap.size 9 i0 (.string ⟨#[]⟩) 1 16 Tryz.underlying22 hi hz0 hz1 hz2 rfl (by decide) _ _ _ rfl (hrow3.alloc _) ⟨w2.heap.size, 0, none⟩ 1 1 [.string ⟨#[63]⟩] rfl rfl (one_new w2 (.string ⟨#[63]⟩) 9) (by simp [Value.oneCell']) (by simp [maxLen]; omega) (by omega) (by simp; omega) ?_); intro v' w9 hown' hgrow _; obtain ⟨g', cap', rfl⟩ := ownsRow_succ hown')
          go_roundw
          case rel =>
            refine ⟨k + 1, by omega, by go_num, by rw [HN.out]; exact hown', ?_⟩
            exact (hB3.alloc hB3.size (.cells #[.string ⟨#[63]⟩] 9)).grown hgrow (by simp; omega) (fun k e => (hrow3.lt k e).1)
          case measure => simp [intOf]; omega
        · have te : (bs S).toList.isEmpty = false := by
            cases h : S with
            | nil => exact absurd h hS
            | cons c r => exact bs_cons_empty c r
          have HE : Hid (shwOf t = S) := hid (by rw [HS.out, if_neg hS])
          clear hS hSz
          have HN : Hid ((T.take (k + 1)).map (fun t => Value.string (bs (shwOf t))) = (T.take k).map (fun t => Value.string (bs (shwOf t))) ++ [.string (bs S)]) := hid (by rw [T4.out, List.map_append, List.map_singleton, HE.out] <;> rfl)
          go_wp2_with (at_builtin; go_must (refine wpList_append_own _ rfl _ _ 22 rfl w.heap.size 9 i0 (.string ⟨#[]⟩) 1 16 Tryz.underlying22 hi hz0 hz1 hz2 rfl (by decide) _ _ _ rfl (hrow3.alloc _) ⟨w2.heap.size, 0, none⟩ 1 1 [.string (bs S)] rfl rfl (one_new w2 (.string (bs S)) 9) (by simp [Value.oneCell']) (by simp [maxLen]; omega) (by omega) (by simp; omega) ?_); intro v' w9 hown' hgrow _; obtain ⟨g', cap', rfl⟩ := ownsRow_succ hown')
          go_roundw
          case rel =>
            refine ⟨k + 1, by omega, by go_num, by rw [HN.out]; exact hown', ?_⟩
            exact (hB3.alloc hB3.size (.cells #[.string (bs S)] 9)).grown hgrow (by simp; omega) (fun k e => (hrow3.lt k e).1)
          case measure => simp [intOf]; omega
      · have t1 : (t.kind == 1) = false := by simpa using k1
        by_cases k2 : t.kind = 2
        · have t2 : (t.kind == 2) = true := by simp [k2]
          have t3 : (t.kind == 3) = false := by simp [k2]
          have k3 : ¬ t.kind = 3 := by omega
          cases hn : namB (bs t.txt) with
          | true =>
            have HS : Hid (shwOf t = if t.txt = [] then [63] else t.txt) := hid (by unfold shwOf; rw [show chosen t = t.txt from by unfold chosen; rw [if_neg k1, if_pos (.inl ⟨k2, hn⟩)]])
            have hnm := fun W => names_any (bs t.txt) W (by omega)
            rw [hn] at hnm
            clear k1 k2 k3 hn
            go_wp2_with fail
            refine (hnm _).mono ?_
            rintro e w2 ⟨rfl, hb⟩
            have d1 := (hb.cell (p := ⟨wr.heap.size, 1, none⟩) (by simp)).trans (show _ = some (Value.string (bs t.txt)) by go_simp)
            have hrow3 := owns_below (hrow.alloc _) hb
            have hB3 := (hB.alloc hB.size _).trans (hb.mono (Nat.le_trans hB.size (by simp)))
            generalize t.txt = S at *
            clear hb hrow hB c0 c1 c2 c3 c4 hm hxa hTw hGw hnm
            have hSz := bs_size S
            have hs3 := hB3.size
            by_cases hS : S = []
            · have te : (bs S).toList.isEmpty = true := by rw [hS]; exact bs_nil_empty
              have HE : Hid (shwOf t = [63]) := hid (by rw [HS.out, if_pos hS])
              clear hS hSz
              have HN : Hid ((T.take (k + 1)).map (fun t => Value.string (bs (shwOf t))) = (T.take k).map (fun t => Value.string (bs (shwOf t))) ++ [.string ⟨#[63]⟩]) := hid (by rw [T4.out, List.map_append, List.map_singleton, HE.out] <;> rfl)
              go_wp2_with (at_builtin; go_must (refine wpList_append_own _ rfl _ _ 22 rfl w.heap.size 9 i0 (.string ⟨#[]⟩) 1 16 Tryz.underlying22 hi hz0 hz1 hz2 rfl (by decide) _ _ _ rfl (hrow3.alloc _) ⟨w2.heap.size, 0, none⟩ 1 1 [.string ⟨#[63]⟩] rfl rfl (one_new w2 (.string ⟨#[63]⟩) 9) (by simp [Value.oneCell']) (by simp [maxLen]; omega) (by omega) (by simp; omega) ?_); intro v' w9 hown' hgrow _; obtain ⟨g', cap', rfl⟩ := ownsRow_succ hown')
              go_roundw
              case rel =>
                refine ⟨k + 1, by omega, by go_num, by rw [HN.out]; exact hown', ?_⟩
                exact (hB3.alloc hB3.size (.cells #[.string ⟨#[63]⟩] 9)).grown hgrow (by simp; omega) (fun k e => (hrow3.lt k e).1)
              case measure => simp [intOf]; omega
            · have te : (bs S).toList.isEmpty = false := by
                cases h : S with
                | nil => exact absurd h hS
                | cons c r => exact bs_cons_empty c r
              have HE : Hid (shwOf t = S) := hid (by rw [HS.out, if_neg hS])
              clear hS hSz
              have HN : Hid ((T.take (k + 1)).map (fun t => Value.string (bs (shwOf t))) = (T.take k).map (fun t => Value.string (bs (shwOf t))) ++ [.string (bs S)]) := hid (by rw [T4.out, List.map_append, List.map_singleton, HE.out] <;> rfl)
              go_wp2_with (at_builtin; go_must (refine wpList_append_own _ rfl _ _ 22 rfl w.heap.size 9 i0 (.string ⟨#[]⟩) 1 16 Tryz.underlying22 hi hz0 hz1 hz2 rfl (by decide) _ _ _ rfl (hrow3.alloc _) ⟨w2.heap.size, 0, none⟩ 1 1 [.string (bs S)] rfl rfl (one_new w2 (.string (bs S)) 9) (by simp [Value.oneCell']) (by simp [maxLen]; omega) (by omega) (by simp; omega) ?_); intro v' w9 hown' hgrow _; obtain ⟨g', cap', rfl⟩ := ownsRow_succ hown')
              go_roundw
              case rel =>
                refine ⟨k + 1, by omega, by go_num, by rw [HN.out]; exact hown', ?_⟩
                exact (hB3.alloc hB3.size (.cells #[.string (bs S)] 9)).grown hgrow (by simp; omega) (fun k e => (hrow3.lt k e).1)
              case measure => simp [intOf]; omega
          | false =>
            have HE : Hid (shwOf t = [63]) := hid (by unfold shwOf; rw [show chosen t = [] from by unfold chosen; rw [if_neg k1, if_neg (by rw [hn]; simp [k3])], if_pos rfl])
            have hnm := fun W => names_any (bs t.txt) W (by omega)
            rw [hn] at hnm
            clear k1 k2 k3 hn
            go_wp2_with fail
            refine (hnm _).mono ?_
            rintro e w2 ⟨rfl, hb⟩
            have d0 := (hb.cell (p := ⟨wr.heap.size, 0, none⟩) (by simp)).trans (show _ = some (Value.int .i64 t.kind) by go_simp)
            have hrow3 := owns_below (hrow.alloc _) hb
            have hB3 := (hB.alloc hB.size _).trans (hb.mono (Nat.le_trans hB.size (by simp)))
            clear hb hrow hB c0 c1 c2 c3 c4 hm hxa hTw hGw hnm
            have hs3 := hB3.size
            have HN : Hid ((T.take (k + 1)).map (fun t => Value.string (bs (shwOf t))) = (T.take k).map (fun t => Value.string (bs (shwOf t))) ++ [.string ⟨#[63]⟩]) := hid (by rw [T4.out, List.map_append, List.map_singleton, HE.out] <;> rfl)
            go_wp2_with (at_builtin; go_must (refine wpList_append_own _ rfl _ _ 22 rfl w.heap.size 9 i0 (.string ⟨#[]⟩) 1 16 Tryz.underlying22 hi hz0 hz1 hz2 rfl (by decide) _ _ _ rfl (hrow3.alloc _) ⟨w2.heap.size, 0, none⟩ 1 1 [.string ⟨#[63]⟩] rfl rfl (one_new w2 (.string ⟨#[63]⟩) 9) (by simp [Value.oneCell']) (by simp [maxLen]; omega) (by omega) (by simp; omega) ?_); intro v' w9 hown' hgrow _; obtain ⟨g', cap', rfl⟩ := ownsRow_succ hown')
            go_roundw
            case rel =>
              refine ⟨k + 1, by omega, by go_num, by rw [HN.out]; exact hown', ?_⟩
              exact (hB3.alloc hB3.size (.cells #[.string ⟨#[63]⟩] 9)).grown hgrow (by simp; omega) (fun k e => (hrow3.lt k e).1)
            case measure => simp [intOf]; omega
        · have t2 : (t.kind == 2) = false := by simpa using k2
          by_cases k3 : t.kind = 3
          · have t3 : (t.kind == 3) = true := by simp [k3]
            have hrc := fun W => Tryz.utf8_RuneCountInString (bs t.txt) W (by omega)
            have hct := fun W (h : ∃ m, World.cell? W ⟨4, 0, none⟩ = some (.int .i64 m)) => Tryz.strings_Contains ⟨glyphsL.toArray⟩ (bs t.txt) h.choose W (by decide) h.choose_spec
            rw [show (ByteArray.mk glyphsL.toArray).data.toList = glyphsL from rfl, bs_list] at hct
            by_cases hr1 : Lib.runeCount (bs t.txt) = 1
            · have tr : ((Lib.runeCount (bs t.txt) : Int) == 1) = true := by simp [hr1]
              have hmx : ∀ p, ∃ m, ((wr.alloc (.cells #[.int .i64 t.kind, .string (bs t.txt), .int .i64 t.val.kind, .slice as1 t.val.shape.length cs1, .slice ae1 t.val.elems.length ce1] 88)).iter (bs t.txt) p).cell? ⟨4, 0, none⟩ = some (.int .i64 m) := fun p => ((hGw.alloc _).below (below_iter _ _ _)).2.2
              cases hcn : Lib.contains glyphsL t.txt with
              | true =>
                have HS : Hid (shwOf t = if t.txt = [] then [63] else t.txt) := hid (by unfold shwOf; rw [show chosen t = t.txt from by unfold chosen; rw [if_neg k1, if_pos (.inr ⟨k3, hr1, hcn⟩)]])
                rw [hcn] at hct
                clear k1 k2 k3 hcn hr1
                go_wp2_with fail
                refine (hrc _).mono ?_
                rintro e w2 ⟨rfl, pos, hw2⟩
                have hmm := hmx pos
                have hit := below_iter (wr.alloc (.cells #[.int .i64 t.kind, .string (bs t.txt), .int .i64 t.val.kind, .slice as1 t.val.shape.length cs1, .slice ae1 t.val.elems.length ce1] 88)) (bs t.txt) pos
                rw [← hw2] at hit hmm; clear hw2
                have d1 := (hit.cell (p := ⟨wr.heap.size, 1, none⟩) (by simp)).trans (show _ = some (Value.string (bs t.txt)) by go_simp)
                have hrow3 := owns_below (hrow.alloc _) hit
                have hB3 := (hB.alloc hB.size _).trans (hit.mono (Nat.le_trans hB.size (by simp)))
                have hs3 := hB3.size
                clear hit hmx hrow hB c0 c1 c2 c3 c4 hm hxa hTw hGw hrc
                go_wp2_with fail
                refine (hct _ hmm).mono ?_
                rintro e w' ⟨rfl, hw'⟩
                obtain rfl := hw'.symm
                clear hct
                generalize t.txt = S at *
                have hSz := bs_size S
                have hs3 := hB3.size
                by_cases hS : S = []
                · have te : (bs S).toList.isEmpty = true := by rw [hS]; exact bs_nil_empty
                  have HE : Hid (shwOf t = [63]) := hid (by rw [HS.out, if_pos hS])
                  clear hS hSz
                  have HN : Hid ((T.take (k + 1)).map (fun t => Value.string (bs (shwOf t))) = (T.take k).map (fun t => Value.string (bs (shwOf t))) ++ [.string ⟨#[63]⟩]) := hid (by rw [T4.out, List.map_append, List.map_singleton, HE.out] <;> rfl)
                  go_wp2_with (at_builtin; go_must (refine wpList_append_own _ rfl _ _ 22 rfl w.heap.size 9 i0 (.string ⟨#[]⟩) 1 16 Tryz.underlying22 hi hz0 hz1 hz2 rfl (by decide) _ _ _ rfl (hrow3.alloc _) ⟨w2.heap.size, 0, none⟩ 1 1 [.string ⟨#[63]⟩] rfl rfl (one_new w2 (.string ⟨#[63]⟩) 9) (by simp [Value.oneCell']) (by simp [maxLen]; omega) (by omega) (by simp; omega) ?_); intro v' w9 hown' hgrow _; obtain ⟨g', cap', rfl⟩ := ownsRow_succ hown')
                  go_roundw
                  case rel =>
                    refine ⟨k + 1, by omega, by go_num, by rw [HN.out]; exact hown', ?_⟩
                    exact (hB3.alloc hB3.size (.cells #[.string ⟨#[63]⟩] 9)).grown hgrow (by simp; omega) (fun k e => (hrow3.lt k e).1)
                  case measure => simp [intOf]; omega
                · have te : (bs S).toList.isEmpty = false := by
                    cases h : S with
                    | nil => exact absurd h hS
                    | cons c r => exact bs_cons_empty c r
                  have HE : Hid (shwOf t = S) := hid (by rw [HS.out, if_neg hS])
                  clear hS hSz
                  have HN : Hid ((T.take (k + 1)).map (fun t => Value.string (bs (shwOf t))) = (T.take k).map (fun t => Value.string (bs (shwOf t))) ++ [.string (bs S)]) := hid (by rw [T4.out, List.map_append, List.map_singleton, HE.out] <;> rfl)
                  go_wp2_with (at_builtin; go_must (refine wpList_append_own _ rfl _ _ 22 rfl w.heap.size 9 i0 (.string ⟨#[]⟩) 1 16 Tryz.underlying22 hi hz0 hz1 hz2 rfl (by decide) _ _ _ rfl (hrow3.alloc _) ⟨w2.heap.size, 0, none⟩ 1 1 [.string (bs S)] rfl rfl (one_new w2 (.string (bs S)) 9) (by simp [Value.oneCell']) (by simp [maxLen]; omega) (by omega) (by simp; omega) ?_); intro v' w9 hown' hgrow _; obtain ⟨g', cap', rfl⟩ := ownsRow_succ hown')
                  go_roundw
                  case rel =>
                    refine ⟨k + 1, by omega, by go_num, by rw [HN.out]; exact hown', ?_⟩
                    exact (hB3.alloc hB3.size (.cells #[.string (bs S)] 9)).grown hgrow (by simp; omega) (fun k e => (hrow3.lt k e).1)
                  case measure => simp [intOf]; omega
              | false =>
                have HE : Hid (shwOf t = [63]) := hid (by unfold shwOf; rw [show chosen t = [] from by unfold chosen; rw [if_neg k1, if_neg (by simp [k2, hcn])], if_pos rfl])
                rw [hcn] at hct
                clear k1 k2 k3 hcn hr1
                go_wp2_with fail
                refine (hrc _).mono ?_
                rintro e w2 ⟨rfl, pos, hw2⟩
                have hmm := hmx pos
                have hit := below_iter (wr.alloc (.cells #[.int .i64 t.kind, .string (bs t.txt), .int .i64 t.val.kind, .slice as1 t.val.shape.length cs1, .slice ae1 t.val.elems.length ce1] 88)) (bs t.txt) pos
                rw [← hw2] at hit hmm; clear hw2
                have d1 := (hit.cell (p := ⟨wr.heap.size, 1, none⟩) (by simp)).trans (show _ = some (Value.string (bs t.txt)) by go_simp)
                have hrow3 := owns_below (hrow.alloc _) hit
                have hB3 := (hB.alloc hB.size _).trans (hit.mono (Nat.le_trans hB.size (by simp)))
                have hs3 := hB3.size
                clear hit hmx hrow hB c0 c1 c2 c3 c4 hm hxa hTw hGw hrc
                go_wp2_with fail
                refine (hct _ hmm).mono ?_
                rintro e w' ⟨rfl, hw'⟩
                obtain rfl := hw'.symm
                clear hct
                have hs3 := hB3.size
                have HN : Hid ((T.take (k + 1)).map (fun t => Value.string (bs (shwOf t))) = (T.take k).map (fun t => Value.string (bs (shwOf t))) ++ [.string ⟨#[63]⟩]) := hid (by rw [T4.out, List.map_append, List.map_singleton, HE.out] <;> rfl)
                go_wp2_with (at_builtin; go_must (refine wpList_append_own _ rfl _ _ 22 rfl w.heap.size 9 i0 (.string ⟨#[]⟩) 1 16 Tryz.underlying22 hi hz0 hz1 hz2 rfl (by decide) _ _ _ rfl (hrow3.alloc _) ⟨w2.heap.size, 0, none⟩ 1 1 [.string ⟨#[63]⟩] rfl rfl (one_new w2 (.string ⟨#[63]⟩) 9) (by simp [Value.oneCell']) (by simp [maxLen]; omega) (by omega) (by simp; omega) ?_); intro v' w9 hown' hgrow _; obtain ⟨g', cap', rfl⟩ := ownsRow_succ hown')
                go_roundw
                case rel =>
                  refine ⟨k + 1, by omega, by go_num, by rw [HN.out]; exact hown', ?_⟩
                  exact (hB3.alloc hB3.size (.cells #[.string ⟨#[63]⟩] 9)).grown hgrow (by simp; omega) (fun k e => (hrow3.lt k e).1)
                case measure => simp [intOf]; omega
            · have tr : ((Lib.runeCount (bs t.txt) : Int) == 1) = false := by rw [beq_eq_false_iff_ne]; omega
              have HE : Hid (shwOf t = [63]) := hid (by unfold shwOf; rw [show chosen t = [] from by unfold chosen; rw [if_neg k1, if_neg (by simp [k2, hr1])], if_pos rfl])
              clear k1 k2 k3 hr1
              go_wp2_with fail
              refine (hrc _).mono ?_
              rintro e w2 ⟨rfl, pos, hw2⟩
              have hit := below_iter (wr.alloc (.cells #[.int .i64 t.kind, .string (bs t.txt), .int .i64 t.val.kind, .slice as1 t.val.shape.length cs1, .slice ae1 t.val.elems.length ce1] 88)) (bs t.txt) pos
              rw [← hw2] at hit; clear hw2
              have d1 := (hit.cell (p := ⟨wr.heap.size, 1, none⟩) (by simp)).trans (show _ = some (Value.string (bs t.txt)) by go_simp)
              have hrow3 := owns_below (hrow.alloc _) hit
              have hB3 := (hB.alloc hB.size _).trans (hit.mono (Nat.le_trans hB.size (by simp)))
              have hs3 := hB3.size
              clear hit hct hrow hB c0 c1 c2 c3 c4 hm hxa hTw hGw hrc
              have hs3 := hB3.size
              have HN : Hid ((T.take (k + 1)).map (fun t => Value.string (bs (shwOf t))) = (T.take k).map (fun t => Value.string (bs (shwOf t))) ++ [.string ⟨#[63]⟩]) := hid (by rw [T4.out, List.map_append, List.map_singleton, HE.out] <;> rfl)
              go_wp2_with (at_builtin; go_must (refine wpList_append_own _ rfl _ _ 22 rfl w.heap.size 9 i0 (.string ⟨#[]⟩) 1 16 Tryz.underlying22 hi hz0 hz1 hz2 rfl (by decide) _ _ _ rfl (hrow3.alloc _) ⟨w2.heap.size, 0, none⟩ 1 1 [.string ⟨#[63]⟩] rfl rfl (one_new w2 (.string ⟨#[63]⟩) 9) (by simp [Value.oneCell']) (by simp [maxLen]; omega) (by omega) (by simp; omega) ?_); intro v' w9 hown' hgrow _; obtain ⟨g', cap', rfl⟩ := ownsRow_succ hown')
              go_roundw
              case rel =>
                refine ⟨k + 1, by omega, by go_num, by rw [HN.out]; exact hown', ?_⟩
                exact (hB3.alloc hB3.size (.cells #[.string ⟨#[63]⟩] 9)).grown hgrow (by simp; omega) (fun k e => (hrow3.lt k e).1)
              case measure => simp [intOf]; omega
          · have t3 : (t.kind == 3) = false := by simpa using k3
            have HE : Hid (shwOf t = [63]) := hid (by unfold shwOf; rw [show chosen t = [] from by unfold chosen; rw [if_neg k1, if_neg (by simp [k2, k3])], if_pos rfl])
            clear k1 k2 k3 hm hxa hTw hGw
            have hs3 := hB.size
            have HN : Hid ((T.take (k + 1)).map (fun t => Value.string (bs (shwOf t))) = (T.take k).map (fun t => Value.string (bs (shwOf t))) ++ [.string ⟨#[63]⟩]) := hid (by rw [T4.out, List.map_append, List.map_singleton, HE.out] <;> rfl)
            go_wp2_with (at_builtin; go_must (refine wpList_append_own _ rfl _ _ 22 rfl w.heap.size 9 i0 (.string ⟨#[]⟩) 1 16 Tryz.underlying22 hi hz0 hz1 hz2 rfl (by decide) _ _ _ rfl ((hrow.alloc _).alloc _) ⟨wr.heap.size + 1, 0, none⟩ 1 1 [.string ⟨#[63]⟩] rfl rfl (by have := one_new (wr.alloc (.cells #[.int .i64 t.kind, .string (bs t.txt), .int .i64 t.val.kind, .slice as1 t.val.shape.length cs1, .slice ae1 t.val.elems.length ce1] 88)) (.string ⟨#[63]⟩) 9; simpa using this) (by simp [Value.oneCell']) (by simp [maxLen]; omega) (by omega) (by simp; omega) ?_); intro v' w9 hown' hgrow _; obtain ⟨g', cap', rfl⟩ := ownsRow_succ hown')
            go_roundw
            case rel =>
              refine ⟨k + 1, by omega, by go_num, by rw [HN.out]; exact hown', ?_⟩
              exact ((hB.alloc hB.size (.cells #[.int .i64 t.kind, .string (bs t.txt), .int .i64 t.val.kind, .slice as1 t.val.shape.length cs1, .slice ae1 t.val.elems.length ce1] 88)).alloc (by simp; omega) (.cells #[.string ⟨#[63]⟩] 9)).grown hgrow (by simp; omega) (fun k e => (hrow.lt k e).1)
            case measure => simp [intOf]; omega
    · have hd : decide (k < T.length) = false := by simpa using hlt
      obtain rfl : k = T.length := by omega
      rw [List.take_of_length_le (Nat.le_refl _)] at hrow
      have hst : Strs wr (.slice av T.length cv) ((T.map shwOf).map bs) := by
        have := Strs.of_owns (xs := (T.map shwOf).map bs) (w := wr) (base := w.heap.size) (e := 9) (v := .slice av T.length cv) (by simpa [Function.comp_def] using hrow)
        exact this
      have hj := fun W (h : Strs W (.slice av T.length cv) ((T.map shwOf).map bs)) => join_any _ (T.map shwOf) ⟨#[32]⟩ W h (by rw [List.length_map]; exact hl) Hlen.out (by decide)
      go_wp2_with fail
      refine (hj _ hst).mono ?_
      rintro e w2 ⟨rfl, hb⟩
      go_wp2_with fail
      go_ret
      exact ⟨rfl, hB.trans (hb.mono hB.size)⟩
end Go.Proofs.YtijfnnjgcgmnaaaGreatDoor
