/- Lists of tokens: whether two are the same, the reference's.
   lex.Same: whether two lists of tokens are the same. -/
import Derived.Test.YthlingdlehdlhaaGreatDoorToks
import Derived.Test.YthlingdlehdlhaaGreatDoorArrs
import Derived.Test.YthlingdlehdlhaaGreatDoorChars
namespace Go.Proofs.YthlingdlehdlhaaGreatDoor
open Go.RowKit Go.Shelf
set_option linter.unusedVariables false
set_option linter.unusedSimpArgs false

/-- A token's five cells lie at a place. -/
def TokAt (w : World) (b o : Nat) (t : Tok) (vs ve : Value) : Prop :=
  w.cell? ⟨b, o, none⟩ = some (.int .i64 t.kind) ∧ w.cell? ⟨b, o + 1, none⟩ = some (.string (bs t.txt)) ∧ w.cell? ⟨b, o + 2, none⟩ = some (.int .i64 t.val.kind) ∧ w.cell? ⟨b, o + 3, none⟩ = some vs ∧ w.cell? ⟨b, o + 4, none⟩ = some ve
/-- A slice of tokens that reads as a list. -/
def IsToks (w : World) (v : Value) (T : List Tok) : Prop :=
  ∃ a cap, v = .slice a T.length cap ∧ T.length ≤ cap ∧ cap ≤ 9223372036854775807 ∧ (a = none → cap = 0) ∧
    ∀ k t, T[k]? = some t → ∃ b o vs ve, a = some ⟨b, o, none⟩ ∧ TokAt w b (o + k * 5) t vs ve ∧ Ints w vs t.val.shape ∧ Ints w ve t.val.elems ∧ Rng t.val.elems
theorem TokAt.below {w w' : World} {b o : Nat} {t : Tok} {vs ve : Value} (h : TokAt w b o t vs ve) (hb : Below w.heap.size w w') : TokAt w' b o t vs ve := by
  obtain ⟨h0, h1, h2, h3, h4⟩ := h
  exact ⟨(hb.cell (World.block_lt_of_cell? w _ h0)).trans h0, (hb.cell (World.block_lt_of_cell? w _ h1)).trans h1, (hb.cell (World.block_lt_of_cell? w _ h2)).trans h2, (hb.cell (World.block_lt_of_cell? w _ h3)).trans h3, (hb.cell (World.block_lt_of_cell? w _ h4)).trans h4⟩
theorem IsToks.below {w w' : World} {v : Value} {T : List Tok} (h : IsToks w v T) (hb : Below w.heap.size w w') : IsToks w' v T := by
  obtain ⟨a, cap, e, h1, h2, h3, h4⟩ := h
  refine ⟨a, cap, e, h1, h2, h3, fun k t hk => ?_⟩
  obtain ⟨b, o, vs, ve, e1, e2, e3, e4, e5⟩ := h4 k t hk
  exact ⟨b, o, vs, ve, e1, e2.below hb, e3.below hb, e4.below hb, e5⟩
theorem IsToks.nil (w : World) : IsToks w (.slice none 0 0) [] := ⟨none, 0, rfl, Nat.le_refl _, by omega, fun _ => rfl, fun k t hk => by simp at hk⟩

theorem take_get {cur : List Value} {n m i : Nat} {u : List Value} (h : ((cur.take n).drop m).take 5 = u) (hi : i < 5) (hu : u.length = 5) : cur[m + i]? = u[i]? := by
  have h2 : u[i]? = (cur.take n)[m + i]? := by
    rw [← h, List.getElem?_take_of_lt hi, List.getElem?_drop]
  rw [h2, List.getElem?_take]
  split
  · rfl
  · rename_i hge
    have hlen : u.length = 5 := hu
    rw [← h, List.length_take, List.length_drop, List.length_take] at hlen
    omega

theorem IsToks.of_own {w : World} {base : Nat} {v : Value} {us : List (List Value)} {T : List Tok} (h : w.ownsRow base 48 5 v T.length us.flatten) (ht : ToksOwn w base us T) : IsToks w v T := by
  obtain ⟨h1, ⟨rfl, h2⟩ | ⟨g, cap, cur, rfl, h3, h4, h5, h6, h7, h8⟩⟩ := h
  · obtain rfl : T = [] := List.eq_nil_of_length_eq_zero h2
    exact .nil w
  · refine ⟨some ⟨g, 0, none⟩, cap, rfl, h5, by simpa [maxLen] using h6, by simp, fun k t hk => ?_⟩
    obtain ⟨hk', rfl⟩ := List.getElem?_eq_some_iff.1 hk
    obtain ⟨u, hu1, hu2, hu3⟩ := ht.at k hk'
    have h5' := tok_five hu2
    obtain ⟨vs, ve, hu, o1, o2, o3⟩ := hu2
    have hu' : u = [.int .i64 T[k].kind, .string (bs T[k].txt), .int .i64 T[k].val.kind, vs, ve] := by
      have : u.toArray = #[.int .i64 T[k].kind, .string (bs T[k].txt), .int .i64 T[k].val.kind, vs, ve] := by simpa using hu
      simpa using congrArg Array.toList this
    rw [← h8] at hu3
    have hc : ∀ i, i < 5 → w.cell? ⟨g, 0 + k * 5 + i, none⟩ = u[i]? := by
      intro i hi
      have := take_get hu3 hi h5'
      rw [World.cell?, h4]
      simp only [Nat.zero_add]
      rw [← Array.getElem?_toList, this]
      cases u[i]? <;> rfl
    refine ⟨g, 0, vs, ve, rfl, ⟨?_, ?_, ?_, ?_, ?_⟩, Ints.of_owns o1, Ints.of_owns o2, o3⟩
    · have := hc 0 (by omega); rw [hu'] at this; exact this
    · have := hc 1 (by omega); rw [hu'] at this; exact this
    · have := hc 2 (by omega); rw [hu'] at this; exact this
    · have := hc 3 (by omega); rw [hu'] at this; exact this
    · have := hc 4 (by omega); rw [hu'] at this; exact this

theorem bs_txt (a b : List UInt8) : ((bs a).toList == (bs b).toList) = decide (a = b) := by
  rw [ByteArray.toList_eq, ByteArray.toList_eq, bs_list, bs_list, Bool.eq_iff_iff, beq_iff_eq, decide_eq_true_eq]
theorem take_one {α : Type} (xs : List α) (k : Nat) (t : α) (h : xs[k]? = some t) : xs.take (k + 1) = xs.take k ++ [t] := by rw [List.take_add_one, h]; rfl

set_option maxRecDepth 100000 in
set_option maxHeartbeats 4000000 in
theorem rtsame_any (va vb : Value) (X Y : List Tok) (w : World) (hx : IsToks w va X) (hy : IsToks w vb Y) :
    Calls Tryz.prog 10 #[va, vb] w fun e w' => e = .returned (.bool (decide (X = Y))) ∧ Below w.heap.size w w' := by
  obtain ⟨a, cap, rfl, h1, h2, h3, hc⟩ := hx
  obtain ⟨a', cap', rfl, h1', h2', h3', hc'⟩ := hy
  go_enter Tryz.func10, Tryz.ntmps10
  by_cases hlen : X.length = Y.length
  · have t3 : ((X.length : Int) != (Y.length : Int)) = false := by simp [hlen]
    have Hlen := hid hlen
    have hlen' : ¬ X.length < Y.length := by omega
    have hlen2 : ¬ Y.length < X.length := by omega
    clear hlen
    go_wp2_with fail
    go_loopw [5, 6] (fun i _ wr => ∃ k : Nat, k ≤ X.length ∧ i = .int .i64 k ∧ X.take k = Y.take k ∧ Below w.heap.size w wr) (fun i _ _ => X.length - (intOf i).toNat)
    case atStart => exact ⟨0, by omega, rfl, by simp, Below.refl _ _⟩
    case round =>
      obtain ⟨k, hk, rfl, ht, hB⟩ := hrel
      by_cases hlt : k < X.length
      · have hd : decide (k < X.length) = true := by simpa using hlt
        have hkX : X[k]? = some X[k] := List.getElem?_eq_getElem hlt
        have hkY : Y[k]? = some (Y[k]'(by omega)) := List.getElem?_eq_getElem (by omega)
        generalize X[k] = x at *
        generalize Y[k]'(by omega) = y at *
        obtain ⟨b, o, vs, ve, rfl, at1, i1, i2, i3⟩ := hc k x hkX
        obtain ⟨b', o', vs', ve', rfl, at1', i1', i2', i3'⟩ := hc' k y hkY
        have hAx := at1.below hB
        have hAy := at1'.below hB
        have hix : IsArr wr (.agg #[.int .i64 x.val.kind, vs, ve]) x.val := ⟨vs, ve, rfl, i1.below hB, i2.below hB, i3⟩
        have hiy : IsArr wr (.agg #[.int .i64 y.val.kind, vs', ve']) y.val := ⟨vs', ve', rfl, i1'.below hB, i2'.below hB, i3'⟩
        obtain ⟨c0, c1, c2, c3, c4⟩ := hAx
        obtain ⟨d0, d1, d2, d3, d4⟩ := hAy
        have t4 := take_one X k x hkX
        have t5 := take_one Y k y hkY
        have T4 := hid t4
        have T5 := hid t5
        have Ht := hid ht
        have hki : (k : Int) < (X.length : Int) := by omega
        have hki' : (k : Int) < (Y.length : Int) := by omega
        clear hkX hkY at1 at1' i1 i2 i1' i2' t4 t5 ht
        go_wp2
        go_region_held3 (fun w' => w'.cell? ⟨b, o + k * 5 + 2, none⟩ = some (.int .i64 x.val.kind) ∧ w'.cell? ⟨b, o + k * 5 + 3, none⟩ = some vs ∧ w'.cell? ⟨b, o + k * 5 + 4, none⟩ = some ve ∧ w'.cell? ⟨b', o' + k * 5 + 2, none⟩ = some (.int .i64 y.val.kind) ∧ w'.cell? ⟨b', o' + k * 5 + 3, none⟩ = some vs' ∧ w'.cell? ⟨b', o' + k * 5 + 4, none⟩ = some ve')
          (first
            | exact ⟨(hb.cell (World.block_lt_of_cell? wr _ c2)).trans c2, (hb.cell (World.block_lt_of_cell? wr _ c3)).trans c3, (hb.cell (World.block_lt_of_cell? wr _ c4)).trans c4, (hb.cell (World.block_lt_of_cell? wr _ d2)).trans d2, (hb.cell (World.block_lt_of_cell? wr _ d3)).trans d3, (hb.cell (World.block_lt_of_cell? wr _ d4)).trans d4⟩
            | exact ⟨c2, c3, c4, d2, d3, d4⟩ | fail)
          ((go_at_call 42; refine (rsame_any _ _ x.val y.val _ (hix.below (below_drewN (Below.refl _ _) _)) (hiy.below (below_drewN (Below.refl _ _) _))).mono ?_; rintro e w'' ⟨rfl, hb⟩))
        have e0 := (hb.cell (World.block_lt_of_cell? wr _ c0)).trans c0
        have e1 := (hb.cell (World.block_lt_of_cell? wr _ c1)).trans c1
        have f0 := (hb.cell (World.block_lt_of_cell? wr _ d0)).trans d0
        have f1 := (hb.cell (World.block_lt_of_cell? wr _ d1)).trans d1
        have hB5 := hB.trans ((below_drewN (Below.refl _ wr) 1).trans (hb.mono (Nat.le_refl _)) |>.mono hB.size)
        have Htt := hid (bs_txt x.txt y.txt)
        clear c0 c1 c2 c3 c4 d0 d1 d2 d3 d4 hix hiy hb hB
        by_cases hk1 : x.kind = y.kind
        · have t1 : (x.kind != y.kind) = false := by simp [hk1]
          by_cases hk2 : x.txt = y.txt
          · have t2 : ((bs x.txt).toList == (bs y.txt).toList) = true := by rw [Htt.out]; exact decide_eq_true hk2
            by_cases hk3 : x.val = y.val
            · have t6 : sameB x.val y.val = true := (sameB_eq _ _).2 hk3
              have HN : Hid (X.take (k + 1) = Y.take (k + 1)) := hid (by
                rw [T4.out, T5.out, Ht.out]; congr 2; cases x; cases y; simp only at hk1 hk2 hk3; rw [hk1, hk2, hk3])
              rw [t6]
              clear hk1 hk2 hk3 t6
              go_wp2
              go_quiet (fail)
              go_wp2
              go_roundw
              case rel => exact ⟨k + 1, by omega, by go_num, HN.out, below_drewN hB5 _⟩
              case measure => simp [intOf]; omega
            · have t6 : sameB x.val y.val = false := by
                cases hs : sameB x.val y.val
                · rfl
                · exact absurd ((sameB_eq _ _).1 hs) hk3
              have HN : Hid (X ≠ Y) := hid (fun e => by
                rw [e] at T4; have := T4.out.symm.trans T5.out; simp at this; exact hk3 (by rw [this]))
              rw [t6]
              clear hk1 hk2 hk3 t6
              go_wp2
              go_quiet (fail)
              go_wp2
              go_ret
              exact ⟨by rw [decide_eq_false HN.out]; rfl, below_drewN hB5 _⟩
          · have t2 : ((bs x.txt).toList == (bs y.txt).toList) = false := by rw [Htt.out]; exact decide_eq_false hk2
            have HN : Hid (X ≠ Y) := hid (fun e => by
              rw [e] at T4; have := T4.out.symm.trans T5.out; simp at this; exact hk2 (by rw [this]))
            clear hk1 hk2
            generalize sameB x.val y.val = sb at *
            go_wp2
            go_quiet (fail)
            go_wp2
            go_ret
            exact ⟨by rw [decide_eq_false HN.out]; rfl, below_drewN hB5 _⟩
        · have t1 : (x.kind != y.kind) = true := by simpa using hk1
          have HN : Hid (X ≠ Y) := hid (fun e => by
            rw [e] at T4; have := T4.out.symm.trans T5.out; simp at this; exact hk1 (by rw [this]))
          clear hk1
          generalize sameB x.val y.val = sb at *
          go_wp2
          go_quiet (fail)
          go_wp2
          go_ret
          exact ⟨by rw [decide_eq_false HN.out]; rfl, below_drewN hB5 _⟩
      · have hd : decide (k < X.length) = false := by simpa using hlt
        have HE : Hid (X = Y) := hid (by
          have := Hlen.out
          rw [List.take_of_length_le (by omega), List.take_of_length_le (by omega)] at ht; exact ht)
        clear ht
        go_wp2
        go_ret
        exact ⟨by rw [decide_eq_true HE.out]; rfl, hB⟩
  · have t3 : ((X.length : Int) != (Y.length : Int)) = true := by rw [bne_iff_ne]; omega
    have HN : Hid (X ≠ Y) := hid (fun e => hlen (by rw [e]))
    clear hlen
    go_wp2_with fail
    go_ret
    exact ⟨by rw [decide_eq_false HN.out]; rfl, Below.refl _ _⟩
end Go.Proofs.YthlingdlehdlhaaGreatDoor

namespace Go.Proofs.YthlingdlehdlhaaGreatDoor
open Go.RowKit Go.Shelf
set_option linter.unusedVariables false
set_option linter.unusedSimpArgs false

end Go.Proofs.YthlingdlehdlhaaGreatDoor
