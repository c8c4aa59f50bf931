/- array.Text. -/
import Derived.Test.YtjapijkgjgfcnaaDoorTextNums
import Derived.Test.YtjapijkgjgfcnaaDoorPlace
namespace Go.Proofs.YtjapijkgjgfcnaaDoor
open Go.RowKit Go.Shelf
set_option linter.unusedVariables false

theorem elements_any (v : Value) (x : Arr) (w : World) (hT : Tabs w) (hx : IsArr w v x) (ho : okArr x = true) :
    Calls Tryd.prog 39 #[v] w fun e w' => e = .returned (.string (bs (elemText x))) ∧ Below w.heap.size w w' := by
  by_cases hk : x.kind = 2
  · exact elements_chars v x w hT hx ho hk
  · have := count_le _ _ (okArr_parts ho).1
    exact elements_nums v x w hT hx (by omega) hk

def textRes (x : Arr) : List UInt8 := if okArr x = true then textOf x else []
def itoaVals (xs : List Int) : List Value := xs.map fun n => .string (bs (Lib.itoa n))

theorem elemText_len (x : Arr) (ho : okArr x = true) (hr : Rng x.elems) : (elemText x).length ≤ 500000 := by
  have hl := count_le _ _ (okArr_parts ho).1
  unfold elemText
  split
  · have h1 := subst_length 39 39 (encs x.elems)
    have h2 := encs_length x.elems
    simp only [List.length_cons, List.length_append, List.length_nil]
    omega
  · split
    · simp
    · have := join_le 22 (x.elems.map dig) [32] (by
        intro y hy
        obtain ⟨n, hn, rfl⟩ := List.mem_map.1 hy
        obtain ⟨j, hj, rfl⟩ := List.getElem_of_mem hn
        have := hr j hj
        rw [List.getElem?_eq_getElem hj, Option.getD_some] at this
        exact dig_length _ this.1 this.2)
      simp only [List.length_map, List.length_cons, List.length_nil] at this
      omega

theorem bare_cases (x : Arr) :
    (bare x = true ∧ ((x.shape.length : Int) == 0) = true) ∨
    (bare x = true ∧ ((x.shape.length : Int) == 0) = false ∧ ((x.shape.length : Int) == 1) = true ∧ decide (1 < (x.elems.length : Int)) = true) ∨
    (bare x = true ∧ ((x.shape.length : Int) == 0) = false ∧ ((x.shape.length : Int) == 1) = true ∧ decide (1 < (x.elems.length : Int)) = false ∧ ((x.elems.length : Int) == 0) = true ∧ (x.kind == 2) = true) ∨
    (bare x = false ∧ ((x.shape.length : Int) == 0) = false ∧ ((x.shape.length : Int) == 1) = true ∧ decide (1 < (x.elems.length : Int)) = false ∧ ((x.elems.length : Int) == 0) = true ∧ (x.kind == 2) = false) ∨
    (bare x = false ∧ ((x.shape.length : Int) == 0) = false ∧ ((x.shape.length : Int) == 1) = true ∧ decide (1 < (x.elems.length : Int)) = false ∧ ((x.elems.length : Int) == 0) = false) ∨
    (bare x = false ∧ ((x.shape.length : Int) == 0) = false ∧ ((x.shape.length : Int) == 1) = false) := by
  unfold bare
  generalize x.shape.length = n
  generalize x.elems.length = m
  generalize x.kind = k
  have e0 : ((n : Int) == 0) = decide (n = 0) := by rw [Bool.eq_iff_iff, beq_iff_eq, decide_eq_true_eq]; omega
  have e1 : ((n : Int) == 1) = decide (n = 1) := by rw [Bool.eq_iff_iff, beq_iff_eq, decide_eq_true_eq]; omega
  have e2 : decide (1 < (m : Int)) = decide (1 < m) := by rw [Bool.eq_iff_iff, decide_eq_true_eq, decide_eq_true_eq]; omega
  have e3 : ((m : Int) == 0) = decide (m = 0) := by rw [Bool.eq_iff_iff, beq_iff_eq, decide_eq_true_eq]; omega
  have e4 : (k == 2) = decide (k = 2) := by rw [Bool.eq_iff_iff, beq_iff_eq, decide_eq_true_eq]
  rw [e0, e1, e2, e3, e4]
  cases decide (n = 0) <;> cases decide (n = 1) <;> cases decide (1 < m) <;> cases decide (m = 0) <;> cases decide (k = 2) <;> simp

/-- Three cells of a box. -/
def Box3 (w : World) (b : Nat) (v0 v1 v2 : Value) : Prop := w.cell? ⟨b, 0, none⟩ = some v0 ∧ w.cell? ⟨b, 1, none⟩ = some v1 ∧ w.cell? ⟨b, 2, none⟩ = some v2
theorem Box3.below {B : Nat} {w w' : World} {b : Nat} {v0 v1 v2 : Value} (h : Box3 w b v0 v1 v2) (hb : Below B w w') (hB : b < B) : Box3 w' b v0 v1 v2 :=
  ⟨(hb.cell (p := ⟨b, 0, none⟩) hB).trans h.1, (hb.cell (p := ⟨b, 1, none⟩) hB).trans h.2.1, (hb.cell (p := ⟨b, 2, none⟩) hB).trans h.2.2⟩

set_option maxRecDepth 100000 in
set_option maxHeartbeats 2000000 in
theorem text_any (v : Value) (x : Arr) (w : World) (hT : Tabs w) (hx : IsArr w v x) :
    Calls Tryd.prog 15 #[v] w fun e w' => e = .returned (.tuple #[.string (bs (textRes x)), .int .i64 (chk x)]) ∧ Below w.heap.size w w' := by
  obtain ⟨i0, hi, hz0, hz1, hz2⟩ := info_parts Tryd.infoStr
  have hxb := fun o => hx.below ((Below.refl _ w).alloc (Nat.le_refl _) o)
  have hB1 := fun o => (Below.refl _ w).alloc (Nat.le_refl _) o
  have hTb := fun o => hT.below (hB1 o)
  obtain ⟨vs, ve, hv, hs, he, hrng⟩ := hx
  cases ho : okArr x with
  | false =>
    have H1 : Hid (textRes x = []) := hid (by unfold textRes; rw [ho]; rfl)
    have H2 : Hid (chk x = 110) := hid (by unfold chk; rw [ho]; rfl)
    clear ho
    subst hv
    go_enter Tryd.func15, Tryd.ntmps15
    go_wp2_with fail
    refine (check_any _ x _ (hxb _)).mono ?_
    rintro e w' ⟨rfl, hb⟩
    rw [H2.out]
    have hB := (hB1 _).trans (hb.mono (hB1 _).size)
    go_wp2_with fail
    go_ret2
    exact ⟨by rw [H1.out, H2.out]; rfl, hB⟩
  | true =>
    have H1 : Hid (textRes x = textOf x) := hid (by unfold textRes; rw [ho]; rfl)
    have H2 : Hid (chk x = 0) := hid (by unfold chk; rw [ho]; rfl)
    have helt := elemText_len x ho hrng
    obtain ⟨ash, cs, rfl, hs1, hs2, hs3, hsc⟩ := hs.parts
    obtain ⟨ae, ce, rfl, he1, he2, he3, -⟩ := he.parts
    subst hv
    have hb3 : ∀ t, Box3 (w.alloc (.cells #[.int .i64 x.kind, .slice ash x.shape.length cs, .slice ae x.elems.length ce] t)) w.heap.size (.int .i64 x.kind) (.slice ash x.shape.length cs) (.slice ae x.elems.length ce) := fun t => ⟨by simp, by simp, by simp⟩
    go_enter Tryd.func15, Tryd.ntmps15
    go_wp2_with fail
    refine (check_any _ x _ (hxb _)).mono ?_
    rintro e w1 ⟨rfl, hb⟩
    rw [H2.out]
    have hb31 := (hb3 _).below hb (by simp)
    have hx1 := (hxb _).below hb
    have hT1 := (hTb _).below hb
    have hBw1 := (hB1 _).trans (hb.mono (hB1 _).size)
    have hsz1 : w.heap.size + 1 ≤ w1.heap.size := by have := hb.size; simpa using this
    obtain ⟨c0, c1, c2⟩ := hb31
    clear hb hb3
    go_wp2_with fail
    refine (elements_any _ x _ hT1 hx1 ho).mono ?_
    rintro e w2 ⟨rfl, hb⟩
    have hb32 := Box3.below ⟨c0, c1, c2⟩ hb (by omega)
    have hx2 := hx1.below hb
    have hT2 := hT1.below hb
    have hBw2 := hBw1.trans (hb.mono hBw1.size)
    have hsz2 : w.heap.size + 1 ≤ w2.heap.size := by have := hb.size; omega
    clear hb c0 c1 c2 hT1 hx1 hsz1 hBw1
    obtain ⟨c0, c1, c2⟩ := hb32
    generalize hes : bs (elemText x) = es at *
    have Hes := hid hes
    have hess : es.size ≤ 500000 := by rw [← hes, bs_size]; exact helt
    clear hes
    have hfit := fits_of_count _ _ (okArr_parts ho).1
    clear hxb hTb hx2 hs he
    rcases bare_cases x with ⟨Hb, t0⟩ | ⟨Hb, t0, t1, t2⟩ | ⟨Hb, t0, t1, t2, t3, t4⟩ | ⟨Hb, t0, t1, t2, t3, t4⟩ | ⟨Hb, t0, t1, t2, t3⟩ | ⟨Hb, t0, t1⟩
    iterate 3
      · have H3 : Hid (textOf x = elemText x) := hid (by unfold textOf; rw [Hb]; rfl)
        go_wp2_with fail
        go_quiet (fail)
        go_wp2_with fail
        go_ret2
        exact ⟨by rw [H1.out, H2.out, H3.out, Hes.out]; rfl, below_drewN hBw2 _⟩
    all_goals
      have H3 : Hid (textOf x = Lib.join (x.shape.map Lib.itoa) [32] ++ [226, 141, 180] ++ elemText x) := hid (by unfold textOf; rw [Hb]; rfl)
      go_wp2_with fail
      go_quiet (fail)
      go_wp2_with fail
      go_loopw [8, 48] (fun s i wr => ∃ k : Nat, k ≤ x.shape.length ∧ i = .int .i64 k ∧ wr.ownsRow (w.heap.size + 1) 9 1 s k (itoaVals (x.shape.take k)) ∧ Below w.heap.size w wr ∧ w.heap.size + 1 ≤ wr.heap.size) (fun _ i _ => x.shape.length - (intOf i).toNat)
      case atStart => exact ⟨0, by omega, rfl, World.ownsRow_nil _ _ _ _, below_drewN hBw2 _, by simpa using hsz2⟩
      case round =>
        obtain ⟨k, hk, rfl, hrow, hB, hsz⟩ := hrel
        by_cases hlt : k < x.shape.length
        · rcases hsc with h0 | ⟨b, o, rfl, hsc⟩
          · simp [h0] at hlt
          have hce := (hB.cell (World.block_lt_of_cell? w _ (hsc k hlt))).trans (hsc k hlt)
          have t1 : x.shape.take (k + 1) = x.shape.take k ++ [x.shape[k]?.getD 0] := take_succ_getD x.shape k hlt
          have hrn := hfit.2 k hlt
          have hf1 := hfit.1
          have hki : (k : Int) < (x.shape.length : Int) := by omega
          generalize x.shape[k]?.getD 0 = n at *
          have Hn : Hid (itoaVals (x.shape.take (k + 1)) = itoaVals (x.shape.take k) ++ [.string (bs (Lib.itoa n))]) := hid (by rw [t1]; simp [itoaVals])
          have hTw := hT.below hB
          clear t1 hsc hrng
          go_wp2_with fail
          refine (Tryd.strconv_Itoa n (by omega) (by omega) _ hTw.1).mono ?_
          rintro e w3 ⟨rfl, hg⟩
          have hb3 := below_grew hg
          have hrow3 := owns_below hrow hb3
          have hB3 := hB.trans (hb3.mono hB.size)
          have hsz3 : w.heap.size + 1 ≤ w3.heap.size := by have := hb3.size; omega
          clear hTw hg hb3 hB hrow hce
          change Hid (itoaVals (x.shape.take (k + 1)) = itoaVals (x.shape.take k) ++ [.string ⟨(Lib.itoa n).toArray⟩]) at Hn
          generalize (ByteArray.mk (Lib.itoa n).toArray) = pc at *
          go_wp2_with (at_builtin; go_must (refine wpList_append_own _ rfl _ _ 51 rfl (w.heap.size + 1) 9 i0 (.string ⟨#[]⟩) 1 16 Tryd.underlying51 hi hz0 hz1 hz2 rfl (by decide) _ _ _ rfl (hrow3.alloc _) ⟨w3.heap.size, 0, none⟩ 1 1 [.string pc] rfl rfl (one_new w3 (.string pc) 9) (by simp [Value.oneCell']) (by simp [maxLen]; omega) (by omega) (by simp; omega) ?_); intro v' w1 hown' hgrow _; obtain ⟨g', cap', rfl⟩ := ownsRow_succ hown')
          go_roundw
          case rel => exact ⟨k + 1, by omega, by go_num, by rw [Hn.out]; simpa using hown', (hB3.alloc hB3.size _).grown hgrow (by have := hB3.size; simp; omega) (fun k e => by have := (hrow3.lt k e).1; omega), by have := hgrow.size; simp at this; omega⟩
          case measure => simp [intOf]; omega
        · obtain rfl : k = x.shape.length := by omega
          rw [List.take_of_length_le (Nat.le_refl _)] at hrow
          have hst : Strs wr u8 ((x.shape.map Lib.itoa).map bs) := Strs.of_owns (by simpa [itoaVals, Function.comp_def] using hrow)
          have hln : (x.shape.map Lib.itoa).length ≤ 100000 := by rw [List.length_map]; have := hfit.1; omega
          have hbd : ∀ y ∈ x.shape.map Lib.itoa, y.length ≤ 21 := by
            intro y hy
            obtain ⟨n, hn, rfl⟩ := List.mem_map.1 hy
            obtain ⟨j, hj, rfl⟩ := List.getElem_of_mem hn
            have := hfit.2 j hj
            rw [List.getElem?_eq_getElem hj, Option.getD_some] at this
            exact Lib.itoa_length_le _ (by omega) (by omega)
          have hjl := join_le 21 (x.shape.map Lib.itoa) [32] hbd
          rw [List.length_map] at hjl
          have hf1 := hfit.1
          clear hsc hrng hrow hfit
          go_wp2_with fail
          refine (join_any u8 (x.shape.map Lib.itoa) ⟨#[32]⟩ _ hst hln (fun y hy => Nat.le_trans (hbd y hy) (by decide)) (by decide)).mono ?_
          rintro e w4 ⟨rfl, hb4⟩
          rw [show (ByteArray.mk #[32]).data.toList = [32] from rfl]
          have hjs : (bs (Lib.join (x.shape.map Lib.itoa) [32])).size ≤ 200 := by rw [bs_size]; simp only [List.length_cons, List.length_nil] at hjl; omega
          have H4 : Hid (bs (textOf x) = bs (Lib.join (x.shape.map Lib.itoa) [32]) ++ ⟨#[226, 141, 180]⟩ ++ es) := hid (by rw [H3.out, ← Hes.out]; apply ByteArray.ext; simp [bs])
          generalize bs (Lib.join (x.shape.map Lib.itoa) [32]) = js at *
          go_wp2_with fail
          go_ret2
          exact ⟨by rw [H1.out, H2.out, H4.out]; rfl, hB.trans (hb4.mono hB.size)⟩

end Go.Proofs.YtjapijkgjgfcnaaDoor
