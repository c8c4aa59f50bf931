/- array.Text: the elements of numbers; Text. -/
import Derived.Test.YtjapijkgjgfcnaaDoorText
import Derived.Test.YtjapijkgjgfcnaaDoorRSplit0
namespace Go.Proofs.YtjapijkgjgfcnaaDoor
open Go.RowKit Go.Shelf
set_option linter.unusedVariables false

def bs (l : List UInt8) : ByteArray := ⟨l.toArray⟩
theorem bs_list (l : List UInt8) : (bs l).data.toList = l := by simp [bs]
theorem bs_size (l : List UInt8) : (bs l).size = l.length := by simp [bs, ByteArray.size]

/-- strings.Join of strings that a slice reads as. -/
theorem join_any (v : Value) (xs : List (List UInt8)) (sep : ByteArray) (w : World) (hv : Strs w v (xs.map bs)) (hl : xs.length ≤ 100000) (hb : ∀ x ∈ xs, x.length ≤ 100000000) (hs : sep.size ≤ 1000) :
    Calls Tryd.prog 41 #[v, .string sep] w fun e w' => e = .returned (.string (bs (Lib.join xs sep.data.toList))) ∧ Below w.heap.size w w' := by
  obtain ⟨a, cap, rfl, h1, h2, h3, hc⟩ := hv.parts
  rcases hc with h0 | ⟨b, o, rfl, hc⟩
  · have : xs = [] := by simpa using h0
    subst this
    refine (Tryd.strings_Join_none a cap sep w).mono ?_
    rintro e w' ⟨rfl, rfl⟩
    exact ⟨rfl, Below.refl _ _⟩
  · cases xs with
    | nil =>
      refine (Tryd.strings_Join_none _ cap sep w).mono ?_
      rintro e w' ⟨rfl, rfl⟩
      exact ⟨rfl, Below.refl _ _⟩
    | cons x r =>
      have hm : ((x :: r).map bs).map (·.data.toList) = x :: r := by rw [List.map_map]; simp [Function.comp_def, bs_list]
      have hj := join_le 100000000 (x :: r) sep.data.toList hb
      have hsl : sep.data.toList.length = sep.size := by rw [Array.length_toList]; rfl
      have h4 : sep.data.toList.length * (x :: r).length ≤ 1000 * (x :: r).length := Nat.mul_le_mul_right _ (by omega)
      have hc0 := hc 0 (by simp)
      refine (Tryd.strings_Join b o cap ((x :: r).map bs) sep w ?_ (World.block_lt_of_cell? w _ hc0) (by rw [List.length_map]; omega) h1 (by rw [hm]; omega)).mono ?_
      · intro j y hy
        obtain ⟨hj, rfl⟩ := List.getElem?_eq_some_iff.1 hy
        exact hc j hj
      · rintro e w' ⟨rfl, hb'⟩
        rw [hm]
        exact ⟨rfl, hb'⟩

def digVals (xs : List Int) : List Value := xs.map fun n => .string (bs (dig n))

set_option maxRecDepth 100000 in
set_option maxHeartbeats 1000000 in
theorem elements_nums (v : Value) (x : Arr) (w : World) (hT : Tabs w) (hx : IsArr w v x) (hlen : x.elems.length ≤ 100000) (hk : x.kind ≠ 2) :
    Calls Tryd.prog 39 #[v] w fun e w' => e = .returned (.string (bs (elemText x))) ∧ Below w.heap.size w w' := by
  have H : Hid (elemText x = if x.elems = [] then [48] else Lib.join (x.elems.map dig) [32]) := hid (by unfold elemText; rw [if_neg hk])
  obtain ⟨i0, hi, hz0, hz1, hz2⟩ := info_parts Tryd.infoStr
  obtain ⟨vs, ve, rfl, hs, he, hrng⟩ := hx
  obtain ⟨kind, shape, elems⟩ := x
  simp only at hk hs he hlen H hrng ⊢
  have hk2 : (kind == (2 : Int)) = false := by simpa using hk
  obtain ⟨ae, cape, rfl, h1, h2, h3, hcell⟩ := he.parts
  clear hs hk
  by_cases h0 : elems.length = 0
  · have hem : elems = [] := List.eq_nil_of_length_eq_zero h0
    have hd : ((elems.length : Int) == 0) = true := by rw [beq_iff_eq]; omega
    have H' : Hid (elemText ⟨kind, shape, elems⟩ = [48]) := hid (by rw [H.out, if_pos hem])
    clear hem h0 H hcell
    go_enter Tryd.func39, Tryd.ntmps39
    go_wp2_with fail
    go_ret
    exact ⟨by rw [H'.out]; rfl, (Below.refl _ w).alloc (Nat.le_refl _) _⟩
  have hd : ((elems.length : Int) == 0) = false := by rw [beq_eq_false_iff_ne]; omega
  have H' : Hid (elemText ⟨kind, shape, elems⟩ = Lib.join (elems.map dig) [32]) := hid (by rw [H.out, if_neg (by intro e; simp [e] at h0)])
  clear H h0
  go_enter Tryd.func39, Tryd.ntmps39
  go_wp2_with fail
  go_loopw [6, 34] (fun s i wr => ∃ k : Nat, k ≤ elems.length ∧ i = .int .i64 k ∧ wr.ownsRow (w.heap.size + 1) 9 1 s k (digVals (elems.take k)) ∧ Below w.heap.size w wr ∧ w.heap.size + 1 ≤ wr.heap.size) (fun _ i _ => elems.length - (intOf i).toNat)
  case atStart => exact ⟨0, by omega, rfl, World.ownsRow_nil _ _ _ _, (Below.refl _ w).alloc (Nat.le_refl _) _, by simp⟩
  case round =>
    obtain ⟨k, hk, rfl, hrow, hB, hsz⟩ := hrel
    by_cases hlt : k < elems.length
    · rcases hcell with rfl | ⟨b, o, rfl, hcell⟩
      · simp at hlt
      have hce := (hB.cell (World.block_lt_of_cell? w _ (hcell k hlt))).trans (hcell k hlt)
      have t1 : elems.take (k + 1) = elems.take k ++ [elems[k]?.getD 0] := take_succ_getD elems k hlt
      have hrn := hrng k hlt
      have hki : (k : Int) < (elems.length : Int) := by omega
      generalize elems[k]?.getD 0 = n at *
      have Hn : Hid (digVals (elems.take (k + 1)) = digVals (elems.take k) ++ [.string (bs (dig n))]) := hid (by rw [t1]; simp [digVals])
      have hTw := hT.below hB
      clear t1 hcell hrng
      go_wp2_with fail
      refine (digits_any n hrn.1 hrn.2 _ hTw).mono ?_
      rintro e w2 ⟨rfl, hb2⟩
      have hrow2 := owns_below hrow hb2
      have hB2 := hB.trans (hb2.mono hB.size)
      have hsz2 : w.heap.size + 1 ≤ w2.heap.size := by have := hb2.size; omega
      clear hTw hb2 hB hrow hce
      change Hid (digVals (elems.take (k + 1)) = digVals (elems.take k) ++ [.string ⟨(dig n).toArray⟩]) at Hn
      generalize (ByteArray.mk (dig n).toArray) = pc at *
      go_wp2_with (at_builtin; go_must (refine wpList_append_own _ rfl _ _ 51 rfl (w.heap.size + 1) 9 i0 (.string ⟨#[]⟩) 1 16 Tryd.underlying51 hi hz0 hz1 hz2 rfl (by decide) _ _ _ rfl (hrow2.alloc _) ⟨w2.heap.size, 0, none⟩ 1 1 [.string pc] rfl rfl (one_new w2 (.string pc) 9) (by simp [Value.oneCell']) (by simp [maxLen]; omega) (by omega) (by simp; omega) ?_); intro v' w1 hown' hgrow _; obtain ⟨g', cap', rfl⟩ := ownsRow_succ hown')
      go_roundw
      case rel => exact ⟨k + 1, by omega, by go_num, by rw [Hn.out]; simpa using hown', (hB2.alloc hB2.size _).grown hgrow (by have := hB2.size; simp; omega) (fun k e => by have := (hrow2.lt k e).1; omega), by have := hgrow.size; simp at this; omega⟩
      case measure => simp [intOf]; omega
    · obtain rfl : k = elems.length := by omega
      rw [List.take_of_length_le (Nat.le_refl _)] at hrow
      have hst : Strs wr u6 ((elems.map dig).map bs) := Strs.of_owns (by simpa [digVals, Function.comp_def] using hrow)
      have hln : (elems.map dig).length ≤ 100000 := by simpa using hlen
      have hbd : ∀ x ∈ elems.map dig, x.length ≤ 100000000 := by
        intro x hx
        obtain ⟨n, hn, rfl⟩ := List.mem_map.1 hx
        obtain ⟨j, hj, rfl⟩ := List.getElem_of_mem hn
        have := hrng j hj
        rw [List.getElem?_eq_getElem hj, Option.getD_some] at this
        have := dig_length _ this.1 this.2
        omega
      clear hcell hrng hrow
      go_wp2_with fail
      refine (join_any u6 (elems.map dig) ⟨#[32]⟩ _ hst hln hbd (by decide)).mono ?_
      rintro e w2 ⟨rfl, hb2⟩
      rw [show (ByteArray.mk #[32]).data.toList = [32] from rfl, ← H'.out]
      go_wp2_with fail
      go_ret
      exact ⟨rfl, hB.trans (hb2.mono hB.size)⟩

end Go.Proofs.YtjapijkgjgfcnaaDoor
