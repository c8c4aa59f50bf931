/- array.Text: digits, elements, Text.
   array.Text: the elements of numbers; Text.
   array.Text.
   Two arrays that may be have one text just if they are the same: plain lists. -/
import Derived.Test.YtijfnnjgcgmnaaaGreatDoorArrB
import Derived.Test.YtijfnnjgcgmnaaaGreatDoorLx
import Derived.Test.YtijfnnjgcgmnaaaGreatDoorCnt
namespace Go.Proofs.YtijfnnjgcgmnaaaGreatDoor
open Go.RowKit Go.Shelf
open Go.Sort (grow)
set_option linter.unusedVariables false

/-- What the texts' functions read of the program's tables. -/
def Tabs (w : World) : Prop := Lib.TabIs Tryz.prog w "internal/strconv.uint64pow10" .u64 Lib.pow10Tab ∧ ∃ m, w.cell? ⟨4, 0, none⟩ = some (.int .i64 m)

theorem tabIs_below {n : String} {g : Nat} {k : IntKind} {zs : List Int} {w w' : World} (hg : Tryz.prog.globalNamed n = some g) (h : Lib.TabIs Tryz.prog w n k zs) (hb : Below w.heap.size w w') : Lib.TabIs Tryz.prog w' n k zs := by
  unfold Lib.TabIs World.var? at h ⊢
  rw [hg] at h ⊢
  simp only [Option.bind_some] at h ⊢
  have hlt : g < w.heap.size := by
    rcases Nat.lt_or_ge g w.heap.size with h' | h'
    · exact h'
    · rw [Array.getElem?_eq_none h'] at h; cases h
  rw [hb.block g hlt]
  exact h

theorem Tabs.below {w w' : World} (h : Tabs w) (hb : Below w.heap.size w w') : Tabs w' := by
  obtain ⟨h1, m, h2⟩ := h
  exact ⟨tabIs_below (g := 5) (by kernel_rfl) h1 hb, m, (hb.cell (World.block_lt_of_cell? w _ h2)).trans h2⟩

theorem below_grew {w w' : World} (h : ∃ k os, w' = grow (w.drewN k) os) : Below w.heap.size w w' := by
  obtain ⟨k, os, rfl⟩ := h
  refine ⟨rfl, rfl, rfl, by simp [grow], fun b hb => ?_⟩
  simp [grow, Array.getElem?_append_left hb]

theorem mk_toArray (l : List UInt8) : (ByteArray.mk l.toArray).data.toList = l := by simp
theorem mk_size (l : List UInt8) : (ByteArray.mk l.toArray).size = l.length := by simp [ByteArray.size]

set_option maxRecDepth 100000 in
theorem digits_any (n : Int) (h0 : -9223372036854775808 ≤ n) (h1 : n ≤ 9223372036854775807) (w : World) (hT : Tabs w) :
    Calls Tryz.prog 154 #[.int .i64 n] w fun e w' => e = .returned (.string ⟨(dig n).toArray⟩) ∧ Below w.heap.size w w' := by
  have hl := Lib.itoa_length_le n h0 h1
  go_enter Tryz.func154, Tryz.ntmps154
  go_wp2_with fail
  refine (Tryz.strconv_FormatInt_10 n h0 h1 _ hT.1).mono ?_
  rintro e w1 ⟨rfl, hg⟩
  have hb1 := below_grew hg
  obtain ⟨-, m, hm⟩ := hT.below hb1
  have hsz : (ByteArray.mk (Lib.itoa n).toArray).size ≤ 21 := by rw [mk_size]; exact hl
  have hcl : Lib.countB (ByteArray.mk (Lib.itoa n).toArray) ⟨#[45]⟩ ≤ (ByteArray.mk (Lib.itoa n).toArray).size := Lib.countB_le _ (by decide) _ _ (Nat.le_refl _)
  clear hg
  go_wp2_with fail
  refine (Tryz.strings_Replace ⟨(Lib.itoa n).toArray⟩ ⟨#[45]⟩ ⟨#[194, 175]⟩ 1 m _ (by omega) hm (by decide) (by rw [show (ByteArray.mk #[194, 175]).size = 2 from rfl]; omega)).mono ?_
  rintro e w2 ⟨rfl, hb2⟩
  have H : Hid (Lib.replace (ByteArray.mk (Lib.itoa n).toArray).data.toList (ByteArray.mk #[45]).data.toList (ByteArray.mk #[194, 175]).data.toList 1 = dig n) := hid (by rw [mk_toArray]; exact replace_dig n)
  rw [H.out]
  go_wp2_with fail
  go_ret
  exact ⟨rfl, hb1.trans (hb2.mono hb1.size)⟩

theorem okArr_parts {x : Arr} (h : okArr x = true) : count x.shape = some (x.elems.length : Int) ∧ (x.kind = 1 ∨ (x.kind = 2 ∧ hasOdd x.elems = false)) := by
  unfold okArr at h
  rw [Bool.and_eq_true, decide_eq_true_eq, Bool.or_eq_true, Bool.and_eq_true, decide_eq_true_eq, decide_eq_true_eq, Bool.not_eq_true'] at h
  exact h

theorem countFold_le (xs : List Int) (a n : Int) (h : countFold xs a = some n) : n ≤ 4096 := by
  induction xs generalizing a with
  | nil => unfold countFold at h; split at h <;> simp at h; omega
  | cons l r ih =>
    unfold countFold at h
    split at h
    · simp at h
    · exact ih _ h

theorem count_le (xs : List Int) (n : Int) (h : count xs = some n) : n ≤ 4096 := by
  unfold count at h
  split at h
  · simp at h
  · exact countFold_le _ _ _ h

theorem hasOdd_get {xs : List Int} (h : hasOdd xs = false) (i : Nat) (hi : i < xs.length) : 0 ≤ xs[i]?.getD 0 ∧ xs[i]?.getD 0 ≤ 1114111 := by
  unfold hasOdd at h
  rw [List.any_eq_false] at h
  have := h (xs[i]?.getD 0) (by rw [List.getElem?_eq_getElem hi, Option.getD_some]; exact List.getElem_mem hi)
  simp [isChar] at this
  exact ⟨this.1, this.2.1⟩

theorem subst_length (c d : UInt8) (s : List UInt8) : (subst c [d, d] s).length ≤ 2 * s.length := by
  induction s with
  | nil => simp [subst]
  | cons b r ih =>
    unfold subst at *
    rw [List.flatMap_cons, List.length_append, List.length_cons]
    split <;> simp only [List.length_cons, List.length_nil] <;> omega
theorem encs_snoc (xs : List Int) (n : Int) : encs (xs ++ [n]) = encs xs ++ Lib.encodeRune n := by simp [encs]
theorem byteCells_snoc (a b : List UInt8) : Lib.byteCells (a ++ b) = Lib.byteCells a ++ Lib.byteCells b := by simp [Lib.byteCells]

theorem str_app3 (t : List UInt8) : ByteArray.mk #[39] ++ ⟨t.toArray⟩ ++ ByteArray.mk #[39] = ⟨(39 :: (t ++ [39])).toArray⟩ := by
  apply ByteArray.ext; simp

theorem fresh_builder {B b : Nat} {w : World} (hb : b = w.heap.size) (h : B ≤ b) : Lib.IsBuilderF 73 5 B b [] (w.alloc (.cells #[.pointer none, .slice none 0 0] 73)) :=
  Lib.IsBuilderF.of (.inl ⟨h, .slice none 0 0, by subst hb; show (w.heap.push _)[w.heap.size]? = _; simp, World.ownsRow_nil _ _ _ _, by simp [Value.ownBlock]⟩)

set_option maxRecDepth 100000 in
set_option maxHeartbeats 1000000 in
theorem elements_chars (v : Value) (x : Arr) (w : World) (hT : Tabs w) (hx : IsArr w v x) (ho : okArr x = true) (hk : x.kind = 2) :
    Calls Tryz.prog 117 #[v] w fun e w' => e = .returned (.string ⟨(elemText x).toArray⟩) ∧ Below w.heap.size w w' := by
  obtain ⟨hc, hkk⟩ := okArr_parts ho
  have hlen := count_le _ _ hc
  have hodd : hasOdd x.elems = false := by
    rcases hkk with h | h
    · omega
    · exact h.2
  have H : Hid (elemText x = 39 :: (subst 39 [39, 39] (encs x.elems) ++ [39])) := hid (by unfold elemText; rw [if_pos hk])
  clear ho hc hkk
  obtain ⟨vs, ve, rfl, hs, he, -⟩ := hx
  obtain ⟨kind, shape, elems⟩ := x
  simp only at hk hs he hlen hodd H ⊢
  subst hk
  obtain ⟨ae, cape, rfl, h1, h2, h3, hcell⟩ := he.parts
  clear hs
  go_enter Tryz.func117, Tryz.ntmps117
  go_wp2
  go_loopw [15] (fun i wr => ∃ k : Nat, k ≤ elems.length ∧ i = .int .i64 k ∧ Lib.IsBuilderF 73 5 (w.heap.size + 1) (w.heap.size + 1) (Lib.byteCells (encs (elems.take k))) wr ∧ Below w.heap.size w wr ∧ w.heap.size + 2 ≤ wr.heap.size) (fun i _ => elems.length - (intOf i).toNat)
  case atStart => exact ⟨0, by omega, rfl, fresh_builder (by simp) (by omega), ((Below.refl _ w).alloc (Nat.le_refl _) _).alloc (by simp) _, by simp⟩
  case round =>
    obtain ⟨k, hk, rfl, hbd, hB, hsz⟩ := hrel
    by_cases hlt : k < elems.length
    · rcases hcell with rfl | ⟨b, o, rfl, hcell⟩
      · simp at hlt
      have hce := (hB.cell (World.block_lt_of_cell? w _ (hcell k hlt))).trans (hcell k hlt)
      have t1 : elems.take (k + 1) = elems.take k ++ [elems[k]?.getD 0] := take_succ_getD elems k hlt
      have hrn := hasOdd_get hodd k hlt
      have hki : (k : Int) < (elems.length : Int) := by omega
      have hel := encs_length (elems.take k)
      have htl : (elems.take k).length ≤ k := by rw [List.length_take]; omega
      generalize elems[k]?.getD 0 = n at *
      have Hn : Hid (Lib.byteCells (encs (elems.take (k + 1))) = Lib.byteCells (encs (elems.take k)) ++ Lib.runeCells n) := hid (by rw [t1, encs_snoc, byteCells_snoc, Lib.byteCells_encodeRune])
      have hw32 : wrap32 n = n := by unfold wrap32; omega
      clear t1 hcell hodd
      go_wp2_with (go_at_call 152; go_must (refine (writeRune_k (w.heap.size + 1) (w.heap.size + 1) _ n (by omega) (by omega) wr hbd (by rw [Lib.byteCells_length]; omega) (by omega)).mono ?_); rintro e w' ⟨rfl, hbd', hbel', -⟩)
      go_roundw
      case rel => exact ⟨k + 1, by omega, by go_num, by rw [Hn.out]; exact .inr hbd', hB.trans (hbel'.mono (by omega)), by have := hbel'.size; omega⟩
      case measure => simp [intOf]; omega
    · have ht : elems.take k = elems := List.take_of_length_le (by omega)
      rw [ht] at hbd
      have hel := encs_length elems
      clear hcell hodd ht
      go_wp2_with fail
      refine (Tryz.Builder_String_any_k (w.heap.size + 1) (w.heap.size + 1) (encs elems) wr hbd (by omega)).mono ?_
      rintro e w1 ⟨rfl, -, hb1, -⟩
      have hB1 : Below w.heap.size w w1 := hB.trans (hb1.mono (by omega))
      obtain ⟨-, m, hm⟩ := hT.below hB1
      have hsz1 : (ByteArray.mk (encs elems).toArray).size ≤ 16384 := by rw [mk_size]; omega
      have hcl : Lib.countB (ByteArray.mk (encs elems).toArray) ⟨#[39]⟩ ≤ (ByteArray.mk (encs elems).toArray).size := Lib.countB_le _ (by decide) _ _ (Nat.le_refl _)
      have Hr : Hid (Lib.replaceAll (ByteArray.mk (encs elems).toArray).data.toList (ByteArray.mk #[39]).data.toList (ByteArray.mk #[39, 39]).data.toList = subst 39 [39, 39] (encs elems)) := hid (by rw [mk_toArray]; exact replaceAll_one 39 [39, 39] _ (by decide))
      clear hbd hB hb1 hT
      go_wp2_with fail
      refine (Tryz.strings_ReplaceAll ⟨(encs elems).toArray⟩ ⟨#[39]⟩ ⟨#[39, 39]⟩ m _ (by omega) hm (by decide) (by rw [show (ByteArray.mk #[39, 39]).size = 2 from rfl]; omega)).mono ?_
      rintro e w2 ⟨rfl, hb2⟩
      rw [Hr.out]
      have hsub : (subst 39 [39, 39] (encs elems)).length ≤ 2 * (encs elems).length := subst_length _ _ _
      generalize subst 39 [39, 39] (encs elems) = t at *
      have hts : (ByteArray.mk t.toArray).size ≤ 40000 := by rw [mk_size]; omega
      go_wp2_with fail
      go_ret
      exact ⟨by rw [H.out, ← str_app3]; rfl, hB1.trans (hb2.mono hB1.size)⟩

end Go.Proofs.YtijfnnjgcgmnaaaGreatDoor

namespace Go.Proofs.YtijfnnjgcgmnaaaGreatDoor
open Go.RowKit Go.Shelf
set_option linter.unusedVariables false

def bs (l : List UInt8) : ByteArray := ⟨l.toArray⟩
theorem bs_list (l : List UInt8) : (bs l).data.toList = l := by simp [bs]
theorem bs_size (l : List UInt8) : (bs l).size = l.length := by simp [bs, ByteArray.size]

/-- strings.Join of strings that a slice reads as. -/
theorem join_any (v : Value) (xs : List (List UInt8)) (sep : ByteArray) (w : World) (hv : Strs w v (xs.map bs)) (hl : xs.length ≤ 100000) (hb : ∀ x ∈ xs, x.length ≤ 100000000) (hs : sep.size ≤ 1000) :
    Calls Tryz.prog 54 #[v, .string sep] w fun e w' => e = .returned (.string (bs (Lib.join xs sep.data.toList))) ∧ Below w.heap.size w w' := by
  obtain ⟨a, cap, rfl, h1, h2, h3, hc⟩ := hv.parts
  rcases hc with h0 | ⟨b, o, rfl, hc⟩
  · have : xs = [] := by simpa using h0
    subst this
    refine (Tryz.strings_Join_none a cap sep w).mono ?_
    rintro e w' ⟨rfl, rfl⟩
    exact ⟨rfl, Below.refl _ _⟩
  · cases xs with
    | nil =>
      refine (Tryz.strings_Join_none _ cap sep w).mono ?_
      rintro e w' ⟨rfl, rfl⟩
      exact ⟨rfl, Below.refl _ _⟩
    | cons x r =>
      have hm : ((x :: r).map bs).map (·.data.toList) = x :: r := by rw [List.map_map]; simp [Function.comp_def, bs_list]
      have hj := join_le 100000000 (x :: r) sep.data.toList hb
      have hsl : sep.data.toList.length = sep.size := by rw [Array.length_toList]; rfl
      have h4 : sep.data.toList.length * (x :: r).length ≤ 1000 * (x :: r).length := Nat.mul_le_mul_right _ (by omega)
      have hc0 := hc 0 (by simp)
      refine (Tryz.strings_Join b o cap ((x :: r).map bs) sep w ?_ (World.block_lt_of_cell? w _ hc0) (by rw [List.length_map]; omega) h1 (by rw [hm]; omega)).mono ?_
      · intro j y hy
        obtain ⟨hj, rfl⟩ := List.getElem?_eq_some_iff.1 hy
        exact hc j hj
      · rintro e w' ⟨rfl, hb'⟩
        rw [hm]
        exact ⟨rfl, hb'⟩

def digVals (xs : List Int) : List Value := xs.map fun n => .string (bs (dig n))

set_option maxRecDepth 100000 in
set_option maxHeartbeats 1000000 in
theorem elements_nums (v : Value) (x : Arr) (w : World) (hT : Tabs w) (hx : IsArr w v x) (hlen : x.elems.length ≤ 100000) (hk : x.kind ≠ 2) :
    Calls Tryz.prog 117 #[v] w fun e w' => e = .returned (.string (bs (elemText x))) ∧ Below w.heap.size w w' := by
  have H : Hid (elemText x = if x.elems = [] then [48] else Lib.join (x.elems.map dig) [32]) := hid (by unfold elemText; rw [if_neg hk])
  obtain ⟨i0, hi, hz0, hz1, hz2⟩ := info_parts Tryz.infoStr
  obtain ⟨vs, ve, rfl, hs, he, hrng⟩ := hx
  obtain ⟨kind, shape, elems⟩ := x
  simp only at hk hs he hlen H hrng ⊢
  have hk2 : (kind == (2 : Int)) = false := by simpa using hk
  obtain ⟨ae, cape, rfl, h1, h2, h3, hcell⟩ := he.parts
  clear hs hk
  by_cases h0 : elems.length = 0
  · have hem : elems = [] := List.eq_nil_of_length_eq_zero h0
    have hd : ((elems.length : Int) == 0) = true := by rw [beq_iff_eq]; omega
    have H' : Hid (elemText ⟨kind, shape, elems⟩ = [48]) := hid (by rw [H.out, if_pos hem])
    clear hem h0 H hcell
    go_enter Tryz.func117, Tryz.ntmps117
    go_wp2_with fail
    go_ret
    exact ⟨by rw [H'.out]; rfl, (Below.refl _ w).alloc (Nat.le_refl _) _⟩
  have hd : ((elems.length : Int) == 0) = false := by rw [beq_eq_false_iff_ne]; omega
  have H' : Hid (elemText ⟨kind, shape, elems⟩ = Lib.join (elems.map dig) [32]) := hid (by rw [H.out, if_neg (by intro e; simp [e] at h0)])
  clear H h0
  go_enter Tryz.func117, Tryz.ntmps117
  go_wp2_with fail
  go_loopw [6, 34] (fun s i wr => ∃ k : Nat, k ≤ elems.length ∧ i = .int .i64 k ∧ wr.ownsRow (w.heap.size + 1) 9 1 s k (digVals (elems.take k)) ∧ Below w.heap.size w wr ∧ w.heap.size + 1 ≤ wr.heap.size) (fun _ i _ => elems.length - (intOf i).toNat)
  case atStart => exact ⟨0, by omega, rfl, World.ownsRow_nil _ _ _ _, (Below.refl _ w).alloc (Nat.le_refl _) _, by simp⟩
  case round =>
    obtain ⟨k, hk, rfl, hrow, hB, hsz⟩ := hrel
    by_cases hlt : k < elems.length
    · rcases hcell with rfl | ⟨b, o, rfl, hcell⟩
      · simp at hlt
      have hce := (hB.cell (World.block_lt_of_cell? w _ (hcell k hlt))).trans (hcell k hlt)
      have t1 : elems.take (k + 1) = elems.take k ++ [elems[k]?.getD 0] := take_succ_getD elems k hlt
      have hrn := hrng k hlt
      have hki : (k : Int) < (elems.length : Int) := by omega
      generalize elems[k]?.getD 0 = n at *
      have Hn : Hid (digVals (elems.take (k + 1)) = digVals (elems.take k) ++ [.string (bs (dig n))]) := hid (by rw [t1]; simp [digVals])
      have hTw := hT.below hB
      clear t1 hcell hrng
      go_wp2_with fail
      refine (digits_any n hrn.1 hrn.2 _ hTw).mono ?_
      rintro e w2 ⟨rfl, hb2⟩
      have hrow2 := owns_below hrow hb2
      have hB2 := hB.trans (hb2.mono hB.size)
      have hsz2 : w.heap.size + 1 ≤ w2.heap.size := by have := hb2.size; omega
      clear hTw hb2 hB hrow hce
      change Hid (digVals (elems.take (k + 1)) = digVals (elems.take k) ++ [.string ⟨(dig n).toArray⟩]) at Hn
      generalize (ByteArray.mk (dig n).toArray) = pc at *
      go_wp2_with (at_builtin; go_must (refine wpList_append_own _ rfl _ _ 22 rfl (w.heap.size + 1) 9 i0 (.string ⟨#[]⟩) 1 16 Tryz.underlying22 hi hz0 hz1 hz2 rfl (by decide) _ _ _ rfl (hrow2.alloc _) ⟨w2.heap.size, 0, none⟩ 1 1 [.string pc] rfl rfl (one_new w2 (.string pc) 9) (by simp [Value.oneCell']) (by simp [maxLen]; omega) (by omega) (by simp; omega) ?_); intro v' w1 hown' hgrow _; obtain ⟨g', cap', rfl⟩ := ownsRow_succ hown')
      go_roundw
      case rel => exact ⟨k + 1, by omega, by go_num, by rw [Hn.out]; simpa using hown', (hB2.alloc hB2.size _).grown hgrow (by have := hB2.size; simp; omega) (fun k e => by have := (hrow2.lt k e).1; omega), by have := hgrow.size; simp at this; omega⟩
      case measure => simp [intOf]; omega
    · obtain rfl : k = elems.length := by omega
      rw [List.take_of_length_le (Nat.le_refl _)] at hrow
      have hst : Strs wr u6 ((elems.map dig).map bs) := Strs.of_owns (by simpa [digVals, Function.comp_def] using hrow)
      have hln : (elems.map dig).length ≤ 100000 := by simpa using hlen
      have hbd : ∀ x ∈ elems.map dig, x.length ≤ 100000000 := by
        intro x hx
        obtain ⟨n, hn, rfl⟩ := List.mem_map.1 hx
        obtain ⟨j, hj, rfl⟩ := List.getElem_of_mem hn
        have := hrng j hj
        rw [List.getElem?_eq_getElem hj, Option.getD_some] at this
        have := dig_length _ this.1 this.2
        omega
      clear hcell hrng hrow
      go_wp2_with fail
      refine (join_any u6 (elems.map dig) ⟨#[32]⟩ _ hst hln hbd (by decide)).mono ?_
      rintro e w2 ⟨rfl, hb2⟩
      rw [show (ByteArray.mk #[32]).data.toList = [32] from rfl, ← H'.out]
      go_wp2_with fail
      go_ret
      exact ⟨rfl, hB.trans (hb2.mono hB.size)⟩

end Go.Proofs.YtijfnnjgcgmnaaaGreatDoor

namespace Go.Proofs.YtijfnnjgcgmnaaaGreatDoor
open Go.RowKit Go.Shelf
set_option linter.unusedVariables false

theorem elements_any (v : Value) (x : Arr) (w : World) (hT : Tabs w) (hx : IsArr w v x) (ho : okArr x = true) :
    Calls Tryz.prog 117 #[v] w fun e w' => e = .returned (.string (bs (elemText x))) ∧ Below w.heap.size w w' := by
  by_cases hk : x.kind = 2
  · exact elements_chars v x w hT hx ho hk
  · have := count_le _ _ (okArr_parts ho).1
    exact elements_nums v x w hT hx (by omega) hk

def textRes (x : Arr) : List UInt8 := if okArr x = true then textOf x else []
def itoaVals (xs : List Int) : List Value := xs.map fun n => .string (bs (Lib.itoa n))

theorem elemText_len (x : Arr) (ho : okArr x = true) (hr : Rng x.elems) : (elemText x).length ≤ 500000 := by
  have hl := count_le _ _ (okArr_parts ho).1
  unfold elemText
  split
  · have h1 := subst_length 39 39 (encs x.elems)
    have h2 := encs_length x.elems
    simp only [List.length_cons, List.length_append, List.length_nil]
    omega
  · split
    · simp
    · have := join_le 22 (x.elems.map dig) [32] (by
        intro y hy
        obtain ⟨n, hn, rfl⟩ := List.mem_map.1 hy
        obtain ⟨j, hj, rfl⟩ := List.getElem_of_mem hn
        have := hr j hj
        rw [List.getElem?_eq_getElem hj, Option.getD_some] at this
        exact dig_length _ this.1 this.2)
      simp only [List.length_map, List.length_cons, List.length_nil] at this
      omega

theorem bare_cases (x : Arr) :
    (bare x = true ∧ ((x.shape.length : Int) == 0) = true) ∨
    (bare x = true ∧ ((x.shape.length : Int) == 0) = false ∧ ((x.shape.length : Int) == 1) = true ∧ decide (1 < (x.elems.length : Int)) = true) ∨
    (bare x = true ∧ ((x.shape.length : Int) == 0) = false ∧ ((x.shape.length : Int) == 1) = true ∧ decide (1 < (x.elems.length : Int)) = false ∧ ((x.elems.length : Int) == 0) = true ∧ (x.kind == 2) = true) ∨
    (bare x = false ∧ ((x.shape.length : Int) == 0) = false ∧ ((x.shape.length : Int) == 1) = true ∧ decide (1 < (x.elems.length : Int)) = false ∧ ((x.elems.length : Int) == 0) = true ∧ (x.kind == 2) = false) ∨
    (bare x = false ∧ ((x.shape.length : Int) == 0) = false ∧ ((x.shape.length : Int) == 1) = true ∧ decide (1 < (x.elems.length : Int)) = false ∧ ((x.elems.length : Int) == 0) = false) ∨
    (bare x = false ∧ ((x.shape.length : Int) == 0) = false ∧ ((x.shape.length : Int) == 1) = false) := by
  unfold bare
  generalize x.shape.length = n
  generalize x.elems.length = m
  generalize x.kind = k
  have e0 : ((n : Int) == 0) = decide (n = 0) := by rw [Bool.eq_iff_iff, beq_iff_eq, decide_eq_true_eq]; omega
  have e1 : ((n : Int) == 1) = decide (n = 1) := by rw [Bool.eq_iff_iff, beq_iff_eq, decide_eq_true_eq]; omega
  have e2 : decide (1 < (m : Int)) = decide (1 < m) := by rw [Bool.eq_iff_iff, decide_eq_true_eq, decide_eq_true_eq]; omega
  have e3 : ((m : Int) == 0) = decide (m = 0) := by rw [Bool.eq_iff_iff, beq_iff_eq, decide_eq_true_eq]; omega
  have e4 : (k == 2) = decide (k = 2) := by rw [Bool.eq_iff_iff, beq_iff_eq, decide_eq_true_eq]
  rw [e0, e1, e2, e3, e4]
  cases decide (n = 0) <;> cases decide (n = 1) <;> cases decide (1 < m) <;> cases decide (m = 0) <;> cases decide (k = 2) <;> simp

/-- Three cells of a box. -/
def Box3 (w : World) (b : Nat) (v0 v1 v2 : Value) : Prop := w.cell? ⟨b, 0, none⟩ = some v0 ∧ w.cell? ⟨b, 1, none⟩ = some v1 ∧ w.cell? ⟨b, 2, none⟩ = some v2
theorem Box3.below {B : Nat} {w w' : World} {b : Nat} {v0 v1 v2 : Value} (h : Box3 w b v0 v1 v2) (hb : Below B w w') (hB : b < B) : Box3 w' b v0 v1 v2 :=
  ⟨(hb.cell (p := ⟨b, 0, none⟩) hB).trans h.1, (hb.cell (p := ⟨b, 1, none⟩) hB).trans h.2.1, (hb.cell (p := ⟨b, 2, none⟩) hB).trans h.2.2⟩

set_option maxRecDepth 100000 in
set_option maxHeartbeats 2000000 in
theorem text_any (v : Value) (x : Arr) (w : World) (hT : Tabs w) (hx : IsArr w v x) :
    Calls Tryz.prog 81 #[v] w fun e w' => e = .returned (.tuple #[.string (bs (textRes x)), .int .i64 (chk x)]) ∧ Below w.heap.size w w' := by
  obtain ⟨i0, hi, hz0, hz1, hz2⟩ := info_parts Tryz.infoStr
  have hxb := fun o => hx.below ((Below.refl _ w).alloc (Nat.le_refl _) o)
  have hB1 := fun o => (Below.refl _ w).alloc (Nat.le_refl _) o
  have hTb := fun o => hT.below (hB1 o)
  obtain ⟨vs, ve, hv, hs, he, hrng⟩ := hx
  cases ho : okArr x with
  | false =>
    have H1 : Hid (textRes x = []) := hid (by unfold textRes; rw [ho]; rfl)
    have H2 : Hid (chk x = 110) := hid (by unfold chk; rw [ho]; rfl)
    clear ho
    subst hv
    go_enter Tryz.func81, Tryz.ntmps81
    go_wp2_with fail
    refine (check_any _ x _ (hxb _)).mono ?_
    rintro e w' ⟨rfl, hb⟩
    rw [H2.out]
    have hB := (hB1 _).trans (hb.mono (hB1 _).size)
    go_wp2_with fail
    go_ret2
    exact ⟨by rw [H1.out, H2.out]; rfl, hB⟩
  | true =>
    have H1 : Hid (textRes x = textOf x) := hid (by unfold textRes; rw [ho]; rfl)
    have H2 : Hid (chk x = 0) := hid (by unfold chk; rw [ho]; rfl)
    have helt := elemText_len x ho hrng
    obtain ⟨ash, cs, rfl, hs1, hs2, hs3, hsc⟩ := hs.parts
    obtain ⟨ae, ce, rfl, he1, he2, he3, -⟩ := he.parts
    subst hv
    have hb3 : ∀ t, Box3 (w.alloc (.cells #[.int .i64 x.kind, .slice ash x.shape.length cs, .slice ae x.elems.length ce] t)) w.heap.size (.int .i64 x.kind) (.slice ash x.shape.length cs) (.slice ae x.elems.length ce) := fun t => ⟨by simp, by simp, by simp⟩
    go_enter Tryz.func81, Tryz.ntmps81
    go_wp2_with fail
    refine (check_any _ x _ (hxb _)).mono ?_
    rintro e w1 ⟨rfl, hb⟩
    rw [H2.out]
    have hb31 := (hb3 _).below hb (by simp)
    have hx1 := (hxb _).below hb
    have hT1 := (hTb _).below hb
    have hBw1 := (hB1 _).trans (hb.mono (hB1 _).size)
    have hsz1 : w.heap.size + 1 ≤ w1.heap.size := by have := hb.size; simpa using this
    obtain ⟨c0, c1, c2⟩ := hb31
    clear hb hb3
    go_wp2_with fail
    refine (elements_any _ x _ hT1 hx1 ho).mono ?_
    rintro e w2 ⟨rfl, hb⟩
    have hb32 := Box3.below ⟨c0, c1, c2⟩ hb (by omega)
    have hx2 := hx1.below hb
    have hT2 := hT1.below hb
    have hBw2 := hBw1.trans (hb.mono hBw1.size)
    have hsz2 : w.heap.size + 1 ≤ w2.heap.size := by have := hb.size; omega
    clear hb c0 c1 c2 hT1 hx1 hsz1 hBw1
    obtain ⟨c0, c1, c2⟩ := hb32
    generalize hes : bs (elemText x) = es at *
    have Hes := hid hes
    have hess : es.size ≤ 500000 := by rw [← hes, bs_size]; exact helt
    clear hes
    have hfit := fits_of_count _ _ (okArr_parts ho).1
    clear hxb hTb hx2 hs he
    rcases bare_cases x with ⟨Hb, t0⟩ | ⟨Hb, t0, t1, t2⟩ | ⟨Hb, t0, t1, t2, t3, t4⟩ | ⟨Hb, t0, t1, t2, t3, t4⟩ | ⟨Hb, t0, t1, t2, t3⟩ | ⟨Hb, t0, t1⟩
    iterate 3
      · have H3 : Hid (textOf x = elemText x) := hid (by unfold textOf; rw [Hb]; rfl)
        go_wp2_with fail
        go_quiet (fail)
        go_wp2_with fail
        go_ret2
        exact ⟨by rw [H1.out, H2.out, H3.out, Hes.out]; rfl, below_drewN hBw2 _⟩
    all_goals
      have H3 : Hid (textOf x = Lib.join (x.shape.map Lib.itoa) [32] ++ [226, 141, 180] ++ elemText x) := hid (by unfold textOf; rw [Hb]; rfl)
      go_wp2_with fail
      go_quiet (fail)
      go_wp2_with fail
      go_loopw [8, 48] (fun s i wr => ∃ k : Nat, k ≤ x.shape.length ∧ i = .int .i64 k ∧ wr.ownsRow (w.heap.size + 1) 9 1 s k (itoaVals (x.shape.take k)) ∧ Below w.heap.size w wr ∧ w.heap.size + 1 ≤ wr.heap.size) (fun _ i _ => x.shape.length - (intOf i).toNat)
      case atStart => exact ⟨0, by omega, rfl, World.ownsRow_nil _ _ _ _, below_drewN hBw2 _, by simpa using hsz2⟩
      case round =>
        obtain ⟨k, hk, rfl, hrow, hB, hsz⟩ := hrel
        by_cases hlt : k < x.shape.length
        · rcases hsc with h0 | ⟨b, o, rfl, hsc⟩
          · simp [h0] at hlt
          have hce := (hB.cell (World.block_lt_of_cell? w _ (hsc k hlt))).trans (hsc k hlt)
          have t1 : x.shape.take (k + 1) = x.shape.take k ++ [x.shape[k]?.getD 0] := take_succ_getD x.shape k hlt
          have hrn := hfit.2 k hlt
          have hf1 := hfit.1
          have hki : (k : Int) < (x.shape.length : Int) := by omega
          generalize x.shape[k]?.getD 0 = n at *
          have Hn : Hid (itoaVals (x.shape.take (k + 1)) = itoaVals (x.shape.take k) ++ [.string (bs (Lib.itoa n))]) := hid (by rw [t1]; simp [itoaVals])
          have hTw := hT.below hB
          clear t1 hsc hrng
          go_wp2_with fail
          refine (Tryz.strconv_Itoa n (by omega) (by omega) _ hTw.1).mono ?_
          rintro e w3 ⟨rfl, hg⟩
          have hb3 := below_grew hg
          have hrow3 := owns_below hrow hb3
          have hB3 := hB.trans (hb3.mono hB.size)
          have hsz3 : w.heap.size + 1 ≤ w3.heap.size := by have := hb3.size; omega
          clear hTw hg hb3 hB hrow hce
          change Hid (itoaVals (x.shape.take (k + 1)) = itoaVals (x.shape.take k) ++ [.string ⟨(Lib.itoa n).toArray⟩]) at Hn
          generalize (ByteArray.mk (Lib.itoa n).toArray) = pc at *
          go_wp2_with (at_builtin; go_must (refine wpList_append_own _ rfl _ _ 22 rfl (w.heap.size + 1) 9 i0 (.string ⟨#[]⟩) 1 16 Tryz.underlying22 hi hz0 hz1 hz2 rfl (by decide) _ _ _ rfl (hrow3.alloc _) ⟨w3.heap.size, 0, none⟩ 1 1 [.string pc] rfl rfl (one_new w3 (.string pc) 9) (by simp [Value.oneCell']) (by simp [maxLen]; omega) (by omega) (by simp; omega) ?_); intro v' w1 hown' hgrow _; obtain ⟨g', cap', rfl⟩ := ownsRow_succ hown')
          go_roundw
          case rel => exact ⟨k + 1, by omega, by go_num, by rw [Hn.out]; simpa using hown', (hB3.alloc hB3.size _).grown hgrow (by have := hB3.size; simp; omega) (fun k e => by have := (hrow3.lt k e).1; omega), by have := hgrow.size; simp at this; omega⟩
          case measure => simp [intOf]; omega
        · obtain rfl : k = x.shape.length := by omega
          rw [List.take_of_length_le (Nat.le_refl _)] at hrow
          have hst : Strs wr u8 ((x.shape.map Lib.itoa).map bs) := Strs.of_owns (by simpa [itoaVals, Function.comp_def] using hrow)
          have hln : (x.shape.map Lib.itoa).length ≤ 100000 := by rw [List.length_map]; have := hfit.1; omega
          have hbd : ∀ y ∈ x.shape.map Lib.itoa, y.length ≤ 21 := by
            intro y hy
            obtain ⟨n, hn, rfl⟩ := List.mem_map.1 hy
            obtain ⟨j, hj, rfl⟩ := List.getElem_of_mem hn
            have := hfit.2 j hj
            rw [List.getElem?_eq_getElem hj, Option.getD_some] at this
            exact Lib.itoa_length_le _ (by omega) (by omega)
          have hjl := join_le 21 (x.shape.map Lib.itoa) [32] hbd
          rw [List.length_map] at hjl
          have hf1 := hfit.1
          clear hsc hrng hrow hfit
          go_wp2_with fail
          refine (join_any u8 (x.shape.map Lib.itoa) ⟨#[32]⟩ _ hst hln (fun y hy => Nat.le_trans (hbd y hy) (by decide)) (by decide)).mono ?_
          rintro e w4 ⟨rfl, hb4⟩
          rw [show (ByteArray.mk #[32]).data.toList = [32] from rfl]
          have hjs : (bs (Lib.join (x.shape.map Lib.itoa) [32])).size ≤ 200 := by rw [bs_size]; simp only [List.length_cons, List.length_nil] at hjl; omega
          have H4 : Hid (bs (textOf x) = bs (Lib.join (x.shape.map Lib.itoa) [32]) ++ ⟨#[226, 141, 180]⟩ ++ es) := hid (by rw [H3.out, ← Hes.out]; apply ByteArray.ext; simp [bs])
          generalize bs (Lib.join (x.shape.map Lib.itoa) [32]) = js at *
          go_wp2_with fail
          go_ret2
          exact ⟨by rw [H1.out, H2.out, H4.out]; rfl, hB.trans (hb4.mono hB.size)⟩

end Go.Proofs.YtijfnnjgcgmnaaaGreatDoor

namespace Go.Proofs.YtijfnnjgcgmnaaaGreatDoor
open Go.Lib
set_option linter.unusedVariables false

/-! ### Digits -/

theorem dec_ne (u : Nat) : decDigits u ≠ [] := by rw [decDigits]; split <;> simp
theorem dec_head (u : Nat) (b : UInt8) (s : List UInt8) (h : decDigits u = b :: s) : 48 ≤ b.toNat ∧ b.toNat ≤ 57 := dec_digit u b (by rw [h]; simp)

theorem dig_ne (n : Int) : dig n ≠ [] := by unfold dig; split; · simp
                                            · exact dec_ne _
theorem dig_no32 (n : Int) : (32 : UInt8) ∉ dig n := by
  intro h
  have h1 : ∀ u, (32 : UInt8) ∉ decDigits u := fun u hm => absurd (dec_digit u _ hm).1 (by decide)
  unfold dig at h
  split at h
  · simp only [List.mem_cons] at h
    rcases h with h | h | h
    · exact absurd h (by decide)
    · exact absurd h (by decide)
    · exact h1 _ h
  · exact h1 _ h

/-! ### Put together with blanks -/

theorem join_cons2 (x y : List UInt8) (r : List (List UInt8)) : join (x :: y :: r) [32] = x ++ 32 :: join (y :: r) [32] := by
  rw [join_cons, join_cons]
  simp [joinTail]

/-! ### Characters -/

theorem isChar_cases {n : Int} (h : isChar n = true) : 0 ≤ n ∧ n ≤ 1114111 ∧ ¬ (55296 ≤ n ∧ n ≤ 57343) := by
  unfold isChar at h
  simp only [Bool.and_eq_true, decide_eq_true_eq] at h
  refine ⟨h.1, h.2.1, fun hs => ?_⟩
  have := h.2.2
  simp [Lib.validRune] at this
  omega

theorem enc_forms {n : Int} (h : isChar n = true) :
    (0 ≤ n ∧ n ≤ 127 ∧ encodeRuneZ n = [n]) ∨ (128 ≤ n ∧ n ≤ 2047 ∧ encodeRuneZ n = [192 + n / 64, 128 + n % 64]) ∨
    (2048 ≤ n ∧ n ≤ 65535 ∧ encodeRuneZ n = [224 + n / 4096, 128 + n / 64 % 64, 128 + n % 64]) ∨
    (65536 ≤ n ∧ n ≤ 1114111 ∧ encodeRuneZ n = [240 + n / 262144, 128 + n / 4096 % 64, 128 + n / 64 % 64, 128 + n % 64]) := by
  obtain ⟨h0, h1, h2⟩ := isChar_cases h
  by_cases a : n ≤ 127
  · exact .inl ⟨h0, a, encodeRuneZ_one h0 a⟩
  · by_cases b : n ≤ 2047
    · exact .inr (.inl ⟨by omega, b, encodeRuneZ_two (by omega) b⟩)
    · by_cases c : n ≤ 65535
      · exact .inr (.inr (.inl ⟨by omega, c, encodeRuneZ_three (by omega)⟩))
      · exact .inr (.inr (.inr ⟨by omega, h1, encodeRuneZ_four (by omega) h1⟩))

theorem enc_ne (n : Int) : encodeRune n ≠ [] := by
  intro h
  have := (encodeRuneZ_length n).1
  have h2 : (encodeRune n).length = (encodeRuneZ n).length := by simp [encodeRune]
  rw [h] at h2
  simp at h2
  omega

/-! ### The whole text -/

theorem hasOdd_all {xs : List Int} (h : hasOdd xs = false) : ∀ n ∈ xs, isChar n = true := by
  intro n hn
  unfold hasOdd at h
  rw [List.any_eq_false] at h
  simpa using h n hn

theorem count_one (n : Int) : count [n] = if n < 0 ∨ n > 4096 then none else some n := by
  rw [count, if_neg (by simp)]
  by_cases h : n < 0 ∨ n > 4096
  · rw [countFold, if_pos h, if_pos h]
  · rw [countFold, if_neg h, if_neg h, countFold, if_neg (by omega)]; simp

end Go.Proofs.YtijfnnjgcgmnaaaGreatDoor
