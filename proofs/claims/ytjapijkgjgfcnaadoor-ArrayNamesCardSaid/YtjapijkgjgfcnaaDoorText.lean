/- array.Text: digits, elements, Text. -/
import Derived.Test.YtjapijkgjgfcnaaDoorTextLaw
import Derived.Test.YtjapijkgjgfcnaaDoorBuilder
import Derived.Test.YtjapijkgjgfcnaaDoorLexSplit
namespace Go.Proofs.YtjapijkgjgfcnaaDoor
open Go.RowKit Go.Shelf
open Go.Sort (grow)
set_option linter.unusedVariables false

/-- What the texts' functions read of the program's tables. -/
def Tabs (w : World) : Prop := Lib.TabIs Tryd.prog w "internal/strconv.uint64pow10" .u64 Lib.pow10Tab ∧ ∃ m, w.cell? ⟨0, 0, none⟩ = some (.int .i64 m)

theorem tabIs_below {n : String} {g : Nat} {k : IntKind} {zs : List Int} {w w' : World} (hg : Tryd.prog.globalNamed n = some g) (h : Lib.TabIs Tryd.prog w n k zs) (hb : Below w.heap.size w w') : Lib.TabIs Tryd.prog w' n k zs := by
  unfold Lib.TabIs World.var? at h ⊢
  rw [hg] at h ⊢
  simp only [Option.bind_some] at h ⊢
  have hlt : g < w.heap.size := by
    rcases Nat.lt_or_ge g w.heap.size with h' | h'
    · exact h'
    · rw [Array.getElem?_eq_none h'] at h; cases h
  rw [hb.block g hlt]
  exact h

theorem Tabs.below {w w' : World} (h : Tabs w) (hb : Below w.heap.size w w') : Tabs w' := by
  obtain ⟨h1, m, h2⟩ := h
  exact ⟨tabIs_below (g := 1) (by kernel_rfl) h1 hb, m, (hb.cell (World.block_lt_of_cell? w _ h2)).trans h2⟩

theorem below_grew {w w' : World} (h : ∃ k os, w' = grow (w.drewN k) os) : Below w.heap.size w w' := by
  obtain ⟨k, os, rfl⟩ := h
  refine ⟨rfl, rfl, rfl, by simp [grow], fun b hb => ?_⟩
  simp [grow, Array.getElem?_append_left hb]

theorem mk_toArray (l : List UInt8) : (ByteArray.mk l.toArray).data.toList = l := by simp
theorem mk_size (l : List UInt8) : (ByteArray.mk l.toArray).size = l.length := by simp [ByteArray.size]

set_option maxRecDepth 100000 in
theorem digits_any (n : Int) (h0 : -9223372036854775808 ≤ n) (h1 : n ≤ 9223372036854775807) (w : World) (hT : Tabs w) :
    Calls Tryd.prog 70 #[.int .i64 n] w fun e w' => e = .returned (.string ⟨(dig n).toArray⟩) ∧ Below w.heap.size w w' := by
  have hl := Lib.itoa_length_le n h0 h1
  go_enter Tryd.func70, Tryd.ntmps70
  go_wp2_with fail
  refine (Tryd.strconv_FormatInt_10 n h0 h1 _ hT.1).mono ?_
  rintro e w1 ⟨rfl, hg⟩
  have hb1 := below_grew hg
  obtain ⟨-, m, hm⟩ := hT.below hb1
  have hsz : (ByteArray.mk (Lib.itoa n).toArray).size ≤ 21 := by rw [mk_size]; exact hl
  have hcl : Lib.countB (ByteArray.mk (Lib.itoa n).toArray) ⟨#[45]⟩ ≤ (ByteArray.mk (Lib.itoa n).toArray).size := Lib.countB_le _ (by decide) _ _ (Nat.le_refl _)
  clear hg
  go_wp2_with fail
  refine (Tryd.strings_Replace ⟨(Lib.itoa n).toArray⟩ ⟨#[45]⟩ ⟨#[194, 175]⟩ 1 m _ (by omega) hm (by decide) (by rw [show (ByteArray.mk #[194, 175]).size = 2 from rfl]; omega)).mono ?_
  rintro e w2 ⟨rfl, hb2⟩
  have H : Hid (Lib.replace (ByteArray.mk (Lib.itoa n).toArray).data.toList (ByteArray.mk #[45]).data.toList (ByteArray.mk #[194, 175]).data.toList 1 = dig n) := hid (by rw [mk_toArray]; exact replace_dig n)
  rw [H.out]
  go_wp2_with fail
  go_ret
  exact ⟨rfl, hb1.trans (hb2.mono hb1.size)⟩

theorem okArr_parts {x : Arr} (h : okArr x = true) : count x.shape = some (x.elems.length : Int) ∧ (x.kind = 1 ∨ (x.kind = 2 ∧ hasOdd x.elems = false)) := by
  unfold okArr at h
  rw [Bool.and_eq_true, decide_eq_true_eq, Bool.or_eq_true, Bool.and_eq_true, decide_eq_true_eq, decide_eq_true_eq, Bool.not_eq_true'] at h
  exact h

theorem countFold_le (xs : List Int) (a n : Int) (h : countFold xs a = some n) : n ≤ 4096 := by
  induction xs generalizing a with
  | nil => unfold countFold at h; split at h <;> simp at h; omega
  | cons l r ih =>
    unfold countFold at h
    split at h
    · simp at h
    · exact ih _ h

theorem count_le (xs : List Int) (n : Int) (h : count xs = some n) : n ≤ 4096 := by
  unfold count at h
  split at h
  · simp at h
  · exact countFold_le _ _ _ h

theorem hasOdd_get {xs : List Int} (h : hasOdd xs = false) (i : Nat) (hi : i < xs.length) : 0 ≤ xs[i]?.getD 0 ∧ xs[i]?.getD 0 ≤ 1114111 := by
  unfold hasOdd at h
  rw [List.any_eq_false] at h
  have := h (xs[i]?.getD 0) (by rw [List.getElem?_eq_getElem hi, Option.getD_some]; exact List.getElem_mem hi)
  simp [isChar] at this
  exact ⟨this.1, this.2.1⟩

theorem subst_length (c d : UInt8) (s : List UInt8) : (subst c [d, d] s).length ≤ 2 * s.length := by
  induction s with
  | nil => simp [subst]
  | cons b r ih =>
    unfold subst at *
    rw [List.flatMap_cons, List.length_append, List.length_cons]
    split <;> simp only [List.length_cons, List.length_nil] <;> omega
theorem encs_snoc (xs : List Int) (n : Int) : encs (xs ++ [n]) = encs xs ++ Lib.encodeRune n := by simp [encs]
theorem byteCells_snoc (a b : List UInt8) : Lib.byteCells (a ++ b) = Lib.byteCells a ++ Lib.byteCells b := by simp [Lib.byteCells]

theorem str_app (a b : List UInt8) : ByteArray.mk a.toArray ++ ByteArray.mk b.toArray = ⟨(a ++ b).toArray⟩ := by
  apply ByteArray.ext; simp
theorem str_app3 (t : List UInt8) : ByteArray.mk #[39] ++ ⟨t.toArray⟩ ++ ByteArray.mk #[39] = ⟨(39 :: (t ++ [39])).toArray⟩ := by
  apply ByteArray.ext; simp

theorem fresh_builder {B b : Nat} {w : World} (hb : b = w.heap.size) (h : B ≤ b) : Lib.IsBuilderF 89 5 B b [] (w.alloc (.cells #[.pointer none, .slice none 0 0] 89)) :=
  Lib.IsBuilderF.of (.inl ⟨h, .slice none 0 0, by subst hb; show (w.heap.push _)[w.heap.size]? = _; simp, World.ownsRow_nil _ _ _ _, by simp [Value.ownBlock]⟩)

set_option maxRecDepth 100000 in
set_option maxHeartbeats 1000000 in
theorem elements_chars (v : Value) (x : Arr) (w : World) (hT : Tabs w) (hx : IsArr w v x) (ho : okArr x = true) (hk : x.kind = 2) :
    Calls Tryd.prog 39 #[v] w fun e w' => e = .returned (.string ⟨(elemText x).toArray⟩) ∧ Below w.heap.size w w' := by
  obtain ⟨hc, hkk⟩ := okArr_parts ho
  have hlen := count_le _ _ hc
  have hodd : hasOdd x.elems = false := by
    rcases hkk with h | h
    · omega
    · exact h.2
  have H : Hid (elemText x = 39 :: (subst 39 [39, 39] (encs x.elems) ++ [39])) := hid (by unfold elemText; rw [if_pos hk])
  clear ho hc hkk
  obtain ⟨vs, ve, rfl, hs, he, -⟩ := hx
  obtain ⟨kind, shape, elems⟩ := x
  simp only at hk hs he hlen hodd H ⊢
  subst hk
  obtain ⟨ae, cape, rfl, h1, h2, h3, hcell⟩ := he.parts
  clear hs
  go_enter Tryd.func39, Tryd.ntmps39
  go_wp2
  go_loopw [15] (fun i wr => ∃ k : Nat, k ≤ elems.length ∧ i = .int .i64 k ∧ Lib.IsBuilderF 89 5 (w.heap.size + 1) (w.heap.size + 1) (Lib.byteCells (encs (elems.take k))) wr ∧ Below w.heap.size w wr ∧ w.heap.size + 2 ≤ wr.heap.size) (fun i _ => elems.length - (intOf i).toNat)
  case atStart => exact ⟨0, by omega, rfl, fresh_builder (by simp) (by omega), ((Below.refl _ w).alloc (Nat.le_refl _) _).alloc (by simp) _, by simp⟩
  case round =>
    obtain ⟨k, hk, rfl, hbd, hB, hsz⟩ := hrel
    by_cases hlt : k < elems.length
    · rcases hcell with rfl | ⟨b, o, rfl, hcell⟩
      · simp at hlt
      have hce := (hB.cell (World.block_lt_of_cell? w _ (hcell k hlt))).trans (hcell k hlt)
      have t1 : elems.take (k + 1) = elems.take k ++ [elems[k]?.getD 0] := take_succ_getD elems k hlt
      have hrn := hasOdd_get hodd k hlt
      have hki : (k : Int) < (elems.length : Int) := by omega
      have hel := encs_length (elems.take k)
      have htl : (elems.take k).length ≤ k := by rw [List.length_take]; omega
      generalize elems[k]?.getD 0 = n at *
      have Hn : Hid (Lib.byteCells (encs (elems.take (k + 1))) = Lib.byteCells (encs (elems.take k)) ++ Lib.runeCells n) := hid (by rw [t1, encs_snoc, byteCells_snoc, Lib.byteCells_encodeRune])
      have hw32 : wrap32 n = n := by unfold wrap32; omega
      clear t1 hcell hodd
      go_wp2_with (go_at_call 67; go_must (refine (writeRune_k (w.heap.size + 1) (w.heap.size + 1) _ n (by omega) (by omega) wr hbd (by rw [Lib.byteCells_length]; omega) (by omega)).mono ?_); rintro e w' ⟨rfl, hbd', hbel', -⟩)
      go_roundw
      case rel => exact ⟨k + 1, by omega, by go_num, by rw [Hn.out]; exact .inr hbd', hB.trans (hbel'.mono (by omega)), by have := hbel'.size; omega⟩
      case measure => simp [intOf]; omega
    · have ht : elems.take k = elems := List.take_of_length_le (by omega)
      rw [ht] at hbd
      have hel := encs_length elems
      clear hcell hodd ht
      go_wp2_with fail
      refine (Tryd.Builder_String_any_k (w.heap.size + 1) (w.heap.size + 1) (encs elems) wr hbd (by omega)).mono ?_
      rintro e w1 ⟨rfl, -, hb1, -⟩
      have hB1 : Below w.heap.size w w1 := hB.trans (hb1.mono (by omega))
      obtain ⟨-, m, hm⟩ := hT.below hB1
      have hsz1 : (ByteArray.mk (encs elems).toArray).size ≤ 16384 := by rw [mk_size]; omega
      have hcl : Lib.countB (ByteArray.mk (encs elems).toArray) ⟨#[39]⟩ ≤ (ByteArray.mk (encs elems).toArray).size := Lib.countB_le _ (by decide) _ _ (Nat.le_refl _)
      have Hr : Hid (Lib.replaceAll (ByteArray.mk (encs elems).toArray).data.toList (ByteArray.mk #[39]).data.toList (ByteArray.mk #[39, 39]).data.toList = subst 39 [39, 39] (encs elems)) := hid (by rw [mk_toArray]; exact replaceAll_one 39 [39, 39] _ (by decide))
      clear hbd hB hb1 hT
      go_wp2_with fail
      refine (Tryd.strings_ReplaceAll ⟨(encs elems).toArray⟩ ⟨#[39]⟩ ⟨#[39, 39]⟩ m _ (by omega) hm (by decide) (by rw [show (ByteArray.mk #[39, 39]).size = 2 from rfl]; omega)).mono ?_
      rintro e w2 ⟨rfl, hb2⟩
      rw [Hr.out]
      have hsub : (subst 39 [39, 39] (encs elems)).length ≤ 2 * (encs elems).length := subst_length _ _ _
      generalize subst 39 [39, 39] (encs elems) = t at *
      have hts : (ByteArray.mk t.toArray).size ≤ 40000 := by rw [mk_size]; omega
      go_wp2_with fail
      go_ret
      exact ⟨by rw [H.out, ← str_app3]; rfl, hB1.trans (hb2.mono hB1.size)⟩

end Go.Proofs.YtjapijkgjgfcnaaDoor
