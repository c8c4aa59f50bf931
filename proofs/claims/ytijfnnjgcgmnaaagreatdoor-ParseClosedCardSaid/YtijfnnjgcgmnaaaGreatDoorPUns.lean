/- lex: a name that is told stands in the text. Plain.
   parse: names that are not said. Plain.
   The law ParseUnsaid: names of functions that a text does not say make no difference. -/
import Derived.Test.YtijfnnjgcgmnaaaGreatDoorLexLaw
import Derived.Test.YtijfnnjgcgmnaaaGreatDoorPC
import Derived.Test.YtijfnnjgcgmnaaaGreatDoorPTrees
import Derived.Laws.AppendOwnNone
namespace Go.Proofs.YtijfnnjgcgmnaaaGreatDoor
open Go.RowKit Go.Shelf
set_option linter.unusedVariables false
set_option linter.unusedSimpArgs false

theorem suf_trim (l : List UInt8) : Lib.trimLeftB l 32 <:+ l := by unfold Lib.trimLeftB; exact List.dropWhile_suffix _
theorem suf_numLeft (l : List UInt8) : numLeft l <:+ l := by
  unfold numLeft
  refine (List.drop_suffix _ _).trans ?_
  unfold numBody
  split
  · exact List.drop_suffix _ _
  · exact List.suffix_refl _
theorem suf_nums (f : Nat) : ∀ l : List UInt8, (numsFrom f l).2.1 <:+ l := by
  induction f with
  | zero => intro l; exact List.suffix_refl _
  | succ f ih =>
    intro l
    rw [numsFrom]
    split
    · exact (ih _).trans ((suf_trim _).trans (suf_numLeft l))
    · exact List.suffix_refl _
theorem suf_quoted (r : List UInt8) : ∀ q : Bool, (quotedQ q r).2.getD [] <:+ r := by
  induction r with
  | nil => intro q; cases q <;> exact List.suffix_refl _
  | cons c r ih =>
    intro q
    cases q with
    | false =>
      rw [quotedQ]
      split
      · exact (ih true).trans (List.suffix_cons _ _)
      · exact (ih false).trans (List.suffix_cons _ _)
    | true =>
      rw [quotedQ]
      split
      · exact (ih false).trans (List.suffix_cons _ _)
      · exact List.suffix_refl _
theorem suf_read (L : List UInt8) : (readTok L).2.1 <:+ L := by
  by_cases hn : numB L = true
  · rw [readTok_num hn]; exact suf_nums _ _
  · have hn : numB L = false := by simpa using hn
    cases L with
    | nil => unfold readTok; rw [if_neg (by rw [hn]; simp)]; exact List.suffix_refl _
    | cons c r =>
      by_cases h39 : c = 39
      · subst h39; rw [readTok_39]; exact (suf_quoted r false).trans (List.suffix_cons _ _)
      · cases hl : letB c with
        | true => rw [readTok_name hn h39 hl]; exact List.drop_suffix _ _
        | false => rw [readTok_gly hn h39 hl]; exact List.drop_suffix _ _
theorem name_read {L : List UInt8} (hk : (readTok L).1.kind = 2) : (readTok L).1.txt <+: L ∧ (readTok L).1.txt ≠ [] := by
  by_cases hn : numB L = true
  · rw [readTok_num hn] at hk; exact absurd hk (by simp)
  · have hn : numB L = false := by simpa using hn
    cases L with
    | nil => unfold readTok at hk; rw [if_neg (by rw [hn]; simp)] at hk; exact absurd hk (by decide)
    | cons c r =>
      by_cases h39 : c = 39
      · subst h39; rw [readTok_39] at hk; exact absurd hk (by simp)
      · cases hl : letB c with
        | true =>
          rw [readTok_name hn h39 hl]
          obtain ⟨n1, n2, -⟩ := nameLen_facts (r := r) hl
          refine ⟨List.take_prefix _ _, fun e => ?_⟩
          have := congrArg List.length e
          rw [List.length_take] at this
          simp only [List.length_nil] at this
          omega
        | false => rw [readTok_gly hn h39 hl] at hk; exact absurd hk (by simp)
theorem toks_infix (f : Nat) : ∀ l : List UInt8, ∀ t ∈ (toksFrom f l).1, t.kind = 2 → t.txt <:+: l ∧ t.txt ≠ [] := by
  induction f with
  | zero => intro l t ht; cases ht
  | succ f ih =>
    intro l t ht hk
    rw [toksFrom] at ht
    split at ht
    · cases ht
    · simp only at ht
      have h1 : t = (readTok (Lib.trimLeftB l 32)).1 → t.txt <:+: l ∧ t.txt ≠ [] := fun e => by
        subst e
        obtain ⟨a, b⟩ := name_read hk
        exact ⟨a.isInfix.trans (suf_trim l).isInfix, b⟩
      split at ht
      · rw [List.mem_singleton] at ht; exact h1 ht
      · rcases List.mem_cons.1 ht with ht | ht
        · exact h1 ht
        · obtain ⟨a, b⟩ := ih _ t ht hk
          exact ⟨a.trans ((suf_read _).trans (suf_trim l)).isInfix, b⟩
/-- Names stand in the text, and are not empty. -/
theorem tokens_infix {l : List UInt8} : ∀ t ∈ (tokensOf l).1, t.kind = 2 → t.txt <:+: l ∧ t.txt ≠ [] := by
  intro t ht hk
  unfold tokensOf at ht
  split at ht
  · cases ht
  · simp only at ht
    split at ht
    · cases ht
    · split at ht
      · cases ht
      · exact toks_infix _ _ t ht hk
end Go.Proofs.YtijfnnjgcgmnaaaGreatDoor

namespace Go.Proofs.YtijfnnjgcgmnaaaGreatDoor.Par
open Go.RowKit Go.Shelf
set_option linter.unusedVariables false
set_option linter.unusedSimpArgs false

def unsaid (s : List UInt8) (more : List (List UInt8)) : List (List UInt8) := more.filter fun m => !m.isEmpty && !Lib.contains s m
theorem unsaid_agree (s : List UInt8) (F more : List (List UInt8)) : Agree F (F ++ unsaid s more) (tokensOf s).1 := by
  intro t ht hk
  obtain ⟨⟨a, b, e⟩, hne⟩ := tokens_infix t ht hk
  constructor
  · exact fun h => List.mem_append.2 (.inl h)
  · intro h
    rcases List.mem_append.1 h with h | h
    · exact h
    · exfalso
      have h2 := (List.mem_filter.1 h).2
      have h3 := contains_infix a t.txt b
      rw [← List.append_assoc, e] at h3
      rw [h3] at h2
      simp at h2
end Go.Proofs.YtijfnnjgcgmnaaaGreatDoor.Par

namespace Go.Proofs.YtijfnnjgcgmnaaaGreatDoor.Par
open Go.RowKit Go.Shelf
set_option linter.unusedVariables false
set_option linter.unusedSimpArgs false

theorem tree_same (F F' : List (List UInt8)) (s : List UInt8) (h : Agree F F' (tokensOf s).1) : treeOf F s = treeOf F' s := by
  unfold treeOf stateOf
  by_cases h0 : (tokensOf s).2 = 0
  · rw [if_pos h0, if_pos h0]
    by_cases h1 : (matchedF (tokensOf s).1).2 = false
    · rw [if_pos h1, if_pos h1]
    · rw [if_neg h1, if_neg h1]
      have hd : Dyck (tokensOf s).1 := match_dyck (d := (matchedF (tokensOf s).1).1) (by
        have h2 : (matchedF (tokensOf s).1).2 = true := by simpa using h1
        rw [← h2])
      rw [stmt_same F F' _ hd h]
  · rw [if_neg h0, if_neg h0]
set_option maxRecDepth 100000 in
theorem great18_any (S : ByteArray) (a : Option Addr) (n c : Nat) (w : World) :
    Calls Tryz.prog 8 #[.string S, .slice a n c] w fun e w' => e = .returned (.bool (decide (8000 < S.size) || decide (50 < n))) ∧ Below w.heap.size w w' := by
  obtain ⟨D, hD⟩ : ∃ d, (decide (8000 < S.size) || decide (50 < n)) = d := ⟨_, rfl⟩
  rw [hD]
  have HD := hid hD.symm
  clear hD
  generalize hN : S.size = N at *
  by_cases h1 : 8000 < N
  · have h1' : (8000 : Int) < (N : Int) := by omega
    have HN : Hid (D = true) := hid (by rw [HD.out]; simp [h1])
    clear HD
    go_enter Tryz.func8, Tryz.ntmps8
    go_wp2_with fail
    go_ret
    exact ⟨by rw [HN.out]; rfl, Below.refl _ _⟩
  · have h1' : ¬ (8000 : Int) < (N : Int) := by omega
    by_cases h2 : 50 < n
    · have h2' : (50 : Int) < (n : Int) := by omega
      have HN : Hid (D = true) := hid (by rw [HD.out]; simp [h2])
      clear HD
      go_enter Tryz.func8, Tryz.ntmps8
      go_wp2_with fail
      go_ret
      exact ⟨by rw [HN.out]; simp, Below.refl _ _⟩
    · have h2' : ¬ (50 : Int) < (n : Int) := by omega
      have HN : Hid (D = false) := hid (by rw [HD.out]; simp [h1, h2])
      clear HD
      go_enter Tryz.func8, Tryz.ntmps8
      go_wp2_with fail
      go_ret
      exact ⟨by rw [HN.out]; simp, Below.refl _ _⟩
theorem unsaid_snoc (s : List UInt8) (M : List (List UInt8)) (k : Nat) (x : List UInt8) (h : M[k]? = some x) : unsaid s (M.take (k + 1)) = unsaid s (M.take k) ++ (if (!x.isEmpty && !Lib.contains s x) = true then [x] else []) := by
  unfold unsaid
  rw [List.take_add_one, h, List.filter_append]
  congr 1
  simp only [Option.toList_some, List.filter_cons, List.filter_nil]
theorem unsaid_len (s : List UInt8) (M : List (List UInt8)) : (unsaid s M).length ≤ M.length := List.length_filter_le _ _
/-- Ahead of each of the names. -/
def UnsR (w2 : World) (l : List UInt8) (F M : List (List UInt8)) (vo vi : Value) (wr : World) : Prop :=
  ∃ (k : Nat) (acc : List (List UInt8)), k ≤ M.length ∧ vi = .int .i64 (k : Nat) ∧ acc.length ≤ F.length + k ∧ Hid (acc = F ++ unsaid l (M.take k)) ∧ wr.ownsRow w2.heap.size 9 1 vo acc.length (acc.map fun x => .string (bs x)) ∧ Below w2.heap.size w2 wr
set_option maxRecDepth 100000 in
set_option maxHeartbeats 8000000 in
theorem unsaid_walk (l : List UInt8) (F M : List (List UInt8)) (fv mv : Value) (w : World) (hf : Strs w fv (F.map bs)) (hm : Strs w mv (M.map bs)) (hG : Glob w) (hgy : Gly w) :
    Calls Tryz.prog 4 #[.string (bs l), fv, mv] w fun e w' => e = .returned (.bool true) ∧ Below w.heap.size w w' := by
  obtain ⟨i0, hi, hz0, hz1, hz2⟩ := info_parts (show (Tryz.prog.info? 9).map (fun i => (i.zero, i.size, i.bytes)) = some (some (.string ⟨#[]⟩), 1, 16) by kernel_rfl)
  obtain ⟨fa, fc, rfl, f1, f2, f3, f4⟩ := id hf
  obtain ⟨ma, mc, rfl, m1, m2, m3, m4⟩ := id hm
  rw [List.length_map] at *
  go_enter Tryz.func4, Tryz.ntmps4
  go_wp2_with fail
  refine (alive18_any w hG hgy).mono ?_
  rintro e w1 ⟨rfl, b1⟩
  have hgr := great18_any (bs l) fa F.length fc w1
  rw [bs_size] at hgr
  obtain ⟨GT, hGT⟩ : ∃ g, (decide (8000 < l.length) || decide (50 < F.length)) = g := ⟨_, rfl⟩
  rw [hGT] at hgr
  have HGT := hid hGT
  clear hGT
  go_wp2_with fail
  refine hgr.mono ?_
  rintro e w2 ⟨rfl, b2⟩
  have hB2 := b1.trans (b2.mono b1.size)
  clear hgr b1 b2
  cases GT with
  | true =>
    go_wp2_with fail
    go_ret
    exact ⟨rfl, hB2⟩
  | false =>
    by_cases hM : 50 < M.length
    · have hM' : (50 : Int) < (M.length : Int) := by omega
      go_wp2_with fail
      go_ret
      exact ⟨rfl, hB2⟩
    · have hM' : ¬ (50 : Int) < (M.length : Int) := by omega
      have hs := HGT.out
      simp only [Bool.or_eq_false_iff, decide_eq_false_iff_not] at hs
      obtain ⟨hl, hF⟩ := hs
      have hf2 := Strs.soft hf (Soft.of_below hB2)
      have hG2 := hG.below hB2
      have hgy2 := hgy.below hB2
      have hm4 : ∀ k x, M[k]? = some x → ∃ b o, ma = some ⟨b, o, none⟩ ∧ ∀ V, Below w2.heap.size w2 V → V.cell? ⟨b, o + k, none⟩ = some (.string (bs x)) := fun k x hk => by
        obtain ⟨hk2, rfl⟩ := List.getElem?_eq_some_iff.1 hk
        obtain ⟨b, o, e, hc⟩ := m4 k (by simpa using hk2)
        refine ⟨b, o, e, fun V hV => ?_⟩
        have hBV := hB2.trans (hV.mono hB2.size)
        rw [hBV.cell (World.block_lt_of_cell? w _ hc), hc]
        simp
      clear m4 hm HGT
      go_upto_region 4 with fail
      go_cut [8] from 82 (fun s8 W => W.ownsRow w2.heap.size 9 1 s8 F.length (F.map fun x => .string (bs x)) ∧ Below w2.heap.size w2 W)
      case first =>
        cases fa with
        | none =>
          have hF0 : F = [] := List.eq_nil_of_length_eq_zero (by have := f3 rfl; omega)
          obtain rfl := f3 rfl
          subst hF0
          go_wp2_with (at_builtin; go_must (refine wpList_append_own_none rfl _ _ 22 rfl w2.heap.size 9 i0 1 Tryz.underlying22 hi _ _ _ rfl (World.ownsRow_made w2 #[] 0 (Nat.le_refl _) (Nat.zero_le _) rfl) rfl ?_))
          go_meet
          case rel => exact ⟨World.ownsRow_made w2 #[] 0 (Nat.le_refl _) (Nat.zero_le _) rfl, (Below.refl _ w2).alloc (Nat.le_refl _) _⟩
        | some ad =>
          have hnews : ∀ j u, (F.map fun x => Value.string (bs x))[j]? = some u → (w2.alloc (.cells #[] 9)).cell? (ad.add j) = some u := by
            intro j u hj
            obtain ⟨hj', rfl⟩ := List.getElem?_eq_some_iff.1 hj
            have hj2 : j < F.length := by simpa using hj'
            obtain ⟨b, o, e, hc⟩ := f4 j (by simpa using hj2)
            obtain rfl : ad = ⟨b, o, none⟩ := by simpa using e
            have hadd : (⟨b, o, none⟩ : Addr).add j = ⟨b, o + j, none⟩ := by unfold Addr.add; split <;> simp_all
            have hBa := hB2.alloc hB2.size (.cells #[] 9)
            rw [hadd, hBa.cell (World.block_lt_of_cell? w _ hc), hc]
            simp
          go_wp2_with (at_builtin; go_must (refine wpList_append_own_at _ rfl _ _ 22 rfl w2.heap.size 9 i0 (.string ⟨#[]⟩) 1 16 Tryz.underlying22 hi hz0 hz1 hz2 rfl (by decide) _ _ _ rfl (World.ownsRow_made w2 #[] 0 (Nat.le_refl _) (Nat.zero_le _) rfl) ad F.length fc (F.map fun x => Value.string (bs x)) rfl (by simp) hnews (by intro u hu; obtain ⟨x, -, rfl⟩ := List.mem_map.1 hu; rfl) (by unfold maxLen; omega) (by omega) (by simp) ?_); intro v' w5 hown' hgrow _ hat)
          go_meet
          case rel => exact ⟨by simpa using hown', ((Below.refl _ w2).alloc (Nat.le_refl _) _).grown hgrow (by simp) (fun k e => Nat.le_of_eq (Option.some.inj e))⟩
      case rest =>
        obtain ⟨hown, hBc⟩ := hcut
        obtain ⟨ka, kc, rfl⟩ := own_slice hown
        clear f4 f1 f2 f3 hf hG hgy
        go_wp2_with fail
        go_loopw [8, 33] (fun vo vi wr => UnsR w2 l F M vo vi wr) (fun _ vi _ => M.length - (intOf vi).toNat)
        case atStart => exact ⟨0, F, Nat.zero_le _, rfl, Nat.le_refl _, hid (by simp [unsaid]), hown, hBc⟩
        case round =>
          obtain ⟨k, acc, hk, rfl, hacc, Hacc, hown, hB⟩ := hrel
          obtain ⟨ka, kc, rfl⟩ := own_slice hown
          by_cases hlt : k < M.length
          · obtain ⟨x, hx⟩ : ∃ x, M[k]? = some x := ⟨_, List.getElem?_eq_getElem hlt⟩
            obtain ⟨b, o, rfl, hc⟩ := hm4 k x hx
            have c0 := hc wr hB
            have hki : (k : Int) < (M.length : Int) := by omega
            have Hsn := hid (unsaid_snoc l M k x hx)
            obtain ⟨mm, hmm⟩ := (hG2.below hB).2.2
            have hcon := Tryz.strings_Contains (bs l) (bs x) mm wr (by rw [bs_size]; omega) hmm
            rw [bs_list, bs_list] at hcon
            obtain ⟨C, hC⟩ : ∃ c, Lib.contains l x = c := ⟨_, rfl⟩
            rw [hC] at hcon Hsn
            have hx0 : (0 < (bs x).size) = (x ≠ []) := by rw [bs_size]; exact propext ⟨fun h => List.ne_nil_of_length_pos h, fun h => List.length_pos_iff.2 h⟩
            clear hx hC hmm
            by_cases hn : 0 < (bs x).size
            · have hni : (0 : Int) < ((bs x).size : Int) := by omega
              have hne : x.isEmpty = false := by have h := hn; rw [hx0] at h; simpa using h
              have Hsn2 := Hsn.out
              rw [hne] at Hsn2
              have Hne := hid Hsn2
              clear hx0 Hsn2 Hsn hne
              go_wp2_with fail
              refine hcon.mono ?_
              rintro e w' ⟨rfl, hw'⟩
              obtain rfl := hw'.symm
              cases C with
              | true =>
                go_wp2_with fail
                go_roundw
                case rel => exact ⟨k + 1, acc, by omega, by go_num, by omega, hid (by rw [Hacc.out, Hne.out]; simp), hown, hB⟩
                case measure => simp [intOf]; omega
              | false =>
                go_wp2_with (at_builtin; go_must (refine wpList_append_own_at _ rfl _ _ 22 rfl w2.heap.size 9 i0 (.string ⟨#[]⟩) 1 16 Tryz.underlying22 hi hz0 hz1 hz2 rfl (by decide) _ _ _ rfl (hown.alloc _) ⟨wr.heap.size, 0, none⟩ 1 1 [.string (bs x)] rfl rfl (row_new wr _ 9) (by simp [Value.oneCell']) (by simp [maxLen]; omega) (by omega) (by have := hB.size; simp; omega) ?_); intro v' w5 hown' hgrow _ hat; obtain ⟨g', cap', rfl⟩ := ownsRow_succ hown')
                go_roundw
                case rel =>
                  refine ⟨k + 1, acc ++ [x], by omega, by go_num, by simp; omega, hid (by rw [Hacc.out, Hne.out]; simp), ?_, (hB.alloc hB.size _).grown hgrow (by have := hB.size; simp; omega) (fun q e => (hown.lt q e).1)⟩
                  rw [List.length_append, List.map_append]
                  exact hown'
                case measure => simp [intOf]; omega
            · have hni : ¬ (0 : Int) < ((bs x).size : Int) := by omega
              have hne : x.isEmpty = true := by have h := hn; rw [hx0] at h; simpa using h
              have Hsn2 := Hsn.out
              rw [hne] at Hsn2
              have Hne := hid Hsn2
              clear hx0 Hsn2 Hsn hne
              go_wp2_with fail
              go_roundw
              case rel => exact ⟨k + 1, acc, by omega, by go_num, by omega, hid (by rw [Hacc.out, Hne.out]; simp), hown, hB⟩
              case measure => simp [intOf]; omega
          · have hacc2 := Hacc.out
            rw [List.take_of_length_le (by omega)] at hacc2
            have Htree := hid (show treeOf F l = treeOf acc l by rw [hacc2]; exact tree_same _ _ _ (unsaid_agree l F M))
            have hst : Strs wr (.slice ka acc.length kc) (acc.map bs) := by
              refine Strs.of_owns (base := w2.heap.size) (e := 9) ?_
              rw [List.length_map, List.map_map]
              exact hown
            have hcall1 := tree_any F (by omega) l (.slice fa F.length fc) wr (by omega) (Strs.soft hf2 (Soft.of_below hB)) (hG2.below hB) (hgy2.below hB)
            have hcall2 := fun V (hV : Below wr.heap.size wr V) => tree_any acc (by omega) l (.slice ka acc.length kc) V (by omega) (Strs.soft hst (Soft.of_below hV)) ((hG2.below hB).below hV) ((hgy2.below hB).below hV)
            rw [Htree.out] at hcall1
            have hok := treeOf_ok acc l
            have hBw := hB2.trans (hB.mono hB2.size)
            generalize treeOf acc l = p at *
            clear hacc2 Hacc Htree hown hm4 hst hf2
            go_wp2_with fail
            refine hcall1.mono ?_
            intro e w4 hst4
            obtain ⟨ta, tc, te, tec, tb, tbc, tk, tkc, td, tdc, rfl, iS, b4⟩ := hst4.row
            have hT4 := heap_alloc_new w4 (.cells #[.int .i64 p.1.kind, .string (bs p.1.name), .int .i64 p.1.expr.kind, .string (bs p.1.expr.name), .int .i64 p.1.expr.val.kind, .slice ta p.1.expr.val.shape.length tc, .slice te p.1.expr.val.elems.length tec, .int .i64 p.1.expr.fn.kind, .int .i64 p.1.expr.fn.f, .int .i64 p.1.expr.fn.g, .string (bs p.1.expr.fn.name), .slice tb p.1.expr.fn.body.len tbc, .slice tk p.1.expr.kids.len tkc, .slice td p.1.body.len tdc] 36)
            have hb5 := (Below.refl _ w4).alloc (Nat.le_refl _) (.cells #[.int .i64 p.1.kind, .string (bs p.1.name), .int .i64 p.1.expr.kind, .string (bs p.1.expr.name), .int .i64 p.1.expr.val.kind, .slice ta p.1.expr.val.shape.length tc, .slice te p.1.expr.val.elems.length tec, .int .i64 p.1.expr.fn.kind, .int .i64 p.1.expr.fn.f, .int .i64 p.1.expr.fn.g, .string (bs p.1.expr.fn.name), .slice tb p.1.expr.fn.body.len tbc, .slice tk p.1.expr.kids.len tkc, .slice td p.1.body.len tdc] 36)
            clear hcall1 hst4
            go_upto_region 12 with fail
            generalize w4.alloc (.cells #[.int .i64 p.1.kind, .string (bs p.1.name), .int .i64 p.1.expr.kind, .string (bs p.1.expr.name), .int .i64 p.1.expr.val.kind, .slice ta p.1.expr.val.shape.length tc, .slice te p.1.expr.val.elems.length tec, .int .i64 p.1.expr.fn.kind, .int .i64 p.1.expr.fn.f, .int .i64 p.1.expr.fn.g, .string (bs p.1.expr.fn.name), .slice tb p.1.expr.fn.body.len tbc, .slice tk p.1.expr.kids.len tkc, .slice td p.1.body.len tdc] 36) = w5 at *
            have hB5 := b4.trans (hb5.mono b4.size)
            have hc2 := hcall2 w5 hB5
            clear hcall2
            go_wp2_with fail
            refine hc2.mono ?_
            intro e w6 hst6
            obtain ⟨ya, yc, ye, yec, yb, ybc, yk, ykc, yd, ydc, rfl, iY, b6⟩ := hst6.row
            have hT6 := (b6.block _ (Array.getElem?_eq_some_iff.1 hT4).1).trans hT4
            have hY6 := heap_alloc_new w6 (.cells #[.int .i64 p.1.kind, .string (bs p.1.name), .int .i64 p.1.expr.kind, .string (bs p.1.expr.name), .int .i64 p.1.expr.val.kind, .slice ya p.1.expr.val.shape.length yc, .slice ye p.1.expr.val.elems.length yec, .int .i64 p.1.expr.fn.kind, .int .i64 p.1.expr.fn.f, .int .i64 p.1.expr.fn.g, .string (bs p.1.expr.fn.name), .slice yb p.1.expr.fn.body.len ybc, .slice yk p.1.expr.kids.len ykc, .slice yd p.1.body.len ydc] 36)
            have hb7 := (Below.refl _ w6).alloc (Nat.le_refl _) (.cells #[.int .i64 p.1.kind, .string (bs p.1.name), .int .i64 p.1.expr.kind, .string (bs p.1.expr.name), .int .i64 p.1.expr.val.kind, .slice ya p.1.expr.val.shape.length yc, .slice ye p.1.expr.val.elems.length yec, .int .i64 p.1.expr.fn.kind, .int .i64 p.1.expr.fn.f, .int .i64 p.1.expr.fn.g, .string (bs p.1.expr.fn.name), .slice yb p.1.expr.fn.body.len ybc, .slice yk p.1.expr.kids.len ykc, .slice yd p.1.body.len ydc] 36)
            clear hc2 hst6 hT4
            go_upto_region 13 with fail
            generalize w6.alloc (.cells #[.int .i64 p.1.kind, .string (bs p.1.name), .int .i64 p.1.expr.kind, .string (bs p.1.expr.name), .int .i64 p.1.expr.val.kind, .slice ya p.1.expr.val.shape.length yc, .slice ye p.1.expr.val.elems.length yec, .int .i64 p.1.expr.fn.kind, .int .i64 p.1.expr.fn.f, .int .i64 p.1.expr.fn.g, .string (bs p.1.expr.fn.name), .slice yb p.1.expr.fn.body.len ybc, .slice yk p.1.expr.kids.len ykc, .slice yd p.1.body.len ydc] 36) = w7 at *
            have hT7 := (hb7.block _ (Array.getElem?_eq_some_iff.1 hT6).1).trans hT6
            have hB7 := hB5.trans ((b6.trans (hb7.mono b6.size)).mono hB5.size)
            have hsame := pSame_any p.1 p.1 (.agg #[.int .i64 p.1.kind, .string (bs p.1.name), .int .i64 p.1.expr.kind, .string (bs p.1.expr.name), .int .i64 p.1.expr.val.kind, .slice ta p.1.expr.val.shape.length tc, .slice te p.1.expr.val.elems.length tec, .int .i64 p.1.expr.fn.kind, .int .i64 p.1.expr.fn.f, .int .i64 p.1.expr.fn.g, .string (bs p.1.expr.fn.name), .slice tb p.1.expr.fn.body.len tbc, .slice tk p.1.expr.kids.len tkc, .slice td p.1.body.len tdc]) (.agg #[.int .i64 p.1.kind, .string (bs p.1.name), .int .i64 p.1.expr.kind, .string (bs p.1.expr.name), .int .i64 p.1.expr.val.kind, .slice ya p.1.expr.val.shape.length yc, .slice ye p.1.expr.val.elems.length yec, .int .i64 p.1.expr.fn.kind, .int .i64 p.1.expr.fn.f, .int .i64 p.1.expr.fn.g, .string (bs p.1.expr.fn.name), .slice yb p.1.expr.fn.body.len ybc, .slice yk p.1.expr.kids.len ykc, .slice yd p.1.body.len ydc]) w7 hok.1 hok.2 hok.1 hok.2 (((iS.below hb5).below b6).below hb7) (iY.below hb7)
            rw [decide_eq_true (rfl : p.1 = p.1)] at hsame
            have hBf := hBw.trans (hB7.mono hBw.size)
            obtain ⟨c0, c1, c2, c3, c4, c5, c6, c7, c8, c9, c10, c11, c12, c13⟩ := st_facts hT7
            obtain ⟨d0, d1, d2, d3, d4, d5, d6, d7, d8, d9, d10, d11, d12, d13⟩ := st_facts hY6
            clear hT6 iS iY
            go_wp2_with fail
            refine hsame.mono ?_
            rintro e w8 ⟨rfl, b8⟩
            go_wp2_with fail
            go_ret
            exact ⟨rfl, hBf.trans (b8.mono hBf.size)⟩
end Go.Proofs.YtijfnnjgcgmnaaaGreatDoor.Par
