/- lex.Split: a program's statements. -/
import Derived.Test.YtjapijkgjgfcnaaDoorLexCuts
namespace Go.Proofs.YtjapijkgjgfcnaaDoor
open Go.RowKit Go.Shelf
set_option linter.unusedVariables false
attribute [local go_sem] Oper.semAt_some

theorem Tryd.infoStr : (Tryd.prog.info? 9).map (fun i => (i.zero, i.size, i.bytes)) = some (some (.string ⟨#[]⟩), 1, 16) := by kernel_rfl

theorem trim_any (s : ByteArray) (w : World) (hs : s.size ≤ 9223372036854775807) :
    Calls Tryd.prog 50 #[.string s, .string ⟨#[32]⟩] w fun e w' => e = .returned (.string ⟨(Lib.trimB s.data.toList 32).toArray⟩) ∧ Quiet w w' := by
  refine (Tryd.strings_Trim_one s 32 (by decide) w hs).mono ?_
  rintro e w' ⟨rfl, rfl | rfl⟩
  · exact ⟨rfl, Quiet.refl _⟩
  · exact ⟨rfl, ⟨1, rfl⟩⟩

/-- New strings. -/
def NewStrs (w : World) (xs : List ByteArray) (v : Value) (w' : World) : Prop :=
  w'.ownsRow w.heap.size 9 1 v xs.length (xs.map Value.string) ∧ Below w.heap.size w w'
def RetStrs (w : World) (xs : List ByteArray) (e : Ending) (w' : World) : Prop := ∃ v, e = .returned v ∧ NewStrs w xs v w'

/-- What Split holds when k pieces have gone. -/
def splitI (s : ByteArray) (w : World) (k : Nat) (W : World) : Prop :=
  ((∃ v, Boxed W (w.heap.size + 1) 51 v ∧ W.ownsRow (w.heap.size + 4) 9 1 v (outOf s ((allCuts s).take k) 0).length ((outOf s ((allCuts s).take k) 0).map Value.string)) ∧
    Boxed W (w.heap.size + 1 + 1) 3 (.int .i64 (endOf ((allCuts s).take k))) ∧ Boxed W w.heap.size 9 (.string s) ∧ w.heap.size + 4 ≤ W.heap.size) ∧ Below w.heap.size w W

theorem tw_all {α : Type} (p : α → Bool) (l : List α) (x : α) (h : x ∈ l.takeWhile p) : p x = true := by
  induction l with
  | nil => simp at h
  | cons y r ih =>
    by_cases hy : p y = true
    · rw [List.takeWhile_cons_of_pos hy] at h
      rcases List.mem_cons.1 h with rfl | h
      · exact hy
      · exact ih h
    · rw [List.takeWhile_cons_of_neg hy] at h; simp at h

theorem dw_nil {α : Type} (p : α → Bool) (l : List α) (h : ∀ x ∈ l, p x = true) : l.dropWhile p = [] := by
  induction l with
  | nil => rfl
  | cons y r ih =>
    rw [List.dropWhile_cons_of_pos (h y (by simp))]
    exact ih (fun x hx => h x (by simp [hx]))

theorem trim_blank (pc : ByteArray) : Lib.trimB pc.data.toList 32 = [] ↔ blankB pc = true := by
  unfold Lib.trimB Lib.trimLeftB Lib.trimRightB blankB
  generalize pc.data.toList = l
  rw [List.all_eq_true]
  constructor
  · intro h
    have h1 : ∀ x ∈ (l.reverse.dropWhile (· == 32)).reverse, (x == 32) = true := by
      intro x hx
      have := List.takeWhile_append_dropWhile (p := (· == 32)) (l := (l.reverse.dropWhile (· == 32)).reverse)
      rw [h, List.append_nil] at this
      rw [← this] at hx
      exact (tw_all (· == 32) _ _ hx)
    intro x hx
    have e := List.takeWhile_append_dropWhile (p := (· == 32)) (l := l.reverse)
    have hx' : x ∈ l.reverse := List.mem_reverse.2 hx
    rw [← e] at hx'
    rcases List.mem_append.1 hx' with h2 | h2
    · exact tw_all (· == 32) _ _ h2
    · exact h1 x (List.mem_reverse.2 h2)
  · intro h
    have h1 : l.reverse.dropWhile (· == 32) = [] := dw_nil _ _ (fun x hx => h x (List.mem_reverse.1 hx))
    rw [h1]; rfl

theorem outOf_len (s : ByteArray) (l : List (Nat × Nat)) (f : Nat) : (outOf s l f).length ≤ l.length := by
  induction l generalizing f with
  | nil => simp [outOf]
  | cons c r ih =>
    obtain ⟨p, nx⟩ := c
    have := ih nx
    simp only [outOf, List.length_append, List.length_cons]
    split <;> simp <;> omega

theorem outOf_take_len (s : ByteArray) (k : Nat) : (outOf s ((allCuts s).take k) 0).length ≤ s.size + 1 := by
  have h1 := outOf_len s ((allCuts s).take k) 0
  have h2 : ((allCuts s).take k).length ≤ (allCuts s).length := List.length_take_le' _ _
  have h3 := allCuts_length_le s
  omega

set_option maxRecDepth 100000 in
set_option maxHeartbeats 2000000 in
theorem split_any (s : ByteArray) (w : World) (hs : s.size ≤ 1000000000) : Calls Tryd.prog 30 #[.string s] w (RetStrs w (splitOf s)) := by
  obtain ⟨i0, hi, hz0, hz1, hz2⟩ := info_parts Tryd.infoStr
  refine calls_of_wp_m Tryd.func30 rfl ?_
  simp only [Tryd.ntmps30, List.size_toArray, List.length_cons, List.length_nil, Nat.reduceAdd, Nat.reduceSub, Array.replicate_succ, Array.replicate_zero, List.push_toArray, List.append_toArray, List.nil_append, List.cons_append]
  go_wp2_with fail
  go_step3
  go_wp2_with fail
  go_step3
  go_wp2_with fail
  refine (cuts_any _ _).mono ?_
  rintro e w' ⟨rfl, rfl⟩
  go_wp2_with fail
  go_outline
  refine range_law0 rfl (enters_of Tryd.func76 (by kernel_rfl) rfl) (S := fun b => b = w.heap.size + 3)
    (cuts1_seq (w.heap.size + 3) _ s _ hs rfl (by go_simp))
    (by intro b h; simp; omega) (fun _ => rfl) (splitI s w) (fun _ _ => False)
    (OwnFrom.and (Own.from (fun k A B row hs hg hr => by
      obtain ⟨⟨v, h1, h2⟩, h3, h4, h5⟩ := hs
      exact ⟨⟨v, boxed_turn h1 hg hr, owns_turn h2 hg hr⟩, boxed_turn h3 hg hr, boxed_turn h4 hg hr, Nat.le_trans h5 hg.size⟩) _) (ownFrom_below (Nat.le_refl _) (by simp; omega)))
    (fun _ _ _ _ hs _ _ => hs)
    ⟨⟨⟨.slice none 0 0, (((boxed_at (by simp)).alloc _).alloc _), World.ownsRow_nil _ _ _ _⟩, (show Boxed _ (w.heap.size + 1 + 1) 3 (.int .i64 0) from (boxed_at (by simp)).alloc _), ((((boxed_at rfl).alloc _).alloc _).alloc _), by simp⟩, (((((Below.refl _ w).alloc (Nat.le_refl _) _).alloc (by simp) _).alloc (by simp; omega) _).alloc (by simp; omega) _)⟩
    ?a1 ?assign ?body ?done ?stop
  case assign =>
    intro l k W K hK
    simp only [cutEnc]
    gi_wp2
    exact hK
  case body =>
    rintro l k W hk ⟨⟨⟨v, hv, hrow⟩, hfr, hsb, hsz⟩, hB⟩
    have hc0 := hsb.cell
    have hc2 := hfr.cell
    have hf2 := hfr.frozen
    obtain ⟨p, nx, he, h1, h2, h3, h4⟩ := cut_nth s k hk
    rw [he]
    simp only [Option.getD_some]
    have hps : (s.extract (endOf ((allCuts s).take k)) p).size ≤ 1000000000 := by rw [ByteArray.size_extract]; omega
    have hendk := hid (show endOf ((allCuts s).take (k + 1)) = nx by rw [List.take_add_one, he]; exact endOf_snoc _ _)
    have houtk := hid (show outOf s ((allCuts s).take (k + 1)) 0 = outOf s ((allCuts s).take k) 0 ++ if blankB (s.extract (endOf ((allCuts s).take k)) p) = true then [] else [s.extract (endOf ((allCuts s).take k)) p] by
      rw [List.take_add_one, he]; exact outOf_snoc' s _ (p, nx))
    have hlk := hid (outOf_take_len s k)
    clear he hk
    generalize outOf s ((allCuts s).take k) 0 = L at *
    generalize endOf ((allCuts s).take k) = f at *
    generalize hpc : s.extract f p = pc at *
    have Hpc := hid hpc
    clear hpc
    gi_wp2
    rw [Hpc.out]
    refine ⟨trivial, rfl, ?_⟩
    refine (round_calls l (trim_any pc _ (by omega))).mono ?_
    rintro e W2 ⟨rfl, nq, rfl⟩
    have hv2 : Boxed ((W.setCell ⟨w.heap.size + 1 + 1, 0, none⟩ (.int .i64 (nx : Nat))).drewN nq) (w.heap.size + 1) 51 v := hv.other (by omega) _
    have hn2 : Boxed ((W.setCell ⟨w.heap.size + 1 + 1, 0, none⟩ (.int .i64 (nx : Nat))).drewN nq) (w.heap.size + 1 + 1) 3 (.int .i64 (nx : Nat)) := hfr.set _
    have hs2 : Boxed ((W.setCell ⟨w.heap.size + 1 + 1, 0, none⟩ (.int .i64 (nx : Nat))).drewN nq) w.heap.size 9 (.string s) := hsb.other (by omega) _
    have hr2 : ((W.setCell ⟨w.heap.size + 1 + 1, 0, none⟩ (.int .i64 (nx : Nat))).drewN nq).ownsRow (w.heap.size + 4) 9 1 v L.length (L.map Value.string) :=
      ownsRow_setCell_below hrow (by simp) _
    have hB2 : Below w.heap.size w ((W.setCell ⟨w.heap.size + 1 + 1, 0, none⟩ (.int .i64 (nx : Nat))).drewN nq) := below_drewN (hB.setCell (by simp; omega) _) _
    have hko : KeepsOthers W ((W.setCell ⟨w.heap.size + 1 + 1, 0, none⟩ (.int .i64 (nx : Nat))).drewN nq) := (KeepsOthers.setCell _ _ _).trans (KeepsOthers.drewN' _ _)
    have hkn : KeepsOn (fun b => b = w.heap.size + 3) W ((W.setCell ⟨w.heap.size + 1 + 1, 0, none⟩ (.int .i64 (nx : Nat))).drewN nq) := ((KeepsOn.refl _ _).setCell (by simp) _).drewN _
    have hsz2 : w.heap.size + 4 ≤ ((W.setCell ⟨w.heap.size + 1 + 1, 0, none⟩ (.int .i64 (nx : Nat))).drewN nq).heap.size := by simpa using hsz
    generalize (W.setCell ⟨w.heap.size + 1 + 1, 0, none⟩ (.int .i64 (nx : Nat))).drewN nq = W2 at *
    clear hv hfr hsb hrow hc0 hc2 hf2
    by_cases hbl : blankB pc = true
    · have htr : Lib.trimB pc.data.toList 32 = [] := (trim_blank pc).2 hbl
      rw [htr]
      have hL : Hid (outOf s ((allCuts s).take (k + 1)) 0 = L) := hid (by rw [houtk.out, if_pos hbl, List.append_nil])
      gi_wp2
      refine ⟨hko.from _, hkn, ⟨?_, hB2⟩⟩
      rw [hL.out, hendk.out]
      exact ⟨⟨v, hv2, hr2⟩, hn2, hs2, hsz2⟩
    · have htr : Lib.trimB pc.data.toList 32 ≠ [] := fun e => hbl ((trim_blank pc).1 e)
      have hie : (Lib.trimB pc.data.toList 32).isEmpty = false := by simpa using htr
      generalize Lib.trimB pc.data.toList 32 = tl at *
      have hL : Hid (outOf s ((allCuts s).take (k + 1)) 0 = L ++ [pc]) := hid (by rw [houtk.out, if_neg hbl])
      have hlk' := hlk.out
      have hvc := hv2.cell
      have hone := hid (one_new W2 (.string pc) 9)
      clear hbl htr
      gi_wp2_with (gi_at_builtin; refine wpListIn_append_own _ rfl _ _ 51 rfl (w.heap.size + 4) 9 i0 (.string ⟨#[]⟩) 1 16 Tryd.underlying51 hi hz0 hz1 hz2 rfl (by decide) _ _ _ rfl (hr2.alloc _) ⟨W2.heap.size, 0, none⟩ 1 1 [.string pc] rfl rfl hone.out (by simp [Value.oneCell']) (by simp [maxLen]; omega) (by omega) (by simp; omega) ?_; intro v' w1 hown' hgrow _; obtain ⟨g', cap', rfl⟩ := ownsRow_succ hown'; obtain ⟨hr4, hk4, hb4, hoth, hbx, hkn4⟩ := append_put (B := w.heap.size + 1) (n₀ := w.heap.size) hr2 hown' hgrow (by omega) hsz2 (by omega); have hv3 := (hbx _ hv2).1; have hc3 := hv3.cell; have hf3 := hv3.frozen)
      refine ⟨(hko.trans hk4).from _, hkn.trans _ _ _ (hkn4 _ (by intro b h; omega)), ⟨?_, hB2.trans hb4⟩⟩
      rw [hL.out, hendk.out]
      refine ⟨⟨_, (hbx _ hv2).2, by simpa using hr4⟩, hoth _ _ _ (by omega) (by omega) hn2, hoth _ _ _ (by omega) (by omega) hs2, ?_⟩
      have := hb4.size; omega
  case done =>
    rintro D W hD ⟨⟨⟨v, hv, hrow⟩, hfr, hsb, hsz⟩, hB⟩ hK
    rw [List.take_of_length_le (Nat.le_refl _)] at hrow
    have hvc := hv.cell
    go_wp2
    try rw [Exit.noGoto_ret]
    refine post_mark hK (results_tmp rfl _ _ _) ?_
    refine ⟨_, rfl, ?_, below_putObj hB (by simp at hD; omega) _⟩
    exact owns_mono (owns_turn hrow (grownBy_putObj' W D (.deferred none)) (fun r e => by cases e; exact ⟨_, hK, rfl⟩)) (by omega)
  case stop =>
    rintro D c W _ h _
    exact h.elim

end Go.Proofs.YtjapijkgjgfcnaaDoor
