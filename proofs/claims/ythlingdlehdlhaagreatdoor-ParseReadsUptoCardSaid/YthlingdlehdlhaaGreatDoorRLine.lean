/- The reference's reader: what a drawn call leaves; a line's law.
   The reference's reader: a line.
   The reference's reader: lines. -/
import Derived.Test.YthlingdlehdlhaaGreatDoorROps
import Derived.Test.YthlingdlehdlhaaGreatDoorPExpr
import Derived.Test.YthlingdlehdlhaaGreatDoorPLines
import Derived.Deep.Cut
import Derived.StillTailTactics
import Derived.Maps.AppendAt
namespace Go.Proofs.YthlingdlehdlhaaGreatDoor.Par
open Go.RowKit Go.Shelf
set_option linter.unusedVariables false
set_option linter.unusedSimpArgs false

/-- What a call in a region that draws leaves: an expression's own block. -/
def GotE (w1 W : World) (law : Option Ex) (vp vk : Value) : Prop :=
  ∃ (A : Nat) (y : Ex) (vs ve vb vc : Value) (ok : Bool), vp = .pointer (some ⟨A, 0, none⟩) ∧ vk = .bool ok ∧ Below w1.heap.size w1 W ∧ w1.heap.size ≤ A ∧ XB (fun k => w1.heap.size ≤ k ∧ k ≠ A) W A y vs ve vb vc ∧ LaA law y ok
theorem gotE_a {w1 v1 : World} {law : Option Ex} {y : Ex} {vs ve vb vc : Value} {ok : Bool} (g : Below w1.heap.size w1 v1) (j1 : Fresh (Up w1.heap.size) v1 (Ints · vs y.val.shape)) (j2 : Fresh (Up w1.heap.size) v1 (Ints · ve y.val.elems)) (j3 : Rng y.val.elems) (j4 : Fresh (Up w1.heap.size) v1 (IsTs · vb y.fn.body)) (j5 : Fresh (Up w1.heap.size) v1 (IsTs · vc y.kids)) (h : LaA law y ok) :
    GotE w1 (v1.alloc (.cells #[.int .i64 y.kind, .string (bs y.name), .int .i64 y.val.kind, vs, ve, .int .i64 y.fn.kind, .int .i64 y.fn.f, .int .i64 y.fn.g, .string (bs y.fn.name), vb, vc] 36)) law (.pointer (some ⟨v1.heap.size, 0, none⟩)) (.bool ok) := by
  have hs := Soft.alloc v1 (.cells #[.int .i64 y.kind, .string (bs y.name), .int .i64 y.val.kind, vs, ve, .int .i64 y.fn.kind, .int .i64 y.fn.f, .int .i64 y.fn.g, .string (bs y.fn.name), vb, vc] 36)
  have yo : ∀ k, Up w1.heap.size k → k < v1.heap.size → w1.heap.size ≤ k ∧ k ≠ v1.heap.size := fun k h1 h2 => ⟨h1, by omega⟩
  exact ⟨_, y, vs, ve, vb, vc, ok, rfl, rfl, g.alloc g.size _, g.size, ⟨heap_alloc_new v1 _, j1.young hs yo, j2.young hs yo, j3, j4.young hs yo, j5.young hs yo⟩, h⟩
theorem gotE_b {w1 v1 : World} {law : Option Ex} {y : Ex} {vs ve vb vc : Value} {ok : Bool} {cs : Array Value} (b : Below (w1.alloc (.cells cs 36)).drew.heap.size (w1.alloc (.cells cs 36)).drew v1) (j1 : Fresh (Up (w1.alloc (.cells cs 36)).drew.heap.size) v1 (Ints · vs y.val.shape)) (j2 : Fresh (Up (w1.alloc (.cells cs 36)).drew.heap.size) v1 (Ints · ve y.val.elems)) (j3 : Rng y.val.elems) (j4 : Fresh (Up (w1.alloc (.cells cs 36)).drew.heap.size) v1 (IsTs · vb y.fn.body)) (j5 : Fresh (Up (w1.alloc (.cells cs 36)).drew.heap.size) v1 (IsTs · vc y.kids)) (h : LaA law y ok)
    {W : World} (ho : Oth w1.heap.size v1 W) (hp : W.heap[w1.heap.size]? = some (.cells #[.int .i64 y.kind, .string (bs y.name), .int .i64 y.val.kind, vs, ve, .int .i64 y.fn.kind, .int .i64 y.fn.f, .int .i64 y.fn.g, .string (bs y.fn.name), vb, vc] 36)) :
    GotE w1 W law (.pointer (some ⟨w1.heap.size, 0, none⟩)) (.bool ok) := by
  have yo : ∀ k, Up (w1.alloc (.cells cs 36)).drew.heap.size k → w1.heap.size ≤ k ∧ k ≠ w1.heap.size := fun k h1 => by
    have h2 : (w1.alloc (.cells cs 36)).heap.size ≤ k := h1
    simp at h2
    exact ⟨by omega, by omega⟩
  have hsf := ho.soft (base := fun k => w1.heap.size ≤ k ∧ k ≠ w1.heap.size) (fun h => h.2 rfl)
  have gA := ((Below.refl w1.heap.size w1).alloc (Nat.le_refl _) (.cells cs 36)).drew
  exact ⟨_, y, vs, ve, vb, vc, ok, rfl, rfl, ho.below (gA.trans (b.mono gA.size)) (Nat.le_refl _), Nat.le_refl _, ⟨hp, (j1.weak yo).softF hsf, (j2.weak yo).softF hsf, j3, (j4.weak yo).softF hsf, (j5.weak yo).softF hsf⟩, h⟩
/-- .. a line's own block. -/
structure LB (Sb : Nat → Prop) (w : World) (X : Nat) (y : Ln) (vc : Value) : Prop where
  hp : w.heap[X]? = some (.cells #[.int .i64 y.kind, .string (bs y.name), vc] 93)
  j : Fresh Sb w (IsTs · vc y.kids)
def GotL (w1 W : World) (law : Option Ln) (vp vk : Value) : Prop :=
  ∃ (A : Nat) (y : Ln) (vc : Value) (ok : Bool), vp = .pointer (some ⟨A, 0, none⟩) ∧ vk = .bool ok ∧ Below w1.heap.size w1 W ∧ w1.heap.size ≤ A ∧ LB (fun k => w1.heap.size ≤ k ∧ k ≠ A) W A y vc ∧ LaA law y ok
theorem gotL_a {w1 v1 : World} {law : Option Ln} {y : Ln} {vc : Value} {ok : Bool} (g : Below w1.heap.size w1 v1) (j : Fresh (Up w1.heap.size) v1 (IsTs · vc y.kids)) (h : LaA law y ok) :
    GotL w1 (v1.alloc (.cells #[.int .i64 y.kind, .string (bs y.name), vc] 93)) law (.pointer (some ⟨v1.heap.size, 0, none⟩)) (.bool ok) := by
  have hs := Soft.alloc v1 (.cells #[.int .i64 y.kind, .string (bs y.name), vc] 93)
  have yo : ∀ k, Up w1.heap.size k → k < v1.heap.size → w1.heap.size ≤ k ∧ k ≠ v1.heap.size := fun k h1 h2 => ⟨h1, by omega⟩
  exact ⟨_, y, vc, ok, rfl, rfl, g.alloc g.size _, g.size, ⟨heap_alloc_new v1 _, j.young hs yo⟩, h⟩
theorem gotL_b {w1 v1 : World} {law : Option Ln} {y : Ln} {vc : Value} {ok : Bool} {cs : Array Value} (b : Below (w1.alloc (.cells cs 93)).drew.heap.size (w1.alloc (.cells cs 93)).drew v1) (j : Fresh (Up (w1.alloc (.cells cs 93)).drew.heap.size) v1 (IsTs · vc y.kids)) (h : LaA law y ok)
    {W : World} (ho : Oth w1.heap.size v1 W) (hp : W.heap[w1.heap.size]? = some (.cells #[.int .i64 y.kind, .string (bs y.name), vc] 93)) :
    GotL w1 W law (.pointer (some ⟨w1.heap.size, 0, none⟩)) (.bool ok) := by
  have yo : ∀ k, Up (w1.alloc (.cells cs 93)).drew.heap.size k → w1.heap.size ≤ k ∧ k ≠ w1.heap.size := fun k h1 => by
    have h2 : (w1.alloc (.cells cs 93)).heap.size ≤ k := h1
    simp at h2
    exact ⟨by omega, by omega⟩
  have hsf := ho.soft (base := fun k => w1.heap.size ≤ k ∧ k ≠ w1.heap.size) (fun h => h.2 rfl)
  have gA := ((Below.refl w1.heap.size w1).alloc (Nat.le_refl _) (.cells cs 93)).drew
  exact ⟨_, y, vc, ok, rfl, rfl, ho.below (gA.trans (b.mono gA.size)) (Nat.le_refl _), Nat.le_refl _, ⟨hp, (j.weak yo).softF hsf⟩, h⟩
theorem rline_mk {w W wf : World} {R : Nat} {law : Option Ln} {xv : Value} {x : Ln} {ok : Bool} (hb : Below w.heap.size w W) (ho : Oth R W wf) (hR : w.heap.size ≤ R) (hf : Fresh (fun k => R < k) W (IsLn · xv x)) (h : LaA law x ok) :
    RLineA w wf law (.returned (.tuple #[xv, .bool ok])) :=
  ⟨xv, x, ok, rfl, ho.below hb hR, (hf.softF (ho.soft (fun h => Nat.lt_irrefl _ h))).weak (fun k hk => Nat.le_trans hR (Nat.le_of_lt hk)), h⟩
/-- Kids in a row of their own. -/
theorem rkids {R : Nat} {W : World} {ks : Tr} {us : List (List Value)} (hc : Cells (fun k => R < k) W ks us) (hR : R < W.heap.size) (hks : ks.len ≤ 1000) (cur : Array Value) (hcur : cur = us.flatten.toArray) (T : TypeId) : Fresh (fun k => R < k) (W.alloc (.cells cur T)) (IsTs · (.slice (some ⟨W.heap.size, 0, none⟩) ks.len ks.len) ks) :=
  (hc.soft (Soft.alloc W _)).row hR (heap_alloc_new W (.cells cur T)) rfl (Nat.le_refl _) (by omega) (by intro i u hu; subst hcur; simpa using hu)
theorem XB.weak {Sb S2 : Nat → Prop} {w : World} {X : Nat} {x : Ex} {vs ve vb vc : Value} (h : XB Sb w X x vs ve vb vc) (hs : ∀ k, Sb k → S2 k) : XB S2 w X x vs ve vb vc := ⟨h.hp, h.i1.weak hs, h.i2.weak hs, h.i3, h.j1.weak hs, h.j2.weak hs⟩
theorem parts_pos (g : List UInt8) (l : List Tok) : 0 < (partsF l g).length := by
  have h := need_parts g l
  cases hp : partsF l g with
  | nil => rw [hp, need_nil] at h; omega
  | cons p r => simp
theorem LaA.none_of {α : Type} {law : Option α} {x : α} {ok : Bool} (h : LaA law x ok) (hk : ok = false) : law = none := by
  rcases h with ⟨-, h⟩ | ⟨h, -⟩
  · exact h
  · rw [hk] at h; cases h
theorem LaA.some_of {α : Type} {law : Option α} {x : α} {ok : Bool} (h : LaA law x ok) (hk : ok = true) : law = some x := by
  rcases h with ⟨h, -⟩ | ⟨-, h⟩
  · rw [hk] at h; cases h
  · exact h
/-- A line's law: by parts. -/
theorem rl_many (F : List (List UInt8)) (n : Nat) {l : List Tok} {ps : List (List Tok)} (h : partsF l gColon = ps) (hl : 2 < ps.length) : lineF F (n + 1) l = none := by
  rw [lineF, h]
  match ps, hl with
  | _ :: _ :: _ :: _, _ => rfl
theorem rl_two (F : List (List UInt8)) (n : Nat) {l p q : List Tok} (h : partsF l gColon = [p, q]) {x y : Ex} {ok1 ok2 : Bool} (h1 : LaA (exprF F n true p) x ok1) (h2 : LaA (exprF F n true q) y ok2) : LaA (lineF F (n + 1) l) ⟨3, [], x.cons (y.cons .nil)⟩ (ok1 && ok2) := by
  rw [lineF, h]
  simp only
  cases ok1 with
  | false => rw [h1.none_of rfl]; exact .inl ⟨rfl, rfl⟩
  | true =>
    rw [h1.some_of rfl]
    cases ok2 with
    | false => simp only; rw [h2.none_of rfl]; exact .inl ⟨rfl, rfl⟩
    | true => simp only; rw [h2.some_of rfl]; exact .inr ⟨rfl, rfl⟩
theorem rl_set (F : List (List UInt8)) (n : Nat) {l p r : List Tok} {s : List UInt8} (h : partsF l gColon = [p]) (hs : setF l = some (s, r)) {x : Ex} {ok : Bool} (h1 : LaA (exprF F n true r) x ok) : LaA (lineF F (n + 1) l) ⟨2, s, x.cons .nil⟩ (ok && !decide (s ∈ F)) := by
  rw [lineF, h]
  simp only [hs]
  by_cases hm : s ∈ F
  · rw [if_pos hm, decide_eq_true hm]; exact .inl ⟨by simp, rfl⟩
  · rw [if_neg hm, decide_eq_false hm]
    cases ok with
    | false => rw [h1.none_of rfl]; exact .inl ⟨rfl, rfl⟩
    | true => rw [h1.some_of rfl]; exact .inr ⟨rfl, rfl⟩
theorem rl_one (F : List (List UInt8)) (n : Nat) {l p : List Tok} (h : partsF l gColon = [p]) (hs : setF l = none) {x : Ex} {ok : Bool} (h1 : LaA (exprF F n true l) x ok) : LaA (lineF F (n + 1) l) ⟨1, [], x.cons .nil⟩ ok := by
  rw [lineF, h]
  simp only [hs]
  cases ok with
  | false => rw [h1.none_of rfl]; exact .inl ⟨rfl, rfl⟩
  | true => rw [h1.some_of rfl]; exact .inr ⟨rfl, rfl⟩
theorem Oth.allocs {R : Nat} {A B : World} (h : Oth R A B) (O : Obj) : Oth R (A.alloc O) (B.alloc O) :=
  ⟨h.os, h.tape, h.output, by simp [h.size], fun k hk => by show (B.heap.push O)[k]? = (A.heap.push O)[k]?; rw [Array.getElem?_push, Array.getElem?_push, h.size, h.block k hk]⟩
theorem zeroL_fresh (base : Nat → Prop) (w : World) : Fresh base w (IsLn · (.agg #[.int .i64 0, .string ⟨#[]⟩, .slice none 0 0]) ⟨0, [], .nil⟩) := Fresh.mkLn (y := ⟨0, [], .nil⟩) (Fresh.nil _ _)
end Go.Proofs.YthlingdlehdlhaaGreatDoor.Par

namespace Go.Proofs.YthlingdlehdlhaaGreatDoor.Par
open Go.RowKit Go.Shelf
set_option linter.unusedVariables false
set_option linter.unusedSimpArgs false

set_option maxRecDepth 100000 in
set_option maxHeartbeats 8000000 in
theorem rline_step (T : List Tok) (A : List Nat) (F : List (List UInt8)) (hC : RCx T A F) (n : Nat) (hE : ∀ m, m ≤ n → RExprC T A F m) : RLineC T A F (n + 1) := by
  intro w vx a b hx hab hbT hd hfu
  obtain ⟨ta, tc, aa, ac, fa, fc, rfl, i1, -⟩ := id hx
  obtain ⟨law, hlaw⟩ : ∃ law, lineF F (n + 1) (sg T a b) = law := ⟨_, rfl⟩
  rw [hlaw]
  have Hlaw := hid hlaw
  clear hlaw
  have hle := hC.le
  obtain ⟨w1, hw1⟩ : ∃ W, (w.alloc (.cells #[.slice ta T.length tc, .slice aa A.length ac, .slice fa F.length fc] 80)).alloc (.cells #[.int .i64 0, .string ⟨#[]⟩, .slice none 0 0] 93) = W := ⟨_, rfl⟩
  have hB1 : Below w.heap.size w w1 := by rw [← hw1]; exact ((Below.refl _ w).alloc (Nat.le_refl _) _).alloc (by simp) _
  have hX1 : w1.heap[w.heap.size]? = some (.cells #[.slice ta T.length tc, .slice aa A.length ac, .slice fa F.length fc] 80) := by rw [← hw1]; exact (heap_alloc_old _ _ (by simp)).trans (heap_alloc_new w _)
  have hR1 : w1.heap[w.heap.size + 1]? = some (.cells #[.int .i64 0, .string ⟨#[]⟩, .slice none 0 0] 93) := by
    have := heap_alloc_new (w.alloc (.cells #[.slice ta T.length tc, .slice aa A.length ac, .slice fa F.length fc] 80)) (.cells #[.int .i64 0, .string ⟨#[]⟩, .slice none 0 0] 93)
    rw [hw1] at this
    simpa using this
  have hsz1 : w.heap.size + 1 < w1.heap.size := (Array.getElem?_eq_some_iff.1 hR1).1
  go_enter Tryz.func92, Tryz.ntmps92
  go_upto_region 1 with fail
  try rw [hw1]
  clear hw1
  have hcut := rcut_any T A F hC.ok hC.gd a b gColon _ rfl (wt_colon _ (by decide)) hab hbT hd hle _ w1 (hx.below hB1)
  obtain ⟨X0, X1, X2⟩ := (ln_facts hX1).1
  go_wp2_with fail
  refine hcut.mono ?_
  rintro e w2 ⟨⟨cv, out, rfl, hown, hparts, hpf⟩, b2⟩
  have hB2 := hB1.trans (b2.mono hB1.size)
  have hX2 := (b2.block _ (by omega)).trans hX1
  have hR2 := (b2.block _ hsz1).trans hR1
  have hsz2 := Nat.lt_of_lt_of_le hsz1 b2.size
  have hpos := parts_pos gColon (sg T a b)
  have hplen := parts_count gColon (sg T a b)
  rw [hpf, List.length_map] at hpos hplen
  rw [sg_len hbT] at hplen
  obtain ⟨pg, pgc, rfl, hg1, hg2, hgc⟩ := parts_at hown (by rintro rfl; simp at hpos)
  have Hpf := hid hpf
  clear hcut hpf X0 X1 X2 hX1 hR1 hown
  have keep : ∀ V, Below w2.heap.size w2 V → V.heap[w.heap.size]? = some (.cells #[.slice ta T.length tc, .slice aa A.length ac, .slice fa F.length fc] 80) ∧ V.heap[w.heap.size + 1]? = some (.cells #[.int .i64 0, .string ⟨#[]⟩, .slice none 0 0] 93) ∧ Below w.heap.size w V ∧ w.heap.size + 1 < V.heap.size := fun V hV =>
    ⟨(hV.block _ (by omega)).trans hX2, (hV.block _ hsz2).trans hR2, hB2.trans (hV.mono hB2.size), Nat.lt_of_lt_of_le hsz2 hV.size⟩
  by_cases h2 : 2 < out.length
  · have h2i : (2 : Int) < (out.length : Int) := by omega
    have hn := hid (show law = none by rw [← Hlaw.out]; exact rl_many F n Hpf.out (by rw [List.length_map]; exact h2))
    clear Hlaw
    go_wp2_with (refine wpList_store_row rfl 93 _ _ rfl (w.heap.size + 1) _ rfl rfl 93 _ hR2 (by kernel_rfl) (by kernel_rfl) (by kernel_rfl) ?_; go_simp)
    refine bodyPost_ret (results_row_tmp rfl _ _ (w.heap.size + 1) _ _ _ _ rfl (setRow_heap w2 (w.heap.size + 1) _ #[.int .i64 0, .string ⟨#[]⟩, .slice none 0 0] _ _ hR2) Tryz.underlying93 rfl (by kernel_rfl)) rfl ?_
    exact rline_mk hB2 ((Oth.refl _ _).row _) (by omega) (zeroL_fresh _ _) (.inl ⟨rfl, hn.out⟩)
  · have h2i : ¬ (2 : Int) < (out.length : Int) := by omega
    by_cases he : out.length = 2
    · have hei : ((out.length : Int) == 2) = true := by rw [beq_iff_eq]; omega
      obtain ⟨p, q, rfl⟩ : ∃ p q, out = [p, q] := by
        match out, he with
        | [p, q], _ => exact ⟨p, q, rfl⟩
      obtain ⟨c0, c1⟩ := hgc 0 p rfl
      obtain ⟨c2, c3⟩ := hgc 1 q rfl
      simp only [Nat.zero_mul, Nat.one_mul, Nat.zero_add, Nat.reduceAdd, List.length_cons, List.length_nil] at *
      obtain ⟨hp1, hp2, hp3, hp4⟩ := hparts p (by simp)
      obtain ⟨hq1, hq2, hq3, hq4⟩ := hparts q (by simp)
      obtain ⟨la1, hla1⟩ : ∃ l, exprF F n true (sg T p.1 p.2) = l := ⟨_, rfl⟩
      obtain ⟨la2, hla2⟩ : ∃ l, exprF F n true (sg T q.1 q.2) = l := ⟨_, rfl⟩
      have rC1 : ∀ V, Below w.heap.size w V → Calls Tryz.prog 37 #[.agg #[.slice ta T.length tc, .slice aa A.length ac, .slice fa F.length fc], .int .i64 (p.1 : Int), .int .i64 (p.2 : Int), .bool true] V fun e w' => RExprA V w' la1 e := fun V hV => by
        rw [← hla1]; exact hE n (Nat.le_refl _) V _ p.1 p.2 true (hx.below hV) hp2 (by omega) hp4 (by omega)
      have rC2 : ∀ V, Below w.heap.size w V → Calls Tryz.prog 37 #[.agg #[.slice ta T.length tc, .slice aa A.length ac, .slice fa F.length fc], .int .i64 (q.1 : Int), .int .i64 (q.2 : Int), .bool true] V fun e w' => RExprA V w' la2 e := fun V hV => by
        rw [← hla2]; exact hE n (Nat.le_refl _) V _ q.1 q.2 true (hx.below hV) hq2 (by omega) hq4 (by omega)
      have Hla1 := hid hla1
      have Hla2 := hid hla2
      clear hla1 hla2
      have keepP : ∀ V, Below w2.heap.size w2 V → (V.cell? ⟨pg, 0, none⟩ = some (.int .i64 (p.1 : Int)) ∧ V.cell? ⟨pg, 1, none⟩ = some (.int .i64 (p.2 : Int))) ∧ V.cell? ⟨w.heap.size, 0, none⟩ = some (.slice ta T.length tc) ∧ V.cell? ⟨w.heap.size, 1, none⟩ = some (.slice aa A.length ac) ∧ V.cell? ⟨w.heap.size, 2, none⟩ = some (.slice fa F.length fc) := fun V hV => by
        obtain ⟨q1, q2, q3, q4⟩ := keep V hV
        obtain ⟨x0, x1, x2⟩ := (ln_facts q1).1
        exact ⟨⟨(hV.cell (p := ⟨pg, 0, none⟩) hg2).trans c0, (hV.cell (p := ⟨pg, 1, none⟩) hg2).trans c1⟩, x0, x1, x2⟩
      have keepQ : ∀ V, Below w2.heap.size w2 V → (V.cell? ⟨pg, 2, none⟩ = some (.int .i64 (q.1 : Int)) ∧ V.cell? ⟨pg, 3, none⟩ = some (.int .i64 (q.2 : Int))) ∧ V.cell? ⟨w.heap.size, 0, none⟩ = some (.slice ta T.length tc) ∧ V.cell? ⟨w.heap.size, 1, none⟩ = some (.slice aa A.length ac) ∧ V.cell? ⟨w.heap.size, 2, none⟩ = some (.slice fa F.length fc) := fun V hV => by
        obtain ⟨q1, q2, q3, q4⟩ := keep V hV
        obtain ⟨x0, x1, x2⟩ := (ln_facts q1).1
        exact ⟨⟨(hV.cell (p := ⟨pg, 2, none⟩) hg2).trans c2, (hV.cell (p := ⟨pg, 3, none⟩) hg2).trans c3⟩, x0, x1, x2⟩
      clear c0 c1 c2 c3 hgc
      go_upto_region 5 with fail
      go_cut [9, 10] from 103 (fun sp sk W => GotE w2 W la1 sp sk)
      case first =>
        have g0 := Below.refl w2.heap.size w2
        have gA := fun O => ((Below.refl w2.heap.size w2).alloc (Nat.le_refl _) O).drew
        have keepA := fun O => keepP _ (gA O)
        have rC : ∀ V, Below w2.heap.size w2 V → Calls Tryz.prog 37 #[.agg #[.slice ta T.length tc, .slice aa A.length ac, .slice fa F.length fc], .int .i64 (p.1 : Int), .int .i64 (p.2 : Int), .bool true] V fun e w' => RExprA V w' la1 e := fun V hV => rC1 V (hB2.trans (hV.mono hB2.size))
        go_region_held3 (fun V => (V.cell? ⟨pg, 0, none⟩ = some (.int .i64 (p.1 : Int)) ∧ V.cell? ⟨pg, 1, none⟩ = some (.int .i64 (p.2 : Int))) ∧ V.cell? ⟨w.heap.size, 0, none⟩ = some (.slice ta T.length tc) ∧ V.cell? ⟨w.heap.size, 1, none⟩ = some (.slice aa A.length ac) ∧ V.cell? ⟨w.heap.size, 2, none⟩ = some (.slice fa F.length fc))
          (first | with_reducible exact keepP _ g0.drew | with_reducible exact keepA _ | with_reducible exact keepP _ g1 | with_reducible exact keepP _ (g1.alloc g1.size _) | (refine keepP _ ?_; (repeat (with_reducible refine Below.setCell ?_ (by first | exact Nat.le_refl _ | exact g1.size) _)); first | with_reducible exact g1 | with_reducible exact g1.alloc g1.size _) | fail)
          (first
            | (go_at_call 37; refine (rC _ g0.drew).mono ?_; rintro e v1 ⟨yv, y, ok, rfl, b1, fy, la⟩; obtain ⟨yvs, yve, yvb, yvc, rfl, y1, y2, y3, y4, y5⟩ := fy.ex; have yform := And.intro y1.self.parts (And.intro y2.self.parts (And.intro y4.self.parts y5.self.parts)); obtain ⟨⟨ya, yc, rfl, -⟩, ⟨ye, yec, rfl, -⟩, ⟨yb, ybc, rfl, -⟩, ⟨yk, ykc, rfl, -⟩⟩ := yform; have g1 := g0.drew.trans (b1.mono (Nat.le_refl _)); have hE1 := heap_alloc_new v1 (.cells #[.int .i64 0, .string ⟨#[]⟩, .int .i64 0, .slice none 0 0, .slice none 0 0, .int .i64 0, .int .i64 0, .int .i64 0, .string ⟨#[]⟩, .slice none 0 0, .slice none 0 0] 36); obtain ⟨⟨r0, r1, r2, r3, r4, r5, r6, r7, r8, r9, r10⟩, ⟨z0, z1, z2, z3, z4, z5, z6, z7, z8, z9, z10⟩⟩ := ex_facts hE1)
            | (go_at_call 37; refine (rC _ (gA _)).mono ?_; rintro e v1 ⟨yv, y, ok, rfl, b1, fy, la⟩; obtain ⟨yvs, yve, yvb, yvc, rfl, y1, y2, y3, y4, y5⟩ := fy.ex; have yform := And.intro y1.self.parts (And.intro y2.self.parts (And.intro y4.self.parts y5.self.parts)); obtain ⟨⟨ya, yc, rfl, -⟩, ⟨ye, yec, rfl, -⟩, ⟨yb, ybc, rfl, -⟩, ⟨yk, ykc, rfl, -⟩⟩ := yform; have g1 := (gA (.cells #[.int .i64 0, .string ⟨#[]⟩, .int .i64 0, .slice none 0 0, .slice none 0 0, .int .i64 0, .int .i64 0, .int .i64 0, .string ⟨#[]⟩, .slice none 0 0, .slice none 0 0] 36)).trans (b1.mono (gA _).size); have hE1 := (b1.block w2.heap.size (by show w2.heap.size < (w2.alloc _).heap.size; simp)).trans (heap_alloc_new w2 (.cells #[.int .i64 0, .string ⟨#[]⟩, .int .i64 0, .slice none 0 0, .slice none 0 0, .int .i64 0, .int .i64 0, .int .i64 0, .string ⟨#[]⟩, .slice none 0 0, .slice none 0 0] 36)); obtain ⟨⟨r0, r1, r2, r3, r4, r5, r6, r7, r8, r9, r10⟩, ⟨z0, z1, z2, z3, z4, z5, z6, z7, z8, z9, z10⟩⟩ := ex_facts hE1)
            | fail)
        · go_wp2_with fail
          go_meet
          case rel => exact gotE_a g1 y1 y2 y3 y4 y5 la
        · go_wp2_with fail
          go_meet
          case rel =>
            refine gotE_b b1 y1 y2 y3 y4 y5 la ?_ (ex_set hE1 (.int .i64 y.kind) (.string (bs y.name)) (.int .i64 y.val.kind) (.slice ya y.val.shape.length yc) (.slice ye y.val.elems.length yec) (.int .i64 y.fn.kind) (.int .i64 y.fn.f) (.int .i64 y.fn.g) (.string (bs y.fn.name)) (.slice yb y.fn.body.len ybc) (.slice yk y.kids.len ykc))
            (repeat (with_reducible refine Oth.put ?_ _ _)); exact Oth.refl _ _
      case rest =>
        obtain ⟨A1, x, xvs, xve, xvb, xvc, ok1, rfl, rfl, c1, hA1, hx1, l1⟩ := hcut
        have keepQ2 : ∀ V, Below wc.heap.size wc V → (V.cell? ⟨pg, 2, none⟩ = some (.int .i64 (q.1 : Int)) ∧ V.cell? ⟨pg, 3, none⟩ = some (.int .i64 (q.2 : Int))) ∧ V.cell? ⟨w.heap.size, 0, none⟩ = some (.slice ta T.length tc) ∧ V.cell? ⟨w.heap.size, 1, none⟩ = some (.slice aa A.length ac) ∧ V.cell? ⟨w.heap.size, 2, none⟩ = some (.slice fa F.length fc) := fun V hV => keepQ V (c1.trans (hV.mono c1.size))
        have Hl1 := hid l1
        clear l1
        go_upto_region 6 with fail
        go_cut [11, 12] from 103 (fun sp sk W => GotE wc W la2 sp sk)
        case first =>
          have g0 := Below.refl wc.heap.size wc
          have gA := fun O => ((Below.refl wc.heap.size wc).alloc (Nat.le_refl _) O).drew
          have keepA := fun O => keepQ2 _ (gA O)
          have rC : ∀ V, Below wc.heap.size wc V → Calls Tryz.prog 37 #[.agg #[.slice ta T.length tc, .slice aa A.length ac, .slice fa F.length fc], .int .i64 (q.1 : Int), .int .i64 (q.2 : Int), .bool true] V fun e w' => RExprA V w' la2 e := fun V hV => by
            have h2 := c1.trans (hV.mono c1.size)
            exact rC2 V (hB2.trans (h2.mono hB2.size))
          go_region_held3 (fun V => (V.cell? ⟨pg, 2, none⟩ = some (.int .i64 (q.1 : Int)) ∧ V.cell? ⟨pg, 3, none⟩ = some (.int .i64 (q.2 : Int))) ∧ V.cell? ⟨w.heap.size, 0, none⟩ = some (.slice ta T.length tc) ∧ V.cell? ⟨w.heap.size, 1, none⟩ = some (.slice aa A.length ac) ∧ V.cell? ⟨w.heap.size, 2, none⟩ = some (.slice fa F.length fc))
            (first | with_reducible exact keepQ2 _ g0.drew | with_reducible exact keepA _ | with_reducible exact keepQ2 _ g1 | with_reducible exact keepQ2 _ (g1.alloc g1.size _) | (refine keepQ2 _ ?_; (repeat (with_reducible refine Below.setCell ?_ (by first | exact Nat.le_refl _ | exact g1.size) _)); first | with_reducible exact g1 | with_reducible exact g1.alloc g1.size _) | fail)
            (first
              | (go_at_call 37; refine (rC _ g0.drew).mono ?_; rintro e v1 ⟨yv, y, ok, rfl, b1, fy, la⟩; obtain ⟨yvs, yve, yvb, yvc, rfl, y1, y2, y3, y4, y5⟩ := fy.ex; have yform := And.intro y1.self.parts (And.intro y2.self.parts (And.intro y4.self.parts y5.self.parts)); obtain ⟨⟨ya, yc, rfl, -⟩, ⟨ye, yec, rfl, -⟩, ⟨yb, ybc, rfl, -⟩, ⟨yk, ykc, rfl, -⟩⟩ := yform; have g1 := g0.drew.trans (b1.mono (Nat.le_refl _)); have hE1 := heap_alloc_new v1 (.cells #[.int .i64 0, .string ⟨#[]⟩, .int .i64 0, .slice none 0 0, .slice none 0 0, .int .i64 0, .int .i64 0, .int .i64 0, .string ⟨#[]⟩, .slice none 0 0, .slice none 0 0] 36); obtain ⟨⟨r0, r1, r2, r3, r4, r5, r6, r7, r8, r9, r10⟩, ⟨z0, z1, z2, z3, z4, z5, z6, z7, z8, z9, z10⟩⟩ := ex_facts hE1)
              | (go_at_call 37; refine (rC _ (gA _)).mono ?_; rintro e v1 ⟨yv, y, ok, rfl, b1, fy, la⟩; obtain ⟨yvs, yve, yvb, yvc, rfl, y1, y2, y3, y4, y5⟩ := fy.ex; have yform := And.intro y1.self.parts (And.intro y2.self.parts (And.intro y4.self.parts y5.self.parts)); obtain ⟨⟨ya, yc, rfl, -⟩, ⟨ye, yec, rfl, -⟩, ⟨yb, ybc, rfl, -⟩, ⟨yk, ykc, rfl, -⟩⟩ := yform; have g1 := (gA (.cells #[.int .i64 0, .string ⟨#[]⟩, .int .i64 0, .slice none 0 0, .slice none 0 0, .int .i64 0, .int .i64 0, .int .i64 0, .string ⟨#[]⟩, .slice none 0 0, .slice none 0 0] 36)).trans (b1.mono (gA _).size); have hE1 := (b1.block wc.heap.size (by show wc.heap.size < (wc.alloc _).heap.size; simp)).trans (heap_alloc_new wc (.cells #[.int .i64 0, .string ⟨#[]⟩, .int .i64 0, .slice none 0 0, .slice none 0 0, .int .i64 0, .int .i64 0, .int .i64 0, .string ⟨#[]⟩, .slice none 0 0, .slice none 0 0] 36)); obtain ⟨⟨r0, r1, r2, r3, r4, r5, r6, r7, r8, r9, r10⟩, ⟨z0, z1, z2, z3, z4, z5, z6, z7, z8, z9, z10⟩⟩ := ex_facts hE1)
              | fail)
          · go_wp2_with fail
            go_meet
            case rel => exact gotE_a g1 y1 y2 y3 y4 y5 la
          · go_wp2_with fail
            go_meet
            case rel =>
              refine gotE_b b1 y1 y2 y3 y4 y5 la ?_ (ex_set hE1 (.int .i64 y.kind) (.string (bs y.name)) (.int .i64 y.val.kind) (.slice ya y.val.shape.length yc) (.slice ye y.val.elems.length yec) (.int .i64 y.fn.kind) (.int .i64 y.fn.f) (.int .i64 y.fn.g) (.string (bs y.fn.name)) (.slice yb y.fn.body.len ybc) (.slice yk y.kids.len ykc))
              (repeat (with_reducible refine Oth.put ?_ _ _)); exact Oth.refl _ _
        case rest =>
          obtain ⟨A2, y, yvs, yve, yvb, yvc, ok2, rfl, rfl, c2, hA2, hy1, l2⟩ := hcut
          have hlaw := hid (rl_two F n Hpf.out (by rw [Hla1.out]; exact Hl1.out) (by rw [Hla2.out]; exact l2))
          rw [Hlaw.out] at hlaw
          have c12 := c1.trans (c2.mono c1.size)
          obtain ⟨-, hR3, hB3, hsz3⟩ := keep _ c12
          have hxw := hx1.soft (Soft.of_below c2) (c2.block _ hx1.lt)
          have hyR := hy1.weak (S2 := fun k => w.heap.size + 1 < k) (fun k hk => by have := c1.size; omega)
          have hxR := hxw.weak (S2 := fun k => w.heap.size + 1 < k) (fun k hk => by omega)
          obtain ⟨⟨xa, xc, rfl⟩, ⟨xe, xec, rfl⟩, ⟨xb, xbc, rfl⟩, ⟨xk, xkc, rfl⟩⟩ := hx1.forms
          obtain ⟨⟨ya, yc, rfl⟩, ⟨ye, yec, rfl⟩, ⟨yb, ybc, rfl⟩, ⟨yk, ykc, rfl⟩⟩ := hy1.forms
          have hR4 := fun O => (heap_alloc_old wc O hsz3).trans hR3
          have hk := rkids (hxR.cells (hyR.cells .nil)) (by omega) (by simp [Ex.cons, Tr.len]) _ rfl 36
          have hx3 := hxR.hp
          have hy3 := hyR.hp
          have hk := hid hk
          clear l2 Hl1 Hlaw keepP keepQ keepQ2
          cases ok1 with
          | false =>
            go_wp2_with (first | (refine wpList_load_rowE rfl 36 _ rfl A1 rfl 36 _ _ _ hx3 Tryz.underlying36 rfl (by kernel_rfl) ?_; go_simp) | (refine wpList_load_rowE rfl 36 _ rfl A2 rfl 36 _ _ _ hy3 Tryz.underlying36 rfl (by kernel_rfl) ?_; go_simp) | (refine wpList_store_row rfl 93 _ _ rfl (w.heap.size + 1) _ rfl rfl 93 _ (hR4 _) (by kernel_rfl) (by kernel_rfl) (by kernel_rfl) ?_; go_simp))
            refine bodyPost_ret (results_row_tmp rfl _ _ (w.heap.size + 1) _ _ _ _ rfl (setRow_heap (wc.alloc _) (w.heap.size + 1) _ #[.int .i64 3, .string ⟨#[]⟩, .slice (some ⟨wc.heap.size, 0, none⟩) 2 2] _ _ (hR4 _)) Tryz.underlying93 rfl (by kernel_rfl)) rfl ?_
            exact rline_mk (x := ⟨3, [], x.cons (y.cons .nil)⟩) (hB3.alloc hB3.size _) ((Oth.refl _ _).row _) (by omega) (Fresh.mkLn (y := ⟨3, [], x.cons (y.cons .nil)⟩) hk.out) hlaw.out
          | true =>
            go_wp2_with (first | (refine wpList_load_rowE rfl 36 _ rfl A1 rfl 36 _ _ _ hx3 Tryz.underlying36 rfl (by kernel_rfl) ?_; go_simp) | (refine wpList_load_rowE rfl 36 _ rfl A2 rfl 36 _ _ _ hy3 Tryz.underlying36 rfl (by kernel_rfl) ?_; go_simp) | (refine wpList_store_row rfl 93 _ _ rfl (w.heap.size + 1) _ rfl rfl 93 _ (hR4 _) (by kernel_rfl) (by kernel_rfl) (by kernel_rfl) ?_; go_simp))
            refine bodyPost_ret (results_row_tmp rfl _ _ (w.heap.size + 1) _ _ _ _ rfl (setRow_heap (wc.alloc _) (w.heap.size + 1) _ #[.int .i64 3, .string ⟨#[]⟩, .slice (some ⟨wc.heap.size, 0, none⟩) 2 2] _ _ (hR4 _)) Tryz.underlying93 rfl (by kernel_rfl)) rfl ?_
            exact rline_mk (x := ⟨3, [], x.cons (y.cons .nil)⟩) (hB3.alloc hB3.size _) ((Oth.refl _ _).row _) (by omega) (Fresh.mkLn (y := ⟨3, [], x.cons (y.cons .nil)⟩) hk.out) hlaw.out
    · have hei : ((out.length : Int) == 2) = false := by rw [beq_eq_false_iff_ne]; omega
      have hpe : ∃ p, partsF (sg T a b) gColon = [p] := by
        have h1 : out.length = 1 := by omega
        rw [Hpf.out]
        match out, h1 with
        | [p], _ => exact ⟨_, rfl⟩
      have Hpe := hid hpe
      clear hpe hgc hparts Hpf
      have hsets := rsets_any T A F a b hab hbT hle _ w2 (hx.below hB2)
      have hset : setF (sg T a b) = if a + 1 < b ∧ ((T[a]?).getD noTok).kind = 2 ∧ isG ((T[a + 1]?).getD noTok) gGets = true then some (((T[a]?).getD noTok).txt, sg T (a + 2) b) else none := set_sg hbT hC.gd
      obtain ⟨X0, X1, X2⟩ := (ln_facts hX2).1
      by_cases hs : a + 1 < b ∧ ((T[a]?).getD noTok).kind = 2 ∧ isG ((T[a + 1]?).getD noTok) gGets = true
      · rw [if_pos hs] at hset
        have hsb : (decide (a + 1 < b) && decide (((T[a]?).getD noTok).kind = 2) && isG ((T[a + 1]?).getD noTok) gGets) = true := by rw [decide_eq_true hs.1, decide_eq_true hs.2.1, hs.2.2]; rfl
        rw [hsb] at hsets
        obtain ⟨t, ht⟩ : ∃ t, T[a]? = some t := ⟨_, List.getElem?_eq_getElem (by omega)⟩
        obtain ⟨u, hu⟩ : ∃ u, T[a + 1]? = some u := ⟨_, List.getElem?_eq_getElem (by omega)⟩
        rw [ht, hu, Option.getD_some, Option.getD_some] at hs
        rw [ht, Option.getD_some] at hset
        have hdy := unit_none (unit_none hd (by omega) ht (wt_kind t (by omega))) (by omega) hu (wt_gets hs.2.2)
        have hfn : isFun F t = decide (t.txt ∈ F) := by unfold isFun; rw [decide_eq_true hs.2.1, Bool.true_and]
        obtain ⟨tb, o, sa, sc, ea, ec, hta, hTok, -, -, -⟩ := tok_get i1 ht
        subst hta
        have hfun := fun V (hV : Below w.heap.size w V) => rfun_any T A F a t ht _ V (hx.below hV)
        obtain ⟨FN, hFN⟩ : ∃ x, decide (t.txt ∈ F) = x := ⟨_, rfl⟩
        rw [hFN] at hfn
        rw [hfn] at hfun
        have HFN := hid hFN
        have Hset := hid hset
        have hw2 : IntKind.i64.wrap ((a : Int) + 2) = ((a + 2 : Nat) : Int) := by rw [show (a : Int) + 2 = ((a + 2 : Nat) : Int) by omega]; exact IntWalk.i64_in _ (by omega)
        have hab2 : a + 2 ≤ b := by omega
        have haT : (a : Int) < (T.length : Int) := by omega
        clear hset hsb hs ht hu hfn hFN
        go_wp2_with fail
        refine hsets.mono ?_
        rintro e w3 ⟨rfl, b3⟩
        obtain ⟨hX3, hR3, hB3, hsz3⟩ := keep _ b3
        clear X0 X1 X2 hsets
        obtain ⟨X0, X1, X2⟩ := (ln_facts hX3).1
        go_wp2_with fail
        refine (hfun _ hB3).mono ?_
        rintro e w4 ⟨rfl, b4⟩
        replace b4 := b3.trans (b4.mono b3.size)
        obtain ⟨hX4, hR4, hB4, hsz4⟩ := keep _ b4
        clear X0 X1 X2 hX3 hR3 hB3 hsz3 hfun
        obtain ⟨X0, X1, X2⟩ := (ln_facts hX4).1
        have hcall := hE n (Nat.le_refl _) w4 _ (a + 2) b true (hx.below hB4) hab2 hbT hdy (by omega)
        go_wp2_with fail
        refine hcall.mono ?_
        rintro e w5 ⟨xv, x, ok, rfl, b5, fx, la⟩
        obtain ⟨vs, ve, vb, vc, rfl, j1, j2, j3, j4, j5⟩ := fx.ex
        have hform := And.intro j1.self.parts (And.intro j2.self.parts (And.intro j4.self.parts j5.self.parts))
        obtain ⟨⟨xa, xc, rfl, -⟩, ⟨xe, xec, rfl, -⟩, ⟨xb, xbc, rfl, -⟩, ⟨xk, xkc, rfl, -⟩⟩ := hform
        obtain ⟨p, hp⟩ := Hpe.out
        have hlaw := rl_set F n hp Hset.out la
        rw [Hlaw.out, HFN.out] at hlaw
        replace hlaw := hid hlaw
        have hx6 := gotE_a b5 j1 j2 j3 j4 j5 la
        clear hcall la Hlaw Hset Hpe hp X0 X1 X2
        go_upto_region 11 with fail
        obtain ⟨-, -, -, -, -, -, -, -, -, c6, -, -, -⟩ := id hx6
        have b6 := b4.trans (c6.mono b4.size)
        obtain ⟨hX6, hR6, hB6, hsz6⟩ := keep _ b6
        have hN6 := heap_alloc_new w5 (.cells #[.int .i64 x.kind, .string (bs x.name), .int .i64 x.val.kind, .slice xa x.val.shape.length xc, .slice xe x.val.elems.length xec, .int .i64 x.fn.kind, .int .i64 x.fn.f, .int .i64 x.fn.g, .string (bs x.fn.name), .slice xb x.fn.body.len xbc, .slice xk x.kids.len xkc] 36)
        have hs56 := Soft.alloc w5 (.cells #[.int .i64 x.kind, .string (bs x.name), .int .i64 x.val.kind, .slice xa x.val.shape.length xc, .slice xe x.val.elems.length xec, .int .i64 x.fn.kind, .int .i64 x.fn.f, .int .i64 x.fn.g, .string (bs x.fn.name), .slice xb x.fn.body.len xbc, .slice xk x.kids.len xkc] 36)
        generalize w5.alloc (.cells #[.int .i64 x.kind, .string (bs x.name), .int .i64 x.val.kind, .slice xa x.val.shape.length xc, .slice xe x.val.elems.length xec, .int .i64 x.fn.kind, .int .i64 x.fn.f, .int .i64 x.fn.g, .string (bs x.fn.name), .slice xb x.fn.body.len xbc, .slice xk x.kids.len xkc] 36) = w6 at *
        have hup : ∀ k, Up w4.heap.size k → w.heap.size + 1 < k := fun k hk => by unfold Up at hk; omega
        have hXB : XB (fun k => w.heap.size + 1 < k) w6 w5.heap.size x _ _ _ _ := ⟨hN6, (j1.weak hup).soft hs56, (j2.weak hup).soft hs56, j3, (j4.weak hup).soft hs56, (j5.weak hup).soft hs56⟩
        have hXl := hXB.lt
        have hk := hid (rkids (hXB.cells .nil) (by omega) (by simp [Ex.cons, Tr.len]) _ rfl 36)
        have hTc := hTok.2.1
        have hTcl : tb < w.heap.size := World.block_lt_of_cell? w _ hTc
        have h45 : w4.heap.size ≤ w5.heap.size := b5.size
        have keepS : ∀ V, Oth (w.heap.size + 1) w6 V ∨ Below w6.heap.size w6 V ∨ (∃ O, Oth (w.heap.size + 1) (w6.alloc O) V) → V.cell? ⟨w.heap.size, 0, none⟩ = some (.slice (some ⟨tb, o, none⟩) T.length tc) ∧ V.cell? ⟨tb, o + a * 5 + 1, none⟩ = some (.string (bs t.txt)) ∧ (V.cell? ⟨w5.heap.size, 0, none⟩ = some (.int .i64 x.kind) ∧ V.cell? ⟨w5.heap.size, 1, none⟩ = some (.string (bs x.name)) ∧ V.cell? ⟨w5.heap.size, 2, none⟩ = some (.int .i64 x.val.kind) ∧ V.cell? ⟨w5.heap.size, 3, none⟩ = some (.slice xa x.val.shape.length xc) ∧ V.cell? ⟨w5.heap.size, 4, none⟩ = some (.slice xe x.val.elems.length xec) ∧ V.cell? ⟨w5.heap.size, 5, none⟩ = some (.int .i64 x.fn.kind) ∧ V.cell? ⟨w5.heap.size, 6, none⟩ = some (.int .i64 x.fn.f) ∧ V.cell? ⟨w5.heap.size, 7, none⟩ = some (.int .i64 x.fn.g) ∧ V.cell? ⟨w5.heap.size, 8, none⟩ = some (.string (bs x.fn.name)) ∧ V.cell? ⟨w5.heap.size, 9, none⟩ = some (.slice xb x.fn.body.len xbc) ∧ V.cell? ⟨w5.heap.size, 10, none⟩ = some (.slice xk x.kids.len xkc)) := fun V hV => by
          have hb : ∀ k, k ≠ w.heap.size + 1 → k < w6.heap.size → V.heap[k]? = w6.heap[k]? := fun k h1 h2 => by
            rcases hV with h | h | ⟨O, h⟩
            · exact h.block k h1
            · exact h.block k h2
            · exact (h.block k h1).trans (heap_alloc_old w6 O h2)
          obtain ⟨x0, x1, x2⟩ := (ln_facts ((hb w.heap.size (by omega) (by omega)).trans hX6)).1
          have q1 := (World.cell?_of_block (w := w6) (hb tb (by omega) (by omega))).trans ((hB6.cell hTcl).trans hTc)
          have q2 := (ex_facts ((hb w5.heap.size (by omega) hXl).trans hN6)).1
          exact ⟨x0, q1, q2⟩
        obtain ⟨⟨q0, q1, q2⟩, ⟨z0, z1, z2⟩⟩ := ln_facts hR6
        have hR7 := fun O => (heap_alloc_old w6 O hsz6).trans hR6
        have q0' := fun O => (ln_facts (hR7 O)).1.1
        have q1' := fun O => (ln_facts (hR7 O)).1.2.1
        have q2' := fun O => (ln_facts (hR7 O)).1.2.2
        have z0' := fun O => (ln_facts (hR7 O)).2.1
        have z1' := fun O => (ln_facts (hR7 O)).2.2.1
        have z2' := fun O => (ln_facts (hR7 O)).2.2.2
        have K0 := keepS w6.drew (.inr (.inl (Below.refl _ w6).drew))
        clear hXB hx6 q0 q1 q2 z0 z1 z2
        obtain ⟨X0, K1, r0, r1, r2, r3, r4, r5, r6, r7, r8, r9, r10⟩ := K0
        obtain ⟨⟨q0, q1, q2⟩, ⟨z0, z1, z2⟩⟩ := ln_facts hR6
        have KA := fun O => keepS (w6.alloc O) (.inr (.inl ((Below.refl _ w6).alloc (Nat.le_refl _) O)))
        have X0a := fun O => (KA O).1
        have K1a := fun O => (KA O).2.1
        have r0a := fun O => (KA O).2.2.1
        have r1a := fun O => (KA O).2.2.2.1
        have r2a := fun O => (KA O).2.2.2.2.1
        have r3a := fun O => (KA O).2.2.2.2.2.1
        have r4a := fun O => (KA O).2.2.2.2.2.2.1
        have r5a := fun O => (KA O).2.2.2.2.2.2.2.1
        have r6a := fun O => (KA O).2.2.2.2.2.2.2.2.1
        have r7a := fun O => (KA O).2.2.2.2.2.2.2.2.2.1
        have r8a := fun O => (KA O).2.2.2.2.2.2.2.2.2.2.1
        have r9a := fun O => (KA O).2.2.2.2.2.2.2.2.2.2.2.1
        have r10a := fun O => (KA O).2.2.2.2.2.2.2.2.2.2.2.2
        clear KA
        cases ok with
        | false =>
          go_region
          go_wp2_with fail
          have hss := ln_set hR6 (.int .i64 2) (.string (bs t.txt)) (.slice (some ⟨w6.heap.size, 0, none⟩) 1 1)
          have hss2 := fun O => (heap_alloc_old _ O (Array.getElem?_eq_some_iff.1 hss).1).trans hss
          refine bodyPost_ret (results_row_tmp rfl _ _ (w.heap.size + 1) _ _ _ _ rfl ((heap_drew _ _).trans (hss2 _)) Tryz.underlying93 rfl (by kernel_rfl)) rfl ?_
          refine rline_mk (x := ⟨2, t.txt, x.cons .nil⟩) (hB6.alloc hB6.size _) (R := w.heap.size + 1) (Oth.drew (Oth.allocs ?_ _)) (by omega) (Fresh.mkLn (y := ⟨2, t.txt, x.cons .nil⟩) hk.out) ?_
          · (repeat (with_reducible refine Oth.put ?_ _ _)); exact Oth.refl _ _
          · exact hlaw.out
        | true =>
          go_region
          go_wp2_with fail
          have hss := ln_set hR6 (.int .i64 2) (.string (bs t.txt)) (.slice (some ⟨w6.heap.size, 0, none⟩) 1 1)
          have hss2 := fun O => (heap_alloc_old _ O (Array.getElem?_eq_some_iff.1 hss).1).trans hss
          refine bodyPost_ret (results_row_tmp rfl _ _ (w.heap.size + 1) _ _ _ _ rfl ((heap_drew _ _).trans (hss2 _)) Tryz.underlying93 rfl (by kernel_rfl)) rfl ?_
          refine rline_mk (x := ⟨2, t.txt, x.cons .nil⟩) (hB6.alloc hB6.size _) (R := w.heap.size + 1) (Oth.drew (Oth.allocs ?_ _)) (by omega) (Fresh.mkLn (y := ⟨2, t.txt, x.cons .nil⟩) hk.out) ?_
          · (repeat (with_reducible refine Oth.put ?_ _ _)); exact Oth.refl _ _
          · exact hlaw.out
      · rw [if_neg hs] at hset
        have hsb : (decide (a + 1 < b) && decide (((T[a]?).getD noTok).kind = 2) && isG ((T[a + 1]?).getD noTok) gGets) = false := by
          cases hh : (decide (a + 1 < b) && decide (((T[a]?).getD noTok).kind = 2) && isG ((T[a + 1]?).getD noTok) gGets) with
          | false => rfl
          | true => rw [Bool.and_eq_true, Bool.and_eq_true, decide_eq_true_eq, decide_eq_true_eq] at hh; exact absurd ⟨hh.1.1, hh.1.2, hh.2⟩ hs
        rw [hsb] at hsets
        have Hset := hid hset
        clear hset hsb hs
        go_wp2_with fail
        refine hsets.mono ?_
        rintro e w3 ⟨rfl, b3⟩
        obtain ⟨hX3, hR3, hB3, hsz3⟩ := keep _ b3
        clear X0 X1 X2 hsets
        obtain ⟨X0, X1, X2⟩ := (ln_facts hX3).1
        have hcall := hE n (Nat.le_refl _) w3 _ a b true (hx.below hB3) hab hbT hd (by omega)
        go_wp2_with fail
        refine hcall.mono ?_
        rintro e w4 ⟨xv, x, ok, rfl, b4, fx, la⟩
        obtain ⟨vs, ve, vb, vc, rfl, j1, j2, j3, j4, j5⟩ := fx.ex
        have hform := And.intro j1.self.parts (And.intro j2.self.parts (And.intro j4.self.parts j5.self.parts))
        obtain ⟨⟨xa, xc, rfl, -⟩, ⟨xe, xec, rfl, -⟩, ⟨xb, xbc, rfl, -⟩, ⟨xk, xkc, rfl, -⟩⟩ := hform
        obtain ⟨p, hp⟩ := Hpe.out
        have hlaw := rl_one F n hp Hset.out la
        rw [Hlaw.out] at hlaw
        replace hlaw := hid hlaw
        have hx5 := gotE_a (b4) j1 j2 j3 j4 j5 la
        clear hcall la Hlaw Hset Hpe hp X0 X1 X2
        go_upto_region 13 with fail
        obtain ⟨-, -, -, -, -, -, -, -, -, c5, -, -, -⟩ := id hx5
        obtain ⟨-, hR5, hB5, hsz5⟩ := keep _ (b3.trans (c5.mono b3.size))
        have hN5 := heap_alloc_new w4 (.cells #[.int .i64 x.kind, .string (bs x.name), .int .i64 x.val.kind, .slice xa x.val.shape.length xc, .slice xe x.val.elems.length xec, .int .i64 x.fn.kind, .int .i64 x.fn.f, .int .i64 x.fn.g, .string (bs x.fn.name), .slice xb x.fn.body.len xbc, .slice xk x.kids.len xkc] 36)
        have hs45 := Soft.alloc w4 (.cells #[.int .i64 x.kind, .string (bs x.name), .int .i64 x.val.kind, .slice xa x.val.shape.length xc, .slice xe x.val.elems.length xec, .int .i64 x.fn.kind, .int .i64 x.fn.f, .int .i64 x.fn.g, .string (bs x.fn.name), .slice xb x.fn.body.len xbc, .slice xk x.kids.len xkc] 36)
        generalize w4.alloc (.cells #[.int .i64 x.kind, .string (bs x.name), .int .i64 x.val.kind, .slice xa x.val.shape.length xc, .slice xe x.val.elems.length xec, .int .i64 x.fn.kind, .int .i64 x.fn.f, .int .i64 x.fn.g, .string (bs x.fn.name), .slice xb x.fn.body.len xbc, .slice xk x.kids.len xkc] 36) = w5 at *
        have hup : ∀ k, Up w3.heap.size k → w.heap.size + 1 < k := fun k hk => by unfold Up at hk; omega
        have hXB : XB (fun k => w.heap.size + 1 < k) w5 w4.heap.size x _ _ _ _ := ⟨hN5, (j1.weak hup).soft hs45, (j2.weak hup).soft hs45, j3, (j4.weak hup).soft hs45, (j5.weak hup).soft hs45⟩
        have hk := hid (rkids (hXB.cells .nil) (by omega) (by simp [Ex.cons, Tr.len]) _ rfl 36)
        have hR6 := fun O => (heap_alloc_old w5 O hsz5).trans hR5
        clear hXB hx5
        go_wp2_with (first | (refine wpList_load_rowE rfl 36 _ rfl w4.heap.size rfl 36 _ _ _ hN5 Tryz.underlying36 rfl (by kernel_rfl) ?_; go_simp) | (refine wpList_store_row rfl 93 _ _ rfl (w.heap.size + 1) _ rfl rfl 93 _ (hR6 _) (by kernel_rfl) (by kernel_rfl) (by kernel_rfl) ?_; go_simp))
        refine bodyPost_ret (results_row_tmp rfl _ _ (w.heap.size + 1) _ _ _ _ rfl (setRow_heap (w5.alloc _) (w.heap.size + 1) _ #[.int .i64 1, .string ⟨#[]⟩, .slice (some ⟨w5.heap.size, 0, none⟩) 1 1] _ _ (hR6 _)) Tryz.underlying93 rfl (by kernel_rfl)) rfl ?_
        exact rline_mk (x := ⟨1, [], x.cons .nil⟩) (hB5.alloc hB5.size _) ((Oth.refl _ _).row _) (by omega) (Fresh.mkLn (y := ⟨1, [], x.cons .nil⟩) hk.out) hlaw.out
end Go.Proofs.YthlingdlehdlhaaGreatDoor.Par

namespace Go.Proofs.YthlingdlehdlhaaGreatDoor.Par
open Go.RowKit Go.Shelf
set_option linter.unusedVariables false
set_option linter.unusedSimpArgs false

/-- Ahead of each part. -/
def RLinesR (T : List Tok) (F : List (List UInt8)) (n : Nat) (law0 : Option Tr) (w2 : World) (P : List (Nat × Nat)) (vo vi : Value) (wr : World) : Prop :=
  ∃ (k : Nat) (ys : List Ln) (us : List (List Value)), k ≤ P.length ∧ vi = .int .i64 (k : Nat) ∧ Below w2.heap.size w2 wr ∧ wr.ownsRow w2.heap.size 93 3 vo ys.length us.flatten ∧ ys.length ≤ k ∧ Cells (fun b => w2.heap.size ≤ b ∧ vo.ownBlock ≠ some b) wr (chainL ys) us ∧ Hid (LinesSt F n law0 false ys (((P.drop k).map fun p => sg T p.1 p.2).filter (· ≠ [])))
theorem LinesSt.fuel {F : List (List UInt8)} {n : Nat} {law0 : Option Tr} {ys : List Ln} {a : List Tok} {rest : List (List Tok)} (h : LinesSt F n law0 false ys (a :: rest)) (ha : 0 < a.length) : ∃ j, 8 * a.length + 4 ≤ j ∧ j ≤ n ∧ ∀ bo2 y, Res false bo2 (lineF F j a) y → LinesSt F n law0 bo2 (ys ++ [y]) rest := by
  rcases h with ⟨h, -⟩ | ⟨-, k, h1, h2, h3, h4⟩
  · cases h
  · obtain ⟨j, rfl⟩ : ∃ j, k = j + 1 := ⟨k - 1, by omega⟩
    have h5 := h1
    rw [need_cons] at h5
    exact ⟨j, by omega, by omega, fun bo2 y h => LinesSt.step (bo := false) (fun _ => ⟨h1, h3, h4⟩) (fun h => by cases h) h⟩
set_option maxRecDepth 100000 in
set_option maxHeartbeats 8000000 in
theorem rlinesP_step (T : List Tok) (A : List Nat) (F : List (List UInt8)) (hC : RCx T A F) (n : Nat) (hL : ∀ m, m ≤ n → RLineC T A F m) : RLinesC T A F (n + 1) := by
  intro w vx a b hx hab hbT hd hfu
  obtain ⟨ta, tc, aa, ac, fa, fc, rfl, -⟩ := id hx
  obtain ⟨i0, hi, hz0, hz1, hz2⟩ := info_parts (show (Tryz.prog.info? 93).map (fun i => (i.zero, i.size, i.bytes)) = some (some (.agg #[.int .i64 0, .string ⟨#[]⟩, .slice none 0 0]), 3, 48) by kernel_rfl)
  obtain ⟨law, hlaw⟩ : ∃ law, linesF F (n + 1) (sg T a b) = law := ⟨_, rfl⟩
  rw [hlaw]
  have Hlaw := hid hlaw
  clear hlaw
  have hle := hC.le
  obtain ⟨w1, hw1⟩ : ∃ W, w.alloc (.cells #[.slice ta T.length tc, .slice aa A.length ac, .slice fa F.length fc] 80) = W := ⟨_, rfl⟩
  have hB1 : Below w.heap.size w w1 := by rw [← hw1]; exact (Below.refl _ w).alloc (Nat.le_refl _) _
  have hX1 : w1.heap[w.heap.size]? = some (.cells #[.slice ta T.length tc, .slice aa A.length ac, .slice fa F.length fc] 80) := by rw [← hw1]; exact heap_alloc_new w _
  have hsz1 : w.heap.size < w1.heap.size := (Array.getElem?_eq_some_iff.1 hX1).1
  go_enter Tryz.func39, Tryz.ntmps39
  go_upto_region 1 with fail
  try rw [hw1]
  clear hw1
  have hcut := rcut_any T A F hC.ok hC.gd a b gDia _ rfl (wt_dia _ (by decide)) hab hbT hd hle _ w1 (hx.below hB1)
  obtain ⟨X0, X1, X2⟩ := (ln_facts hX1).1
  go_wp2_with fail
  refine hcut.mono ?_
  rintro e w2 ⟨⟨cv, out, rfl, hown, hparts, hpf⟩, b2⟩
  have hB2 := hB1.trans (b2.mono hB1.size)
  have hX2 := (b2.block _ hsz1).trans hX1
  have hsz2 := Nat.lt_of_lt_of_le hsz1 b2.size
  have hpos := parts_pos gDia (sg T a b)
  have hplen := parts_count gDia (sg T a b)
  have hneed := need_filter (partsF (sg T a b) gDia)
  rw [need_parts, sg_len hbT] at hneed
  rw [hpf, List.length_map] at hpos hplen
  rw [sg_len hbT] at hplen
  obtain ⟨pg, pgc, rfl, hg1, hg2, hgc⟩ := parts_at hown (by rintro rfl; simp at hpos)
  have hst := LinesSt.start F n ((partsF (sg T a b) gDia).filter (· ≠ [])) (by omega) (by omega)
  obtain ⟨law0, hl0⟩ : ∃ l, manyF F n ((partsF (sg T a b) gDia).filter (· ≠ [])) = l := ⟨_, rfl⟩
  have hll : ∀ bo ys, Res false bo law0 (chainL ys) → Res false (bo || decide (ys.length = 0)) law (chainL ys) := fun bo ys h => by
    rw [← hl0] at h
    have := lines_law (bad := false) h
    rw [Hlaw.out, Bool.false_or] at this
    exact this
  rw [hl0, hpf] at hst
  have Hst := hid hst
  have Hll := hid hll
  clear hcut hpf X0 X1 X2 hX1 hown hst hll hl0 Hlaw hneed
  have keep : ∀ V, Below w2.heap.size w2 V → V.cell? ⟨w.heap.size, 0, none⟩ = some (.slice ta T.length tc) ∧ V.cell? ⟨w.heap.size, 1, none⟩ = some (.slice aa A.length ac) ∧ V.cell? ⟨w.heap.size, 2, none⟩ = some (.slice fa F.length fc) ∧ Below w.heap.size w V := fun V hV => by
    obtain ⟨x0, x1, x2⟩ := (ln_facts ((hV.block _ hsz2).trans hX2)).1
    exact ⟨x0, x1, x2, hB2.trans (hV.mono hB2.size)⟩
  go_wp2_with fail
  go_loopw [9, 10] (fun vo vi wr => RLinesR T F n law0 w2 out vo vi wr) (fun _ vi _ => out.length - (intOf vi).toNat)
  case atStart => exact ⟨0, [], [], Nat.zero_le _, rfl, Below.refl _ _, World.ownsRow_nil _ _ _ _, Nat.zero_le _, .nil, Hst⟩
  case round =>
    obtain ⟨k, ys, us, hk, rfl, hB, hown, hys, hcl, hS⟩ := hrel
    obtain ⟨oa, oc, rfl⟩ := own_slice hown
    by_cases hlt : k < out.length
    · obtain ⟨p, hpk⟩ : ∃ p, out[k]? = some p := ⟨_, List.getElem?_eq_getElem hlt⟩
      obtain ⟨c0, c1⟩ := hgc k p hpk
      obtain ⟨hp1, hp2, hp3, hp4⟩ := hparts p (List.mem_of_getElem? hpk)
      have hki : (k : Int) < (out.length : Int) := by omega
      have hdr : out.drop k = p :: out.drop (k + 1) := by
        obtain ⟨hl, e⟩ := List.getElem?_eq_some_iff.1 hpk
        rw [List.drop_eq_getElem_cons hl, e]
      have hS2 := hS.out
      rw [hdr, List.map_cons] at hS2
      have keepP : ∀ V, Below wr.heap.size wr V → (V.cell? ⟨pg, k * 2, none⟩ = some (.int .i64 (p.1 : Int)) ∧ V.cell? ⟨pg, k * 2 + 1, none⟩ = some (.int .i64 (p.2 : Int))) ∧ V.cell? ⟨w.heap.size, 0, none⟩ = some (.slice ta T.length tc) ∧ V.cell? ⟨w.heap.size, 1, none⟩ = some (.slice aa A.length ac) ∧ V.cell? ⟨w.heap.size, 2, none⟩ = some (.slice fa F.length fc) := fun V hV => by
        have h2 := hB.trans (hV.mono hB.size)
        obtain ⟨x0, x1, x2, -⟩ := keep V h2
        exact ⟨⟨(h2.cell (p := ⟨pg, k * 2, none⟩) hg2).trans c0, (h2.cell (p := ⟨pg, k * 2 + 1, none⟩) hg2).trans c1⟩, x0, x1, x2⟩
      obtain ⟨⟨c0', c1'⟩, X0, X1, X2⟩ := keepP wr (Below.refl _ _)
      clear hdr hpk c0 c1 hS
      by_cases hpq : p.1 = p.2
      · have hpi : ((p.1 : Int) == (p.2 : Int)) = true := by rw [beq_iff_eq]; omega
        rw [hpq, sg_nil, List.filter_cons_of_neg (by simp)] at hS2
        have hSt := hid hS2
        clear hS2
        go_upto_region 6 with fail
        go_quiet (fail)
        go_wp2_with fail
        go_roundw
        case rel => exact ⟨k + 1, ys, us, by omega, by go_num, below_drewN hB _, own_below hown (below_drewN (Below.refl _ _) _), by omega, hcl.soft (Soft.of_below (below_drewN (Below.refl _ _) _)), hSt⟩
        case measure => simp [intOf]; omega
      · have hpi : ((p.1 : Int) == (p.2 : Int)) = false := by rw [beq_eq_false_iff_ne]; omega
        have hsl : (sg T p.1 p.2).length = p.2 - p.1 := sg_len (by omega)
        rw [List.filter_cons_of_pos (by simp; intro e; rw [e] at hsl; simp at hsl; omega)] at hS2
        obtain ⟨j, hj1, hj2, hj3⟩ := hS2.fuel (by omega)
        rw [hsl] at hj1
        obtain ⟨la1, hla1⟩ : ∃ l, lineF F j (sg T p.1 p.2) = l := ⟨_, rfl⟩
        have rC1 : ∀ V, Below w.heap.size w V → Calls Tryz.prog 92 #[.agg #[.slice ta T.length tc, .slice aa A.length ac, .slice fa F.length fc], .int .i64 (p.1 : Int), .int .i64 (p.2 : Int)] V fun e w' => RLineA V w' la1 e := fun V hV => by
          rw [← hla1]; exact hL j hj2 V _ p.1 p.2 (hx.below hV) hp2 (by omega) hp4 hj1
        rw [hla1] at hj3
        have Hj3 := hid hj3
        clear hS2 hla1 hj3 hsl
        go_upto_region 7 with (go_quiet (fail))
        clear c0' c1' X0 X1 X2
        have hB3 : Below wr.heap.size wr (wr.drewN nq) := below_drewN (Below.refl _ _) nq
        have hown3 := own_below hown hB3
        have hcl3 := hcl.soft (Soft.of_below hB3)
        have keepP2 : ∀ V, Below (wr.drewN nq).heap.size (wr.drewN nq) V → (V.cell? ⟨pg, k * 2, none⟩ = some (.int .i64 (p.1 : Int)) ∧ V.cell? ⟨pg, k * 2 + 1, none⟩ = some (.int .i64 (p.2 : Int))) ∧ V.cell? ⟨w.heap.size, 0, none⟩ = some (.slice ta T.length tc) ∧ V.cell? ⟨w.heap.size, 1, none⟩ = some (.slice aa A.length ac) ∧ V.cell? ⟨w.heap.size, 2, none⟩ = some (.slice fa F.length fc) := fun V hV => keepP V (hB3.trans (hV.mono hB3.size))
        have hBw := hB.trans (hB3.mono hB.size)
        clear hown hcl keepP hB hB3
        generalize wr.drewN nq = w3 at *
        go_upto_region 7 with fail
        go_cut [11, 12] from 59 (fun sp sk W => GotL w3 W la1 sp sk)
        case first =>
          have g0 := Below.refl w3.heap.size w3
          have gA := fun O => ((Below.refl w3.heap.size w3).alloc (Nat.le_refl _) O).drew
          have keepA := fun O => keepP2 _ (gA O)
          have rC : ∀ V, Below w3.heap.size w3 V → Calls Tryz.prog 92 #[.agg #[.slice ta T.length tc, .slice aa A.length ac, .slice fa F.length fc], .int .i64 (p.1 : Int), .int .i64 (p.2 : Int)] V fun e w' => RLineA V w' la1 e := fun V hV => by
            have h2 := hBw.trans (hV.mono hBw.size)
            exact rC1 V (hB2.trans (h2.mono hB2.size))
          go_region_held3 (fun V => (V.cell? ⟨pg, k * 2, none⟩ = some (.int .i64 (p.1 : Int)) ∧ V.cell? ⟨pg, k * 2 + 1, none⟩ = some (.int .i64 (p.2 : Int))) ∧ V.cell? ⟨w.heap.size, 0, none⟩ = some (.slice ta T.length tc) ∧ V.cell? ⟨w.heap.size, 1, none⟩ = some (.slice aa A.length ac) ∧ V.cell? ⟨w.heap.size, 2, none⟩ = some (.slice fa F.length fc))
            (first | with_reducible exact keepP2 _ g0.drew | with_reducible exact keepA _ | with_reducible exact keepP2 _ g1 | with_reducible exact keepP2 _ (g1.alloc g1.size _) | (refine keepP2 _ ?_; (repeat (with_reducible refine Below.setCell ?_ (by first | exact Nat.le_refl _ | exact g1.size) _)); first | with_reducible exact g1 | with_reducible exact g1.alloc g1.size _) | fail)
            (first
              | (go_at_call 92; refine (rC _ g0.drew).mono ?_; rintro e v1 ⟨yv, y, ok, rfl, b1, fy, la⟩; obtain ⟨yvc, rfl, y5⟩ := fy.ln; obtain ⟨yk, ykc, rfl, -⟩ := y5.self.parts; have g1 := g0.drew.trans (b1.mono (Nat.le_refl _)); have hE1 := heap_alloc_new v1 (.cells #[.int .i64 0, .string ⟨#[]⟩, .slice none 0 0] 93); obtain ⟨⟨r0, r1, r2⟩, ⟨z0, z1, z2⟩⟩ := ln_facts hE1)
              | (go_at_call 92; refine (rC _ (gA _)).mono ?_; rintro e v1 ⟨yv, y, ok, rfl, b1, fy, la⟩; obtain ⟨yvc, rfl, y5⟩ := fy.ln; obtain ⟨yk, ykc, rfl, -⟩ := y5.self.parts; have g1 := (gA (.cells #[.int .i64 0, .string ⟨#[]⟩, .slice none 0 0] 93)).trans (b1.mono (gA _).size); have hE1 := (b1.block w3.heap.size (by show w3.heap.size < (w3.alloc _).heap.size; simp)).trans (heap_alloc_new w3 (.cells #[.int .i64 0, .string ⟨#[]⟩, .slice none 0 0] 93)); obtain ⟨⟨r0, r1, r2⟩, ⟨z0, z1, z2⟩⟩ := ln_facts hE1)
              | fail)
          · go_wp2_with fail
            go_meet
            case rel => exact gotL_a g1 y5 la
          · go_wp2_with fail
            go_meet
            case rel =>
              refine gotL_b b1 y5 la ?_ (ln_set hE1 (.int .i64 y.kind) (.string (bs y.name)) (.slice yk y.kids.len ykc))
              (repeat (with_reducible refine Oth.put ?_ _ _)); exact Oth.refl _ _
        case rest =>
          obtain ⟨A1, y, vc, ok, rfl, rfl, g1, hA1, hy, la⟩ := hcut
          obtain ⟨yk, ykc, rfl, -⟩ := hy.j.self.parts
          have hB4 := hBw.trans (g1.mono hBw.size)
          cases ok with
          | false =>
            have hn : law = none := by
              have h1 := Hj3.out true y (Res.none (la.none_of rfl) false y)
              rcases (Hll.out true _ (Res.none (by rcases h1 with ⟨-, h⟩ | ⟨h, -⟩; exact h; cases h) false (chainL ys))).bad with h | h
              · cases h
              · exact h
            have hn := hid hn
            have hB5 := hB2.trans (hB4.mono hB2.size)
            clear la Hj3 Hll keepP2
            go_wp2_with fail
            refine bodyPost_ret (results_tmp2 rfl _ _ _) rfl ?_
            exact ⟨_, .nil, false, rfl, hB5, Fresh.nil _ _, .inl ⟨rfl, hn.out⟩⟩
          | true =>
            have hSt := hid (Hj3.out false y (Res.some (la.some_of rfl) false))
            have hown4 := own_below hown3 g1
            have hyp := hy.hp
            have hzw := hBw.size
            have hzv := g1.size
            have hbase : ∀ j, w3.heap.size ≤ j → (Value.slice oa ys.length oc).ownBlock ≠ some j := fun j hj e => by have := (hown3.lt j e).2; omega
            have hcl4 : Cells (fun b => w2.heap.size ≤ b ∧ (Value.slice oa ys.length oc).ownBlock ≠ some b) wc (chainL (ys ++ [y])) (us ++ [lnL y (.slice yk y.kids.len ykc)]) :=
              (hcl3.soft (Soft.of_below g1)).snocL (hy.j.weak (fun j h => ⟨by omega, hbase j h.1⟩))
            clear la Hj3 keepP2 hown3 hcl3
            go_upto_region 10 with fail
            go_wp2_with (first
              | (refine wpList_load_rowE rfl 93 _ rfl A1 rfl 93 _ _ _ hyp Tryz.underlying93 rfl (by kernel_rfl) ?_; go_simp)
              | (at_builtin; go_must (refine wpList_append_own_at _ rfl _ _ 31 rfl w2.heap.size 93 i0 (.agg #[.int .i64 0, .string ⟨#[]⟩, .slice none 0 0]) 3 48 Tryz.underlying31 hi hz0 hz1 hz2 rfl (by decide) _ _ _ rfl (hown4.alloc _) ⟨wc.heap.size, 0, none⟩ 1 1 [.int .i64 y.kind, .string (bs y.name), .slice yk y.kids.len ykc] rfl rfl (row_new wc _ 93) (by simp [Value.oneCell']) (by simp [maxLen]; omega) (by omega) (by simp; omega) ?_); intro v' w5 hown' hgrow _ hat; obtain ⟨g', cap', rfl⟩ := ownsRow_succ hown'))
            go_roundw
            case rel =>
              have hBa := hB4.alloc hB4.size (.cells #[.int .i64 y.kind, .string (bs y.name), .slice yk y.kids.len ykc] 93)
              have hsa := Soft.alloc wc (.cells #[.int .i64 y.kind, .string (bs y.name), .slice yk y.kids.len ykc] 93)
              refine ⟨k + 1, ys ++ [y], us ++ [lnL y (.slice yk y.kids.len ykc)], by omega, by go_num, hBa.grown hgrow hBa.size (fun q e => (hown4.lt q e).1), by rw [List.length_append, List.flatten_append]; simpa [lnL] using hown', by simp; omega, ?_, hSt⟩
              refine (hcl4.soft hsa).youngF (SoftF.grown hgrow (fun q hq => fun e => hq.2 e)) (fun q hq hlq => ⟨hq.1, fun e => ?_⟩)
              rcases hat with h1 | h1
              · rw [h1] at e; exact hq.2 e
              · rw [h1] at e; have := Option.some.inj e; omega
            case measure => simp [intOf]; omega
    · have hki : ¬ (k : Int) < (out.length : Int) := by omega
      have hS2 := hS.out
      rw [List.drop_eq_nil_of_le (by omega), List.map_nil, List.filter_nil] at hS2
      have hR := Hll.out false ys hS2.done
      rw [Bool.false_or] at hR
      have hf := hcl.own (S2 := Up w.heap.size) (fun j hj => by unfold Up; omega) hown (by rw [chainL_len]) (fun j hj => by unfold Up; omega)
      have hB5 := hB2.trans (hB.mono hB2.size)
      have hla : LaA law (chainL ys) (decide (0 < ys.length)) := by
        cases ys with
        | nil =>
          rcases hR.bad with h | h
          · cases h
          · exact .inl ⟨rfl, h⟩
        | cons y r =>
          have h2 : Res false false law (chainL (y :: r)) := by simpa using hR
          exact .inr ⟨by simp, h2.good.2⟩
      have hla := hid hla
      have hf := hid hf
      clear hS hS2 hR Hll hcl
      go_wp2_with fail
      refine bodyPost_ret (results_tmp2 rfl _ _ _) rfl ?_
      exact ⟨_, chainL ys, _, rfl, hB5, hf.out, hla.out⟩
end Go.Proofs.YthlingdlehdlhaaGreatDoor.Par
