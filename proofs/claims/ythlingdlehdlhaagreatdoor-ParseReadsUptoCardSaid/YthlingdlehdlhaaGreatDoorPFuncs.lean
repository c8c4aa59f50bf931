/- parse: a text's function: its plain law, in the order in which the code asks.
   parse: a text's function, walked. -/
import Derived.Test.YthlingdlehdlhaaGreatDoorPC
import Derived.Test.YthlingdlehdlhaaGreatDoorPOper
namespace Go.Proofs.YthlingdlehdlhaaGreatDoor.Par
open Go.RowKit Go.Shelf
set_option linter.unusedVariables false
set_option linter.unusedSimpArgs false

/-- The token at a place; none there: no glyph. -/
def tokAt (l : List Tok) (k : Nat) : Tok := (l[k]?).getD ⟨0, [], noArr⟩
theorem tokAt_some {l : List Tok} {k : Nat} {t : Tok} (h : l[k]? = some t) : tokAt l k = t := by unfold tokAt; rw [h]; rfl
theorem tokAt_lt {l : List Tok} {k : Nat} (h : k < l.length) : l[k]? = some (tokAt l k) := by
  unfold tokAt; rw [List.getElem?_eq_getElem h]; rfl
/-- A reduce, a scan (m tokens stand ahead of the last one). -/
def redB (m : Nat) (G : Bool) (bu : Int) : Bool := G && decide (0 < m) && decide (0 < bu)
def outB (m : Nat) (D : Bool) (bt : Int) (J : Bool) : Bool := decide (1 < m) && D && decide (0 < bt) && J
theorem func_eq (F : List (List UInt8)) (n : Nat) (ins : Bool) (l : List Tok) (t : Tok) (m : Nat) (ht : l.getLast? = some t) (hm : l.length = m + 1) :
    functionF F (n + 1) ins l =
      if isFun F t = true then some (⟨6, 0, 0, t.txt, .nil⟩, l.dropLast)
      else if (isG t gDel && ins) = true then some (⟨8, 0, 0, [], .nil⟩, l.dropLast)
      else if isG t gRC = true then ((linesF F n (l.dropLast.drop (openedF l + 1))).map fun b => ((⟨7, 0, 0, [], b⟩ : Fn), l.take (openedF l)))
      else if redB m (isG t gSlash) (binT (tokAt l (m - 1))) = true then some (⟨2, binT (tokAt l (m - 1)), 0, [], .nil⟩, l.dropLast.dropLast)
      else if redB m (isG t gBack) (binT (tokAt l (m - 1))) = true then some (⟨3, binT (tokAt l (m - 1)), 0, [], .nil⟩, l.dropLast.dropLast)
      else if outB m (isG (tokAt l (m - 1)) gDot) (binT t) (isG (tokAt l (m - 2)) gJot) = true then some (⟨4, binT t, 0, [], .nil⟩, l.dropLast.dropLast.dropLast)
      else if outB m (isG (tokAt l (m - 1)) gDot) (binT t) (decide (0 < binT (tokAt l (m - 2)))) = true then some (⟨5, binT (tokAt l (m - 2)), binT t, [], .nil⟩, l.dropLast.dropLast.dropLast)
      else if (decide (t.kind = 3) && decide (0 < fnF t.txt)) = true then some (⟨1, fnF t.txt, 0, [], .nil⟩, l.dropLast)
      else none := by
  have hd : l.dropLast.length = m := by rw [List.length_dropLast]; omega
  rw [functionF, ht]
  simp only
  by_cases h1 : isFun F t = true
  · rw [if_pos h1, if_pos h1]
  rw [if_neg h1, if_neg h1]
  by_cases h2 : isG t gDel = true ∧ ins = true
  · rw [if_pos h2, if_pos (by simp [h2])]
  rw [if_neg h2, if_neg (show ¬ (isG t gDel && ins) = true by simpa using h2)]
  by_cases h3 : isG t gRC = true
  · rw [if_pos h3, if_pos h3]
    cases linesF F n (l.dropLast.drop (openedF l + 1)) <;> rfl
  rw [if_neg h3, if_neg h3]
  unfold redB outB
  cases hu : l.dropLast.getLast? with
  | none =>
    have h0 : m = 0 := by rw [List.getLast?_eq_none_iff] at hu; rw [hu] at hd; simpa using hd.symm
    subst h0
    simp
  | some u =>
    have hu1 := last_get hu
    have hut : tokAt l (m - 1) = u := by
      apply tokAt_some
      have := hu1.1
      rw [hd, List.getElem?_dropLast, hm] at this
      rw [if_pos (by omega)] at this; exact this
    rw [hut]
    have hm0 : 0 < m := by omega
    have e2 : l.dropLast.dropLast.length = m - 1 := by rw [List.length_dropLast]; omega
    simp only [hm0, decide_true, Bool.and_true, Bool.and_eq_true, decide_eq_true_eq]
    by_cases h4 : isG t gSlash = true ∧ 0 < binT u
    · rw [if_pos h4, if_pos h4]
    rw [if_neg h4, if_neg h4]
    by_cases h5 : isG t gBack = true ∧ 0 < binT u
    · rw [if_pos h5, if_pos h5]
    rw [if_neg h5, if_neg h5]
    cases hv : l.dropLast.dropLast.getLast? with
    | none =>
      have h0 : ¬ 1 < m := by
        rw [List.getLast?_eq_none_iff] at hv; rw [hv] at e2; simp at e2; omega
      simp [h0]
    | some v =>
      have hv1 := last_get hv
      have hvt : tokAt l (m - 2) = v := by
        apply tokAt_some
        have := hv1.1
        rw [e2, List.getElem?_dropLast, List.getElem?_dropLast, List.length_dropLast, hm] at this
        rw [if_pos (by omega), if_pos (by omega)] at this
        rw [show m - 1 - 1 = m - 2 by omega] at this; exact this
      have h1m : 1 < m := by omega
      simp only [hvt, h1m, true_and, and_assoc]
/-- What is left, cut. -/
theorem cut1 {l : List Tok} {m : Nat} (hm : l.length = m + 1) : l.dropLast = l.take m := by
  rw [List.dropLast_eq_take]; congr 1; omega
theorem cut2 {l : List Tok} {m : Nat} (hm : l.length = m + 1) (h0 : 0 < m) : l.dropLast.dropLast = l.take (m - 1) := by
  rw [List.dropLast_eq_take, List.dropLast_eq_take, List.length_take, List.take_take]; congr 1; omega
theorem cut3 {l : List Tok} {m : Nat} (hm : l.length = m + 1) (h0 : 1 < m) : l.dropLast.dropLast.dropLast = l.take (m - 2) := by
  rw [cut2 hm (by omega), List.dropLast_eq_take, List.length_take, List.take_take]; congr 1; omega
theorem toks_get {w : World} {b o c n : Nat} {l : List Tok} (h : IsToks w (.slice (some ⟨b, o, none⟩) n c) l) {k : Nat} (hk : k < l.length) :
    ∃ vs ve, TokAt w b (o + k * 5) (tokAt l k) vs ve ∧ Ints w vs (tokAt l k).val.shape ∧ Ints w ve (tokAt l k).val.elems := by
  obtain ⟨a, c, e, k1, k2, k3, k4⟩ := h
  simp only [Value.slice.injEq] at e
  obtain ⟨rfl, -, -⟩ := e
  obtain ⟨b', o', vs, ve, e1, e2, e3, e4, e5⟩ := k4 _ _ (tokAt_lt hk)
  simp only [Option.some.injEq, Addr.mk.injEq, and_true] at e1
  obtain ⟨rfl, rfl⟩ := e1
  exact ⟨vs, ve, e2, e3, e4⟩
theorem take_sub {b o c n k : Nat} {l : List Tok} (h : k ≤ l.length) (hn : n = l.length) : Sub (.slice (some ⟨b, o, none⟩) n c) l (.slice (some ⟨b, o, none⟩) k c) (l.take k) := by
  subst hn
  have h := Sub.seg (a := some ⟨b, o, none⟩) (c := c) (l := l) (p := (0, k)) (Nat.zero_le _) h
  have e1 : seg l (0, k) = l.take k := by unfold seg; rfl
  have e2 : segV (some ⟨b, o, none⟩) c (0, k) = .slice (some ⟨b, o, none⟩) k c := by unfold segV; simp
  rw [e1, e2] at h; exact h
/-- What a failing leaves. -/
theorem noFn_fresh (base : Nat → Prop) (w : World) : Fresh base w (IsF · (.agg #[.int .i64 0, .int .i64 0, .int .i64 0, .string ⟨#[]⟩, .slice none 0 0]) noFn) :=
  Fresh.mkFn (f := noFn) (Fresh.nil _ _)
theorem func_none {w wf : World} {rb : Nat} {fv : Value} {ins bad : Bool} {v : Value} {l : List Tok} {law : Option (Fn × List Tok)} (hl : law = none) (hp : PR wf rb fv ins true) (hf : Fr rb w wf) :
    FunA w wf rb fv ins bad v l law (.returned (.tuple #[.agg #[.int .i64 0, .int .i64 0, .int .i64 0, .string ⟨#[]⟩, .slice none 0 0], .slice none 0 0])) :=
  ⟨true, _, _, noFn, [], rfl, ⟨hp, hf⟩, noFn_fresh _ _, Sub.nil _ _, Rest.nil _, Res.none hl bad _⟩
/-- A function without a body: what is answered. -/
theorem func_some {w wf : World} {rb : Nat} {fv : Value} {ins bad : Bool} {v rv : Value} {l r : List Tok} {law : Option (Fn × List Tok)} {k f g : Int} {nm : List UInt8} (hl : law = some (⟨k, f, g, nm, .nil⟩, r)) (hp : PR wf rb fv ins bad) (hf : Fr rb w wf) (hs : Sub v l rv r) (hr : Rest l r) :
    FunA w wf rb fv ins bad v l law (.returned (.tuple #[.agg #[.int .i64 k, .int .i64 f, .int .i64 g, .string (bs nm), .slice none 0 0], rv])) :=
  ⟨bad, _, _, ⟨k, f, g, nm, .nil⟩, r, rfl, ⟨hp, hf⟩, Fresh.mkFn (f := ⟨k, f, g, nm, .nil⟩) (Fresh.nil _ _), hs, hr, Res.some hl bad⟩
/-- Where the walk of a function stands: the result's row, the last token's row. -/
structure FunSt (w : World) (TB : Nat) (t : Tok) (sv ev : Value) (V : World) : Prop where
  bl : Below w.heap.size w V
  row : V.heap[w.heap.size]? = some (.cells #[.int .i64 0, .int .i64 0, .int .i64 0, .string ⟨#[]⟩, .slice none 0 0] 33)
  tok : V.heap[TB]? = some (.cells #[.int .i64 t.kind, .string (bs t.txt), .int .i64 t.val.kind, sv, ev] 48)
  ne : w.heap.size < TB
theorem FunSt.go {w : World} {TB : Nat} {t : Tok} {sv ev : Value} {V V' : World} (h : FunSt w TB t sv ev V) (hb : Below V.heap.size V V') : FunSt w TB t sv ev V' :=
  ⟨h.bl.trans (hb.mono h.bl.size), (hb.block _ (Array.getElem?_eq_some_iff.1 h.row).1).trans h.row, (hb.block _ (Array.getElem?_eq_some_iff.1 h.tok).1).trans h.tok, h.ne⟩
/-- .. and a store into the result's row leaves the token's. -/
theorem FunSt.oth {w : World} {TB : Nat} {t : Tok} {sv ev : Value} {V W : World} (h : FunSt w TB t sv ev V) (ho : Oth w.heap.size V W) : W.heap[TB]? = some (.cells #[.int .i64 t.kind, .string (bs t.txt), .int .i64 t.val.kind, sv, ev] 48) :=
  (ho.block TB (by have := h.ne; omega)).trans h.tok
end Go.Proofs.YthlingdlehdlhaaGreatDoor.Par

namespace Go.Proofs.YthlingdlehdlhaaGreatDoor.Par
open Go.RowKit Go.Shelf
set_option linter.unusedVariables false
set_option linter.unusedSimpArgs false

set_option maxRecDepth 100000 in
set_option maxHeartbeats 8000000 in
theorem function_step (F : List (List UInt8)) (n : Nat) (hL : ∀ m, m ≤ n → LinesC F m) : FunC F (n + 1) := by
  intro w rb fv ins bad v l hg hne hfu
  have hlt := hg.pr.lt
  obtain ⟨t, ht⟩ : ∃ t, l.getLast? = some t := ⟨_, List.getLast?_eq_some_getLast hne⟩
  obtain ⟨b, o, c, m, vs, ve, rfl, hm, hm1, hm2, ⟨c0, c1, c2, c3, c4⟩, i1, i2, i3⟩ := toks_last hg.tk ht
  obtain ⟨sa, sc, rfl, -⟩ := i1.parts
  obtain ⟨se, sec, rfl, -⟩ := i2.parts
  obtain ⟨law, hlaw⟩ : ∃ law, functionF F (n + 1) ins l = law := ⟨_, rfl⟩
  have hlawE := hlaw.symm.trans (func_eq F n ins l t m ht hm)
  have hpre : ∀ f r, law = some (f, r) → Rest l r := fun f r h => Rest.of_pre (function_pre F (n + 1) ins l f r hg.dy (hlaw.trans h))
  have hlinesB := fun (h : isG t gRC = true) => hg.dy.closed ht (wt_rc h)
  have hpreB := fun (h : isG t gRC = true) => Rest.of_pre (Pre.closed hg.dy ht (wt_rc h))
  rw [hlaw]
  have Hpre := hid hpre
  clear hlaw hpre
  have hle := hg.le
  have hs1 : Sub (.slice (some ⟨b, o, none⟩) (m + 1) c) l (.slice (some ⟨b, o, none⟩) m c) l.dropLast := by rw [cut1 hm]; exact take_sub (by omega) hm.symm
  have hs2 : 0 < m → Sub (.slice (some ⟨b, o, none⟩) (m + 1) c) l (.slice (some ⟨b, o, none⟩) (m - 1) c) l.dropLast.dropLast := fun h => by rw [cut2 hm h]; exact take_sub (by omega) hm.symm
  have hs3 : 1 < m → Sub (.slice (some ⟨b, o, none⟩) (m + 1) c) l (.slice (some ⟨b, o, none⟩) (m - 2) c) l.dropLast.dropLast.dropLast := fun h => by rw [cut3 hm h]; exact take_sub (by omega) hm.symm
  obtain ⟨uvs, uve, hTu, iu1, iu2⟩ := toks_get hg.tk (k := m - 1) (by omega)
  obtain ⟨ua, uc, rfl, -⟩ := iu1.parts
  obtain ⟨ue, uec, rfl, -⟩ := iu2.parts
  obtain ⟨zvs, zve, hTz, iz1, iz2⟩ := toks_get hg.tk (k := m - 2) (by omega)
  obtain ⟨za, zc, rfl, -⟩ := iz1.parts
  obtain ⟨ze, zec, rfl, -⟩ := iz2.parts
  clear iu1 iu2 iz1 iz2
  generalize tokAt l (m - 1) = u at *
  generalize tokAt l (m - 2) = z at *
  obtain ⟨m1, hn1⟩ : ∃ k, m - 1 = k := ⟨_, rfl⟩
  obtain ⟨m2, hn2⟩ : ∃ k, m - 2 = k := ⟨_, rfl⟩
  rw [hn1] at hTu hs2
  rw [hn2] at hTz hs3
  have hw1 : 0 < m → IntKind.i64.wrap ((m : Int) - 1) = (m1 : Int) := fun h => by rw [show (m : Int) - 1 = (m1 : Int) by omega]; exact IntWalk.i64_in _ (by omega)
  have hw2 : 1 < m → IntKind.i64.wrap ((m : Int) - 2) = (m2 : Int) := fun h => by rw [show (m : Int) - 2 = (m2 : Int) by omega]; exact IntWalk.i64_in _ (by omega)
  have hcm : (m : Int) + 1 ≤ (c : Int) := by omega
  have hcm2 : (m : Int) ≤ (c : Int) := by omega
  have hm0 : (0 : Int) ≤ (m : Int) := by omega
  have h10 : (0 : Int) ≤ (m1 : Int) := by omega
  have h11 : (m1 : Int) < ((m + 1 : Nat) : Int) := by omega
  have h11b : (m1 : Int) < (m : Int) + 1 := by omega
  have h12 : (m1 : Int) ≤ (c : Int) := by omega
  have h20 : (0 : Int) ≤ (m2 : Int) := by omega
  have h21 : (m2 : Int) < ((m + 1 : Nat) : Int) := by omega
  have h21b : (m2 : Int) < (m : Int) + 1 := by omega
  have h22 : (m2 : Int) ≤ (c : Int) := by omega
  have hwr : IntKind.i64.wrap (((m + 1 : Nat) : Int) - 1) = (m : Int) := by
    rw [show ((m + 1 : Nat) : Int) - 1 = (m : Int) by omega]; exact IntWalk.i64_in _ (by omega)
  have hwr2 : IntKind.i64.wrap ((m : Int) + 1 - 1) = (m : Int) := by
    rw [show (m : Int) + 1 - 1 = (m : Int) by omega]; exact IntWalk.i64_in _ (by omega)
  have hml : (m : Int) < ((m + 1 : Nat) : Int) := by omega
  have hml2 : (m : Int) < (m : Int) + 1 := by omega
  have Hm := hid hm
  have Hn1 := hid hn1
  have Hn2 := hid hn2
  clear hn1 hn2
  -- letters
  have hfun := fun V (hb : Below w.heap.size w V) => fun_any t (.slice sa t.val.shape.length sc) (.slice se t.val.elems.length sec) V rb fv ins bad F (hg.pr.below hb) (Strs.soft hg.fs (Soft.of_below hb))
  have hisD := fun V => is_any t (.slice sa t.val.shape.length sc) (.slice se t.val.elems.length sec) gDel _ rfl V
  have hisR := fun V => is_any t (.slice sa t.val.shape.length sc) (.slice se t.val.elems.length sec) gRC _ rfl V
  have hisS := fun V => is_any t (.slice sa t.val.shape.length sc) (.slice se t.val.elems.length sec) gSlash _ rfl V
  have hisB := fun V => is_any t (.slice sa t.val.shape.length sc) (.slice se t.val.elems.length sec) gBack _ rfl V
  have hisT := fun V => is_any u (.slice ua u.val.shape.length uc) (.slice ue u.val.elems.length uec) gDot _ rfl V
  have hisJ := fun V => is_any z (.slice za z.val.shape.length zc) (.slice ze z.val.elems.length zec) gJot _ rfl V
  have hbt := fun V (hb : Below w.heap.size w V) => pbin_any t (.slice sa t.val.shape.length sc) (.slice se t.val.elems.length sec) V (hg.gy.below hb)
  have hbu := fun V (hb : Below w.heap.size w V) => pbin_any u (.slice ua u.val.shape.length uc) (.slice ue u.val.elems.length uec) V (hg.gy.below hb)
  have hbz := fun V (hb : Below w.heap.size w V) => pbin_any z (.slice za z.val.shape.length zc) (.slice ze z.val.elems.length zec) V (hg.gy.below hb)
  have hfn := fun V (hb : Below w.heap.size w V) => (fn_any t.txt _ rfl V (hg.gy.below hb)).mono fun e w' (h : _ ∧ _) => (⟨h.1, h.2.below V.heap.size⟩ : _ ∧ Below V.heap.size V w')
  obtain ⟨A, qA⟩ : ∃ x, isFun F t = x := ⟨_, rfl⟩
  rw [qA] at hlawE
  simp only [qA] at hfun
  clear qA
  obtain ⟨GD, qGD⟩ : ∃ x, isG t gDel = x := ⟨_, rfl⟩
  rw [qGD] at hlawE
  simp only [qGD] at hisD
  clear qGD
  obtain ⟨GR, qGR⟩ : ∃ x, isG t gRC = x := ⟨_, rfl⟩
  rw [qGR] at hlawE
  simp only [qGR] at hisR hlinesB hpreB
  clear qGR
  obtain ⟨GS, qGS⟩ : ∃ x, isG t gSlash = x := ⟨_, rfl⟩
  rw [qGS] at hlawE
  simp only [qGS] at hisS
  clear qGS
  obtain ⟨GB, qGB⟩ : ∃ x, isG t gBack = x := ⟨_, rfl⟩
  rw [qGB] at hlawE
  simp only [qGB] at hisB
  clear qGB
  obtain ⟨DT, qDT⟩ : ∃ x, isG u gDot = x := ⟨_, rfl⟩
  rw [qDT] at hlawE
  simp only [qDT] at hisT
  clear qDT
  obtain ⟨J, qJ⟩ : ∃ x, isG z gJot = x := ⟨_, rfl⟩
  rw [qJ] at hlawE
  simp only [qJ] at hisJ
  clear qJ
  obtain ⟨bt, qbt⟩ : ∃ x, binT t = x := ⟨_, rfl⟩
  rw [qbt] at hlawE
  simp only [qbt] at hbt
  clear qbt
  obtain ⟨bu, qbu⟩ : ∃ x, binT u = x := ⟨_, rfl⟩
  rw [qbu] at hlawE
  simp only [qbu] at hbu
  clear qbu
  obtain ⟨bz, qbz⟩ : ∃ x, binT z = x := ⟨_, rfl⟩
  rw [qbz] at hlawE
  simp only [qbz] at hbz
  clear qbz
  obtain ⟨fg, qfg⟩ : ∃ x, fnF t.txt = x := ⟨_, rfl⟩
  rw [qfg] at hlawE
  simp only [qfg] at hfn
  clear qfg
  obtain ⟨D5, hD5⟩ : ∃ x, (GD && ins) = x := ⟨_, rfl⟩
  rw [hD5] at hlawE
  have HD5 := hid hD5.symm
  clear hD5
  obtain ⟨C10, hC10⟩ : ∃ x, redB m GS bu = x := ⟨_, rfl⟩
  rw [hC10] at hlawE
  have HC10 := hid hC10.symm
  clear hC10
  obtain ⟨C12, hC12⟩ : ∃ x, redB m GB bu = x := ⟨_, rfl⟩
  rw [hC12] at hlawE
  have HC12 := hid hC12.symm
  clear hC12
  obtain ⟨C14, hC14⟩ : ∃ x, outB m DT bt J = x := ⟨_, rfl⟩
  rw [hC14] at hlawE
  have HC14 := hid hC14.symm
  clear hC14
  obtain ⟨C16, hC16⟩ : ∃ x, outB m DT bt (decide (0 < bz)) = x := ⟨_, rfl⟩
  rw [hC16] at hlawE
  have HC16 := hid hC16.symm
  clear hC16
  obtain ⟨C18, hC18⟩ : ∃ x, (decide (t.kind = 3) && decide (0 < fg)) = x := ⟨_, rfl⟩
  rw [hC18] at hlawE
  have HC18 := hid hC18.symm
  clear hC18
  have HlawE := hid hlawE
  have Hs1 := hid hs1
  have Hs2 := hid hs2
  have Hs3 := hid hs3
  clear hlawE hs1 hs2 hs3
  have hA := fun o => (Below.refl _ w).alloc (Nat.le_refl _) o
  have hN0 := fun o => heap_alloc_new w o
  go_enter Tryz.func128, Tryz.ntmps128
  go_upto_region 2 with fail
  have hB1 := hA (.cells #[.int .i64 0, .int .i64 0, .int .i64 0, .string ⟨#[]⟩, .slice none 0 0] 33)
  have hR1 := hN0 (.cells #[.int .i64 0, .int .i64 0, .int .i64 0, .string ⟨#[]⟩, .slice none 0 0] 33)
  have hsz1 : w.heap.size < (w.alloc (.cells #[.int .i64 0, .int .i64 0, .int .i64 0, .string ⟨#[]⟩, .slice none 0 0] 33)).heap.size := by simp
  generalize w.alloc (.cells #[.int .i64 0, .int .i64 0, .int .i64 0, .string ⟨#[]⟩, .slice none 0 0] 33) = w1 at *
  replace c0 := (hB1.cell (World.block_lt_of_cell? w _ c0)).trans c0
  replace c1 := (hB1.cell (World.block_lt_of_cell? w _ c1)).trans c1
  replace c2 := (hB1.cell (World.block_lt_of_cell? w _ c2)).trans c2
  replace c3 := (hB1.cell (World.block_lt_of_cell? w _ c3)).trans c3
  replace c4 := (hB1.cell (World.block_lt_of_cell? w _ c4)).trans c4
  clear hA hN0
  go_upto_region 3 with fail
  have s2 : FunSt w w1.heap.size t (.slice sa t.val.shape.length sc) (.slice se t.val.elems.length sec) (w1.alloc (.cells #[.int .i64 t.kind, .string (bs t.txt), .int .i64 t.val.kind, .slice sa t.val.shape.length sc, .slice se t.val.elems.length sec] 48)) :=
    ⟨hB1.alloc hB1.size _, (heap_alloc_old w1 _ hsz1).trans hR1, heap_alloc_new w1 _, hsz1⟩
  generalize w1.alloc (.cells #[.int .i64 t.kind, .string (bs t.txt), .int .i64 t.val.kind, .slice sa t.val.shape.length sc, .slice se t.val.elems.length sec] 48) = w2 at *
  clear c0 c1 c2 c3 c4 hB1 hR1
  generalize w1.heap.size = TB at *
  obtain ⟨⟨d0, d1, d2, d3, d4⟩, ⟨y0, y1, y2, y3, y4⟩⟩ := fn_facts s2.tok
  go_wp2_with fail
  refine (hfun _ s2.bl).mono ?_
  rintro e w3 ⟨rfl, b3⟩
  have s3 := s2.go b3
  clear s2 b3 hfun d0 d1 d2 d3 d4 y0 y1 y2 y3 y4
  cases A with
  | true =>
    have hl := hid (HlawE.out.trans (if_pos rfl))
    obtain ⟨⟨r0, r1, r2, r3, r4⟩, ⟨q0, q1, q2, q3, q4⟩⟩ := fn_facts s3.row
    obtain ⟨⟨d0, d1, d2, d3, d4⟩, ⟨y0, y1, y2, y3, y4⟩⟩ := fn_facts s3.tok
    go_upto_region 4 with fail
    go_region
    go_wp2_with fail
    refine bodyPost_ret (results_row_tmp rfl _ _ w.heap.size _ _ _ _ rfl ((heap_drew _ _).trans (fn_set (w := w3) s3.row (.int .i64 6) (.int .i64 0) (.int .i64 0) (.string (bs t.txt)) (.slice none 0 0))) Tryz.underlying33 rfl (by kernel_rfl)) rfl ?_
    have fin : ∀ wf, Oth w.heap.size w3 wf → FunA w wf rb fv ins bad (.slice (some ⟨b, o, none⟩) (m + 1) c) l law (.returned (.tuple #[.agg #[.int .i64 6, .int .i64 0, .int .i64 0, .string (bs t.txt), .slice none 0 0], .slice (some ⟨b, o, none⟩) m c])) := fun wf ho =>
      func_some hl.out (ho.pr (hg.pr.below s3.bl) (by omega)) (ho.fr (Fr.of_below s3.bl) (Nat.le_refl _)) Hs1.out (Hpre.out _ _ hl.out)
    refine fin _ ?_
    refine Oth.drew ?_
    repeat (with_reducible refine Oth.put ?_ _ _)
    exact Oth.refl _ _
  | false =>
    have hl0 := hid (HlawE.out.trans (if_neg (by simp)))
    clear HlawE
    go_upto_region 5 with fail
    go_cut [26] from 198 (fun s26 W => s26 = .bool D5 ∧ FunSt w TB t (.slice sa t.val.shape.length sc) (.slice se t.val.elems.length sec) W)
    case first =>
      obtain ⟨⟨d0, d1, d2, d3, d4⟩, ⟨y0, y1, y2, y3, y4⟩⟩ := fn_facts s3.tok
      go_wp2_with fail
      refine (hisD _).mono ?_
      rintro e w4 ⟨rfl, b4⟩
      have s4 := s3.go b4
      clear d0 d1 d2 d3 d4 y0 y1 y2 y3 y4
      obtain ⟨p0, p1, p2, e0, e1, e2⟩ := (hg.pr.below s4.bl).cells
      cases GD with
      | false =>
        go_wp2_with fail
        go_meet
        case rel => exact ⟨by rw [HD5.out]; rfl, s4⟩
      | true =>
        go_wp2_with fail
        go_meet
        case rel => exact ⟨by rw [HD5.out]; rfl, s4⟩
    case rest =>
      obtain ⟨rfl, s4⟩ := hcut
      cases D5 with
      | true =>
        have hl := hid (hl0.out.trans (if_pos rfl))
        obtain ⟨⟨r0, r1, r2, r3, r4⟩, ⟨q0, q1, q2, q3, q4⟩⟩ := fn_facts s4.row
        obtain ⟨⟨d0, d1, d2, d3, d4⟩, ⟨y0, y1, y2, y3, y4⟩⟩ := fn_facts s4.tok
        go_upto_region 6 with fail
        go_region
        go_wp2_with fail
        refine bodyPost_ret (results_row_tmp rfl _ _ w.heap.size _ _ _ _ rfl ((heap_drew _ _).trans (fn_set (w := wc) s4.row (.int .i64 8) (.int .i64 0) (.int .i64 0) (.string ⟨#[]⟩) (.slice none 0 0))) Tryz.underlying33 rfl (by kernel_rfl)) rfl ?_
        have fin : ∀ wf, Oth w.heap.size wc wf → FunA w wf rb fv ins bad (.slice (some ⟨b, o, none⟩) (m + 1) c) l law (.returned (.tuple #[.agg #[.int .i64 8, .int .i64 0, .int .i64 0, .string ⟨#[]⟩, .slice none 0 0], .slice (some ⟨b, o, none⟩) m c])) := fun wf ho =>
          func_some hl.out (ho.pr (hg.pr.below s4.bl) (by omega)) (ho.fr (Fr.of_below s4.bl) (Nat.le_refl _)) Hs1.out (Hpre.out _ _ hl.out)
        refine fin _ ?_
        refine Oth.drew ?_
        repeat (with_reducible refine Oth.put ?_ _ _)
        exact Oth.refl _ _
      | false =>
        have hl1 := hid (hl0.out.trans (if_neg (by simp)))
        clear hl0
        go_upto_region 7 with fail
        obtain ⟨⟨d0, d1, d2, d3, d4⟩, ⟨y0, y1, y2, y3, y4⟩⟩ := fn_facts s4.tok
        go_wp2_with fail
        refine (hisR _).mono ?_
        rintro e w5 ⟨rfl, b5⟩
        have s5 := s4.go b5
        clear s4 b5 d0 d1 d2 d3 d4 y0 y1 y2 y3 y4 hisR
        cases GR with
        | true =>
          have hl := hid (hl1.out.trans (if_pos rfl))
          obtain ⟨k5, k6, k7⟩ := hlinesB rfl
          have hrest := hpreB rfl
          have hm := Hm.out
          have hop := opened_any' _ l w5 (hg.tk.below s5.bl) hg.dy hne
          have hsb1 : Sub (.slice (some ⟨b, o, none⟩) (m + 1) c) l (.slice (some ⟨b, o + (openedF l + 1) * 5, none⟩) (m - (openedF l + 1)) (c - (openedF l + 1))) (l.dropLast.drop (openedF l + 1)) := by
            have h := Sub.seg (a := some ⟨b, o, none⟩) (c := c) (l := l) (p := (openedF l + 1, m)) (by simp only; omega) (by simp only; omega)
            have e1 : seg l (openedF l + 1, m) = l.dropLast.drop (openedF l + 1) := by unfold seg; rw [cut1 hm]
            have e2 : segV (some ⟨b, o, none⟩) c (openedF l + 1, m) = .slice (some ⟨b, o + (openedF l + 1) * 5, none⟩) (m - (openedF l + 1)) (c - (openedF l + 1)) := by unfold segV; simp only; rw [if_neg (by omega)]; rfl
            rw [e1, e2, hm] at h; exact h
          have hsb2 : Sub (.slice (some ⟨b, o, none⟩) (m + 1) c) l (.slice (some ⟨b, o, none⟩) (openedF l) c) (l.take (openedF l)) := take_sub (by omega) hm.symm
          have hil := inner_len l (openedF l)
          have his := inner_sub l (openedF l + 1)
          generalize openedF l = q at *
          go_upto_region 8 with fail
          go_wp2_with fail
          refine hop.mono ?_
          rintro e w6 ⟨rfl, b6⟩
          have s6 := s5.go b6
          have hwq : IntKind.i64.wrap ((q : Int) + 1) = (q : Int) + 1 := IntWalk.i64_in _ (by omega)
          have hq0 : (0 : Int) ≤ (q : Int) + 1 := by omega
          have hq1 : (q : Int) + 1 ≤ (m : Int) := by omega
          have hq2 : (0 : Int) ≤ (q : Int) := by omega
          have hq3 : (q : Int) ≤ (c : Int) := by omega
          have hcq : ¬ c = q + 1 := by omega
          have g0 := Below.refl w6.heap.size w6
          have rC : ∀ V, Below w6.heap.size w6 V → Calls Tryz.prog 86 #[.pointer (some ⟨rb, 0, none⟩), .slice (some ⟨b, o + (q + 1) * 5, none⟩) (m - (q + 1)) (c - (q + 1))] V fun e w' => LinesA V w' rb fv ins bad (linesF F n (l.dropLast.drop (q + 1))) e := fun V hV => by
            have hBV := s6.bl.trans (hV.mono s6.bl.size)
            exact hL n (Nat.le_refl _) V rb fv ins bad _ _ ⟨hg.pr.below hBV, Strs.soft hg.fs (Soft.of_below hBV), hsb1 V (hg.tk.below hBV), k6, hg.sm.sub his, by omega, hg.gy.below hBV⟩ (by omega)
          have Hsb2 := hid hsb2
          have hR4 := s6.row
          clear hop hsb1 hsb2 hm s5 b6
          go_upto_region 9 with fail
          go_region_held3 (fun w' => True)
            (exact trivial)
            (first | (go_at_call 86; refine (rC _ g0.drew).mono ?_; rintro e v1 ⟨bd1, xv, x, rfl, an, fx, rs⟩; obtain ⟨xa, xc, rfl, -⟩ := fx.self.parts; have hR5 := (an.fr.block w.heap.size (Array.getElem?_eq_some_iff.1 hR4).1 (by omega)).trans hR4; obtain ⟨⟨r0, r1, r2, r3, r4⟩, ⟨q0, q1, q2, q3, q4⟩⟩ := fn_facts hR5) | fail)
          go_wp2_with fail
          refine bodyPost_ret (results_row_tmp rfl _ _ w.heap.size _ _ _ _ rfl (fn_set (w := v1) hR5 (.int .i64 7) (.int .i64 0) (.int .i64 0) (.string ⟨#[]⟩) (.slice xa x.len xc)) Tryz.underlying33 rfl (by kernel_rfl)) rfl ?_
          have fin : ∀ wf, Oth w.heap.size v1 wf → FunA w wf rb fv ins bad (.slice (some ⟨b, o, none⟩) (m + 1) c) l law (.returned (.tuple #[.agg #[.int .i64 7, .int .i64 0, .int .i64 0, .string ⟨#[]⟩, .slice xa x.len xc], .slice (some ⟨b, o, none⟩) q c])) := fun wf ho =>
            ⟨bd1, _, _, ⟨7, 0, 0, [], x⟩, l.take q, rfl, ⟨ho.pr an.pr (by omega), ho.fr ((Fr.of_below s6.bl.drew).trans an.fr) (Nat.le_refl _)⟩, (Fresh.mkFn (f := ⟨7, 0, 0, [], x⟩) (fx.softF (ho.soft (fun h => by unfold Up at h; have := s6.bl.drew.size; have h2 := (Array.getElem?_eq_some_iff.1 hR4).1; simp at h; omega)))).weak (fun k hk => by unfold Up at hk ⊢; have := s6.bl.drew.size; simp at *; omega), Hsb2.out, hrest, rs.map hl.out⟩
          refine fin _ ?_
          repeat (with_reducible refine Oth.put ?_ _ _)
          exact Oth.refl _ _
        | false =>
          have hl2 := hid (hl1.out.trans (if_neg (by simp)))
          clear hl1 hlinesB hpreB
          go_upto_region 10 with fail
          go_cut [55] from 198 (fun s55 W => s55 = .bool C10 ∧ FunSt w TB t (.slice sa t.val.shape.length sc) (.slice se t.val.elems.length sec) W)
          case first =>
            obtain ⟨⟨d0, d1, d2, d3, d4⟩, ⟨y0, y1, y2, y3, y4⟩⟩ := fn_facts s5.tok
            go_wp2_with fail
            refine (hisS _).mono ?_
            rintro e w6 ⟨rfl, b6⟩
            have s6 := s5.go b6
            clear d0 d1 d2 d3 d4 y0 y1 y2 y3 y4
            cases GS with
            | false =>
              go_wp2_with fail
              go_meet
              case rel => exact ⟨by rw [HC10.out]; rfl, s6⟩
            | true =>
              by_cases hx : 0 < m
              · have hxi : (0 : Int) < (m : Int) := by omega
                have hw := hw1 hx
                obtain ⟨a0, a1, a2, a3, a4⟩ := hTu.below s6.bl
                go_wp2_with fail
                refine (hbu _ s6.bl).mono ?_
                rintro e w7 ⟨rfl, b7⟩
                have s7 := s6.go b7
                clear a0 a1 a2 a3 a4
                by_cases hy : 0 < bu
                · have hv : C10 = true := by rw [HC10.out]; unfold redB; simp [hx, hy]
                  subst hv
                  go_wp2_with fail
                  go_meet
                  case rel => exact ⟨by simp [hy], s7⟩
                · have hv : C10 = false := by rw [HC10.out]; unfold redB; simp [hx, hy]
                  subst hv
                  go_wp2_with fail
                  go_meet
                  case rel => exact ⟨by simp [hy], s7⟩
              · have hxi : ¬ (0 : Int) < (m : Int) := by omega
                have hv : C10 = false := by rw [HC10.out]; unfold redB; simp [hx]
                subst hv
                go_wp2_with fail
                go_meet
                case rel => exact ⟨rfl, s6⟩
          case rest =>
            obtain ⟨rfl, s6c⟩ := hcut
            clear s5
            cases C10 with
            | true =>
              have hl := hid (hl2.out.trans (if_pos rfl))
              obtain ⟨hx, hy⟩ : 0 < m ∧ 0 < bu := by have := HC10.out; unfold redB at this; simp at this; exact ⟨this.1.2, this.2⟩
              have hw := hw1 hx
              have hTuc := hTu.below s6c.bl
              have g0 := Below.refl wc.heap.size wc
              have rC : ∀ V, Below wc.heap.size wc V → Calls Tryz.prog 158 #[.agg #[.int .i64 u.kind, .string (bs u.txt), .int .i64 u.val.kind, .slice ua u.val.shape.length uc, .slice ue u.val.elems.length uec]] V fun e w' => e = .returned (.int .i64 bu) ∧ Below wc.heap.size wc w' := fun V hV => (hbu V (s6c.bl.trans (hV.mono s6c.bl.size))).mono fun e w' ⟨h1, h2⟩ => ⟨h1, hV.trans (h2.mono hV.size)⟩
              have hbw : b < w.heap.size := World.block_lt_of_cell? w _ hTu.1
              have keep : ∀ V, Below wc.heap.size wc V → V.cell? ⟨b, o + m1 * 5, none⟩ = some (.int .i64 u.kind) ∧ V.cell? ⟨b, o + m1 * 5 + 1, none⟩ = some (.string (bs u.txt)) ∧ V.cell? ⟨b, o + m1 * 5 + 2, none⟩ = some (.int .i64 u.val.kind) ∧ V.cell? ⟨b, o + m1 * 5 + 3, none⟩ = some (.slice ua u.val.shape.length uc) ∧ V.cell? ⟨b, o + m1 * 5 + 4, none⟩ = some (.slice ue u.val.elems.length uec) := fun V hV => hTuc.below hV
              have keepO : ∀ V W, Below wc.heap.size wc V → Oth w.heap.size V W → W.cell? ⟨b, o + m1 * 5, none⟩ = some (.int .i64 u.kind) ∧ W.cell? ⟨b, o + m1 * 5 + 1, none⟩ = some (.string (bs u.txt)) ∧ W.cell? ⟨b, o + m1 * 5 + 2, none⟩ = some (.int .i64 u.val.kind) ∧ W.cell? ⟨b, o + m1 * 5 + 3, none⟩ = some (.slice ua u.val.shape.length uc) ∧ W.cell? ⟨b, o + m1 * 5 + 4, none⟩ = some (.slice ue u.val.elems.length uec) := fun V W hV ho => by
                obtain ⟨a0, a1, a2, a3, a4⟩ := keep V hV
                have hh := ho.block b (by omega)
                exact ⟨(World.cell?_of_block (w := V) hh).trans a0, (World.cell?_of_block (w := V) hh).trans a1, (World.cell?_of_block (w := V) hh).trans a2, (World.cell?_of_block (w := V) hh).trans a3, (World.cell?_of_block (w := V) hh).trans a4⟩
              have K0 := keep _ g0.drew
              have hRk := fun V hV => (s6c.go (V' := V) hV).row
              clear hTuc
              go_upto_region 11 with fail
              go_region_held3 (fun w' => w'.cell? ⟨b, o + m1 * 5, none⟩ = some (.int .i64 u.kind) ∧ w'.cell? ⟨b, o + m1 * 5 + 1, none⟩ = some (.string (bs u.txt)) ∧ w'.cell? ⟨b, o + m1 * 5 + 2, none⟩ = some (.int .i64 u.val.kind) ∧ w'.cell? ⟨b, o + m1 * 5 + 3, none⟩ = some (.slice ua u.val.shape.length uc) ∧ w'.cell? ⟨b, o + m1 * 5 + 4, none⟩ = some (.slice ue u.val.elems.length uec))
                (first | with_reducible exact K0 | with_reducible exact keep _ g1 | (refine keepO v1 _ g1 ?_; (repeat (with_reducible refine Oth.put ?_ _ _)); with_reducible exact Oth.refl _ _) | fail)
                (first | (go_at_call 158; refine (rC _ g0.drew).mono ?_; rintro e v1 ⟨rfl, g1⟩; have hR3 := hRk _ g1; obtain ⟨⟨r0, r1, r2, r3, r4⟩, ⟨q0, q1, q2, q3, q4⟩⟩ := fn_facts hR3) | fail)
              go_wp2_with fail
              refine bodyPost_ret (results_row_tmp rfl _ _ w.heap.size _ _ _ _ rfl (fn_set (w := v1) hR3 (.int .i64 2) (.int .i64 bu) (.int .i64 0) (.string ⟨#[]⟩) (.slice none 0 0)) Tryz.underlying33 rfl (by kernel_rfl)) rfl ?_
              have fin : ∀ wf, Oth w.heap.size v1 wf → FunA w wf rb fv ins bad (.slice (some ⟨b, o, none⟩) (m + 1) c) l law (.returned (.tuple #[.agg #[.int .i64 2, .int .i64 bu, .int .i64 0, .string ⟨#[]⟩, .slice none 0 0], .slice (some ⟨b, o, none⟩) m1 c])) := fun wf ho => func_some hl.out (ho.pr (hg.pr.below (s6c.bl.trans (g1.mono s6c.bl.size))) (by omega)) (ho.fr (Fr.of_below (s6c.bl.trans (g1.mono s6c.bl.size))) (Nat.le_refl _)) (Hs2.out hx) (Hpre.out _ _ hl.out)
              refine fin _ ?_
              repeat (with_reducible refine Oth.put ?_ _ _)
              exact Oth.refl _ _
            | false =>
              have hl3 := hid (hl2.out.trans (if_neg (by simp)))
              clear hl2
              go_upto_region 12 with fail
              go_cut [82] from 198 (fun s82 W => s82 = .bool C12 ∧ FunSt w TB t (.slice sa t.val.shape.length sc) (.slice se t.val.elems.length sec) W)
              case first =>
                obtain ⟨⟨d0, d1, d2, d3, d4⟩, ⟨y0, y1, y2, y3, y4⟩⟩ := fn_facts s6c.tok
                go_wp2_with fail
                refine (hisB _).mono ?_
                rintro e w6 ⟨rfl, b6⟩
                have s6 := s6c.go b6
                clear d0 d1 d2 d3 d4 y0 y1 y2 y3 y4
                cases GB with
                | false =>
                  go_wp2_with fail
                  go_meet
                  case rel => exact ⟨by rw [HC12.out]; rfl, s6⟩
                | true =>
                  by_cases hx : 0 < m
                  · have hxi : (0 : Int) < (m : Int) := by omega
                    have hw := hw1 hx
                    obtain ⟨a0, a1, a2, a3, a4⟩ := hTu.below s6.bl
                    go_wp2_with fail
                    refine (hbu _ s6.bl).mono ?_
                    rintro e w7 ⟨rfl, b7⟩
                    have s7 := s6.go b7
                    clear a0 a1 a2 a3 a4
                    by_cases hy : 0 < bu
                    · have hv : C12 = true := by rw [HC12.out]; unfold redB; simp [hx, hy]
                      subst hv
                      go_wp2_with fail
                      go_meet
                      case rel => exact ⟨by simp [hy], s7⟩
                    · have hv : C12 = false := by rw [HC12.out]; unfold redB; simp [hx, hy]
                      subst hv
                      go_wp2_with fail
                      go_meet
                      case rel => exact ⟨by simp [hy], s7⟩
                  · have hxi : ¬ (0 : Int) < (m : Int) := by omega
                    have hv : C12 = false := by rw [HC12.out]; unfold redB; simp [hx]
                    subst hv
                    go_wp2_with fail
                    go_meet
                    case rel => exact ⟨rfl, s6⟩
              case rest =>
                obtain ⟨rfl, s7c⟩ := hcut
                clear s6c
                cases C12 with
                | true =>
                  have hl := hid (hl3.out.trans (if_pos rfl))
                  obtain ⟨hx, hy⟩ : 0 < m ∧ 0 < bu := by have := HC12.out; unfold redB at this; simp at this; exact ⟨this.1.2, this.2⟩
                  have hw := hw1 hx
                  have hTuc := hTu.below s7c.bl
                  have g0 := Below.refl wc.heap.size wc
                  have rC : ∀ V, Below wc.heap.size wc V → Calls Tryz.prog 158 #[.agg #[.int .i64 u.kind, .string (bs u.txt), .int .i64 u.val.kind, .slice ua u.val.shape.length uc, .slice ue u.val.elems.length uec]] V fun e w' => e = .returned (.int .i64 bu) ∧ Below wc.heap.size wc w' := fun V hV => (hbu V (s7c.bl.trans (hV.mono s7c.bl.size))).mono fun e w' ⟨h1, h2⟩ => ⟨h1, hV.trans (h2.mono hV.size)⟩
                  have hbw : b < w.heap.size := World.block_lt_of_cell? w _ hTu.1
                  have keep : ∀ V, Below wc.heap.size wc V → V.cell? ⟨b, o + m1 * 5, none⟩ = some (.int .i64 u.kind) ∧ V.cell? ⟨b, o + m1 * 5 + 1, none⟩ = some (.string (bs u.txt)) ∧ V.cell? ⟨b, o + m1 * 5 + 2, none⟩ = some (.int .i64 u.val.kind) ∧ V.cell? ⟨b, o + m1 * 5 + 3, none⟩ = some (.slice ua u.val.shape.length uc) ∧ V.cell? ⟨b, o + m1 * 5 + 4, none⟩ = some (.slice ue u.val.elems.length uec) := fun V hV => hTuc.below hV
                  have keepO : ∀ V W, Below wc.heap.size wc V → Oth w.heap.size V W → W.cell? ⟨b, o + m1 * 5, none⟩ = some (.int .i64 u.kind) ∧ W.cell? ⟨b, o + m1 * 5 + 1, none⟩ = some (.string (bs u.txt)) ∧ W.cell? ⟨b, o + m1 * 5 + 2, none⟩ = some (.int .i64 u.val.kind) ∧ W.cell? ⟨b, o + m1 * 5 + 3, none⟩ = some (.slice ua u.val.shape.length uc) ∧ W.cell? ⟨b, o + m1 * 5 + 4, none⟩ = some (.slice ue u.val.elems.length uec) := fun V W hV ho => by
                    obtain ⟨a0, a1, a2, a3, a4⟩ := keep V hV
                    have hh := ho.block b (by omega)
                    exact ⟨(World.cell?_of_block (w := V) hh).trans a0, (World.cell?_of_block (w := V) hh).trans a1, (World.cell?_of_block (w := V) hh).trans a2, (World.cell?_of_block (w := V) hh).trans a3, (World.cell?_of_block (w := V) hh).trans a4⟩
                  have K0 := keep _ g0.drew
                  have hRk := fun V hV => (s7c.go (V' := V) hV).row
                  clear hTuc
                  go_upto_region 13 with fail
                  go_region_held3 (fun w' => w'.cell? ⟨b, o + m1 * 5, none⟩ = some (.int .i64 u.kind) ∧ w'.cell? ⟨b, o + m1 * 5 + 1, none⟩ = some (.string (bs u.txt)) ∧ w'.cell? ⟨b, o + m1 * 5 + 2, none⟩ = some (.int .i64 u.val.kind) ∧ w'.cell? ⟨b, o + m1 * 5 + 3, none⟩ = some (.slice ua u.val.shape.length uc) ∧ w'.cell? ⟨b, o + m1 * 5 + 4, none⟩ = some (.slice ue u.val.elems.length uec))
                    (first | with_reducible exact K0 | with_reducible exact keep _ g1 | (refine keepO v1 _ g1 ?_; (repeat (with_reducible refine Oth.put ?_ _ _)); with_reducible exact Oth.refl _ _) | fail)
                    (first | (go_at_call 158; refine (rC _ g0.drew).mono ?_; rintro e v1 ⟨rfl, g1⟩; have hR3 := hRk _ g1; obtain ⟨⟨r0, r1, r2, r3, r4⟩, ⟨q0, q1, q2, q3, q4⟩⟩ := fn_facts hR3) | fail)
                  go_wp2_with fail
                  refine bodyPost_ret (results_row_tmp rfl _ _ w.heap.size _ _ _ _ rfl (fn_set (w := v1) hR3 (.int .i64 3) (.int .i64 bu) (.int .i64 0) (.string ⟨#[]⟩) (.slice none 0 0)) Tryz.underlying33 rfl (by kernel_rfl)) rfl ?_
                  have fin : ∀ wf, Oth w.heap.size v1 wf → FunA w wf rb fv ins bad (.slice (some ⟨b, o, none⟩) (m + 1) c) l law (.returned (.tuple #[.agg #[.int .i64 3, .int .i64 bu, .int .i64 0, .string ⟨#[]⟩, .slice none 0 0], .slice (some ⟨b, o, none⟩) m1 c])) := fun wf ho => func_some hl.out (ho.pr (hg.pr.below (s7c.bl.trans (g1.mono s7c.bl.size))) (by omega)) (ho.fr (Fr.of_below (s7c.bl.trans (g1.mono s7c.bl.size))) (Nat.le_refl _)) (Hs2.out hx) (Hpre.out _ _ hl.out)
                  refine fin _ ?_
                  repeat (with_reducible refine Oth.put ?_ _ _)
                  exact Oth.refl _ _
                | false =>
                  have hl4 := hid (hl3.out.trans (if_neg (by simp)))
                  clear hl3
                  go_upto_region 14 with fail
                  go_cut [109] from 198 (fun s109 W => s109 = .bool C14 ∧ FunSt w TB t (.slice sa t.val.shape.length sc) (.slice se t.val.elems.length sec) W)
                  case first =>
                    by_cases hx : 1 < m
                    · have hxi : (1 : Int) < (m : Int) := by omega
                      have hw := hw1 (by omega)
                      have hwz := hw2 hx
                      obtain ⟨a0, a1, a2, a3, a4⟩ := hTu.below s7c.bl
                      go_wp2_with fail
                      refine (hisT _).mono ?_
                      rintro e w6 ⟨rfl, b6⟩
                      have s6 := s7c.go b6
                      clear a0 a1 a2 a3 a4
                      cases DT with
                      | false =>
                        have hv : C14 = false := by rw [HC14.out]; unfold outB; simp
                        subst hv
                        go_wp2_with fail
                        go_meet
                        case rel => exact ⟨rfl, s6⟩
                      | true =>
                        obtain ⟨⟨d0, d1, d2, d3, d4⟩, ⟨y0, y1, y2, y3, y4⟩⟩ := fn_facts s6.tok
                        go_wp2_with fail
                        refine (hbt _ s6.bl).mono ?_
                        rintro e w7 ⟨rfl, b7⟩
                        have s7 := s6.go b7
                        clear d0 d1 d2 d3 d4 y0 y1 y2 y3 y4
                        by_cases hy : 0 < bt
                        · obtain ⟨a0, a1, a2, a3, a4⟩ := hTz.below s7.bl
                          go_wp2_with fail
                          refine (hisJ _).mono ?_
                          rintro e w8 ⟨rfl, b8⟩
                          have s8 := s7.go b8
                          clear a0 a1 a2 a3 a4
                          go_wp2_with fail
                          go_meet
                          case rel => exact ⟨by rw [HC14.out]; unfold outB; simp [hx, hy], s8⟩
                        · have hv : C14 = false := by rw [HC14.out]; unfold outB; simp [hy]
                          subst hv
                          go_wp2_with fail
                          go_meet
                          case rel => exact ⟨by simp, s7⟩
                    · have hxi : ¬ (1 : Int) < (m : Int) := by omega
                      have hv : C14 = false := by rw [HC14.out]; unfold outB; simp [hx]
                      subst hv
                      go_wp2_with fail
                      go_meet
                      case rel => exact ⟨rfl, s7c⟩
                  case rest =>
                    obtain ⟨rfl, s8c⟩ := hcut
                    clear s7c
                    cases C14 with
                    | true =>
                      have hl := hid (hl4.out.trans (if_pos rfl))
                      have hx : 1 < m := by have := HC14.out; unfold outB at this; simp at this; exact this.1.1.1
                      have hw := hw1 (by omega)
                      have hwz := hw2 hx
                      have g0 := Below.refl wc.heap.size wc
                      have kt : ∀ V, Below wc.heap.size wc V → V.cell? ⟨TB, 0, none⟩ = some (.int .i64 t.kind) ∧ V.cell? ⟨TB, 1, none⟩ = some (.string (bs t.txt)) ∧ V.cell? ⟨TB, 2, none⟩ = some (.int .i64 t.val.kind) ∧ V.cell? ⟨TB, 3, none⟩ = some (.slice sa t.val.shape.length sc) ∧ V.cell? ⟨TB, 4, none⟩ = some (.slice se t.val.elems.length sec) := fun V hV => (fn_facts (s8c.go hV).tok).1
                      have ktO : ∀ V W, Below wc.heap.size wc V → Oth w.heap.size V W → W.cell? ⟨TB, 0, none⟩ = some (.int .i64 t.kind) ∧ W.cell? ⟨TB, 1, none⟩ = some (.string (bs t.txt)) ∧ W.cell? ⟨TB, 2, none⟩ = some (.int .i64 t.val.kind) ∧ W.cell? ⟨TB, 3, none⟩ = some (.slice sa t.val.shape.length sc) ∧ W.cell? ⟨TB, 4, none⟩ = some (.slice se t.val.elems.length sec) := fun V W hV ho => (fn_facts ((s8c.go hV).oth ho)).1
                      have rT : ∀ V, Below wc.heap.size wc V → Calls Tryz.prog 158 #[.agg #[.int .i64 t.kind, .string (bs t.txt), .int .i64 t.val.kind, .slice sa t.val.shape.length sc, .slice se t.val.elems.length sec]] V fun e w' => e = .returned (.int .i64 bt) ∧ Below wc.heap.size wc w' := fun V hV => (hbt V (s8c.bl.trans (hV.mono s8c.bl.size))).mono fun e w' ⟨h1, h2⟩ => ⟨h1, hV.trans (h2.mono hV.size)⟩
                      have K0 := kt _ g0.drew
                      have hRk := fun V hV => (s8c.go (V' := V) hV).row
                      go_upto_region 15 with fail
                      go_region_held3 (fun w' => w'.cell? ⟨TB, 0, none⟩ = some (.int .i64 t.kind) ∧ w'.cell? ⟨TB, 1, none⟩ = some (.string (bs t.txt)) ∧ w'.cell? ⟨TB, 2, none⟩ = some (.int .i64 t.val.kind) ∧ w'.cell? ⟨TB, 3, none⟩ = some (.slice sa t.val.shape.length sc) ∧ w'.cell? ⟨TB, 4, none⟩ = some (.slice se t.val.elems.length sec))
                        (first | with_reducible exact K0 | with_reducible exact kt _ g1 | (refine ktO v1 _ g1 ?_; (repeat (with_reducible refine Oth.put ?_ _ _)); with_reducible exact Oth.refl _ _) | fail)
                        (first | (go_at_call 158; refine (rT _ g0.drew).mono ?_; rintro e v1 ⟨rfl, g1⟩; have hR3 := hRk _ g1; obtain ⟨⟨r0, r1, r2, r3, r4⟩, ⟨q0, q1, q2, q3, q4⟩⟩ := fn_facts hR3) | fail)
                      go_wp2_with fail
                      refine bodyPost_ret (results_row_tmp rfl _ _ w.heap.size _ _ _ _ rfl (fn_set (w := v1) hR3 (.int .i64 4) (.int .i64 bt) (.int .i64 0) (.string ⟨#[]⟩) (.slice none 0 0)) Tryz.underlying33 rfl (by kernel_rfl)) rfl ?_
                      have fin : ∀ wf, Oth w.heap.size v1 wf → FunA w wf rb fv ins bad (.slice (some ⟨b, o, none⟩) (m + 1) c) l law (.returned (.tuple #[.agg #[.int .i64 4, .int .i64 bt, .int .i64 0, .string ⟨#[]⟩, .slice none 0 0], .slice (some ⟨b, o, none⟩) m2 c])) := fun wf ho => func_some hl.out (ho.pr (hg.pr.below (s8c.bl.trans (g1.mono s8c.bl.size))) (by omega)) (ho.fr (Fr.of_below (s8c.bl.trans (g1.mono s8c.bl.size))) (Nat.le_refl _)) (Hs3.out hx) (Hpre.out _ _ hl.out)
                      refine fin _ ?_
                      repeat (with_reducible refine Oth.put ?_ _ _)
                      exact Oth.refl _ _
                    | false =>
                      have hl5 := hid (hl4.out.trans (if_neg (by simp)))
                      clear hl4
                      go_upto_region 16 with fail
                      go_cut [140] from 198 (fun s140 W => s140 = .bool C16 ∧ FunSt w TB t (.slice sa t.val.shape.length sc) (.slice se t.val.elems.length sec) W)
                      case first =>
                        by_cases hx : 1 < m
                        · have hxi : (1 : Int) < (m : Int) := by omega
                          have hw := hw1 (by omega)
                          have hwz := hw2 hx
                          obtain ⟨a0, a1, a2, a3, a4⟩ := hTu.below s8c.bl
                          go_wp2_with fail
                          refine (hisT _).mono ?_
                          rintro e w6 ⟨rfl, b6⟩
                          have s6 := s8c.go b6
                          clear a0 a1 a2 a3 a4
                          cases DT with
                          | false =>
                            have hv : C16 = false := by rw [HC16.out]; unfold outB; simp
                            subst hv
                            go_wp2_with fail
                            go_meet
                            case rel => exact ⟨rfl, s6⟩
                          | true =>
                            obtain ⟨⟨d0, d1, d2, d3, d4⟩, ⟨y0, y1, y2, y3, y4⟩⟩ := fn_facts s6.tok
                            go_wp2_with fail
                            refine (hbt _ s6.bl).mono ?_
                            rintro e w7 ⟨rfl, b7⟩
                            have s7 := s6.go b7
                            clear d0 d1 d2 d3 d4 y0 y1 y2 y3 y4
                            by_cases hy : 0 < bt
                            · obtain ⟨a0, a1, a2, a3, a4⟩ := hTz.below s7.bl
                              go_wp2_with fail
                              refine (hbz _ s7.bl).mono ?_
                              rintro e w8 ⟨rfl, b8⟩
                              have s8 := s7.go b8
                              clear a0 a1 a2 a3 a4
                              go_wp2_with fail
                              go_meet
                              case rel => exact ⟨by rw [HC16.out]; unfold outB; simp [hx, hy], s8⟩
                            · have hv : C16 = false := by rw [HC16.out]; unfold outB; simp [hy]
                              subst hv
                              go_wp2_with fail
                              go_meet
                              case rel => exact ⟨by simp, s7⟩
                        · have hxi : ¬ (1 : Int) < (m : Int) := by omega
                          have hv : C16 = false := by rw [HC16.out]; unfold outB; simp [hx]
                          subst hv
                          go_wp2_with fail
                          go_meet
                          case rel => exact ⟨rfl, s8c⟩
                      case rest =>
                        obtain ⟨rfl, s9c⟩ := hcut
                        clear s8c
                        cases C16 with
                        | true =>
                          have hl := hid (hl5.out.trans (if_pos rfl))
                          have hx : 1 < m := by have := HC16.out; unfold outB at this; simp at this; exact this.1.1.1
                          have hw := hw1 (by omega)
                          have hwz := hw2 hx
                          have g0 := Below.refl wc.heap.size wc
                          have kt : ∀ V, Below wc.heap.size wc V → V.cell? ⟨TB, 0, none⟩ = some (.int .i64 t.kind) ∧ V.cell? ⟨TB, 1, none⟩ = some (.string (bs t.txt)) ∧ V.cell? ⟨TB, 2, none⟩ = some (.int .i64 t.val.kind) ∧ V.cell? ⟨TB, 3, none⟩ = some (.slice sa t.val.shape.length sc) ∧ V.cell? ⟨TB, 4, none⟩ = some (.slice se t.val.elems.length sec) := fun V hV => (fn_facts (s9c.go hV).tok).1
                          have ktO : ∀ V W, Below wc.heap.size wc V → Oth w.heap.size V W → W.cell? ⟨TB, 0, none⟩ = some (.int .i64 t.kind) ∧ W.cell? ⟨TB, 1, none⟩ = some (.string (bs t.txt)) ∧ W.cell? ⟨TB, 2, none⟩ = some (.int .i64 t.val.kind) ∧ W.cell? ⟨TB, 3, none⟩ = some (.slice sa t.val.shape.length sc) ∧ W.cell? ⟨TB, 4, none⟩ = some (.slice se t.val.elems.length sec) := fun V W hV ho => (fn_facts ((s9c.go hV).oth ho)).1
                          have rT : ∀ V, Below wc.heap.size wc V → Calls Tryz.prog 158 #[.agg #[.int .i64 t.kind, .string (bs t.txt), .int .i64 t.val.kind, .slice sa t.val.shape.length sc, .slice se t.val.elems.length sec]] V fun e w' => e = .returned (.int .i64 bt) ∧ Below wc.heap.size wc w' := fun V hV => (hbt V (s9c.bl.trans (hV.mono s9c.bl.size))).mono fun e w' ⟨h1, h2⟩ => ⟨h1, hV.trans (h2.mono hV.size)⟩
                          have K0 := kt _ g0.drew
                          have hRk := fun V hV => (s9c.go (V' := V) hV).row
                          have kzT := hTz.below s9c.bl
                          have kz : ∀ V, Below wc.heap.size wc V → V.cell? ⟨b, o + m2 * 5, none⟩ = some (.int .i64 z.kind) ∧ V.cell? ⟨b, o + m2 * 5 + 1, none⟩ = some (.string (bs z.txt)) ∧ V.cell? ⟨b, o + m2 * 5 + 2, none⟩ = some (.int .i64 z.val.kind) ∧ V.cell? ⟨b, o + m2 * 5 + 3, none⟩ = some (.slice za z.val.shape.length zc) ∧ V.cell? ⟨b, o + m2 * 5 + 4, none⟩ = some (.slice ze z.val.elems.length zec) := fun V hV => kzT.below hV
                          have kzO : ∀ V W, Below wc.heap.size wc V → Oth w.heap.size V W → W.cell? ⟨b, o + m2 * 5, none⟩ = some (.int .i64 z.kind) ∧ W.cell? ⟨b, o + m2 * 5 + 1, none⟩ = some (.string (bs z.txt)) ∧ W.cell? ⟨b, o + m2 * 5 + 2, none⟩ = some (.int .i64 z.val.kind) ∧ W.cell? ⟨b, o + m2 * 5 + 3, none⟩ = some (.slice za z.val.shape.length zc) ∧ W.cell? ⟨b, o + m2 * 5 + 4, none⟩ = some (.slice ze z.val.elems.length zec) := fun V W hV ho => by
                            obtain ⟨a0, a1, a2, a3, a4⟩ := kz V hV
                            have hbw : b < w.heap.size := World.block_lt_of_cell? w _ hTz.1
                            have hh := ho.block b (by omega)
                            exact ⟨(World.cell?_of_block (w := V) hh).trans a0, (World.cell?_of_block (w := V) hh).trans a1, (World.cell?_of_block (w := V) hh).trans a2, (World.cell?_of_block (w := V) hh).trans a3, (World.cell?_of_block (w := V) hh).trans a4⟩
                          have rZ : ∀ V, Below wc.heap.size wc V → Calls Tryz.prog 158 #[.agg #[.int .i64 z.kind, .string (bs z.txt), .int .i64 z.val.kind, .slice za z.val.shape.length zc, .slice ze z.val.elems.length zec]] V fun e w' => e = .returned (.int .i64 bz) ∧ Below wc.heap.size wc w' := fun V hV => (hbz V (s9c.bl.trans (hV.mono s9c.bl.size))).mono fun e w' ⟨h1, h2⟩ => ⟨h1, hV.trans (h2.mono hV.size)⟩
                          have K1 := kz _ g0.drew
                          clear kzT
                          go_upto_region 17 with fail
                          go_region_held3 (fun w' => (w'.cell? ⟨b, o + m2 * 5, none⟩ = some (.int .i64 z.kind) ∧ w'.cell? ⟨b, o + m2 * 5 + 1, none⟩ = some (.string (bs z.txt)) ∧ w'.cell? ⟨b, o + m2 * 5 + 2, none⟩ = some (.int .i64 z.val.kind) ∧ w'.cell? ⟨b, o + m2 * 5 + 3, none⟩ = some (.slice za z.val.shape.length zc) ∧ w'.cell? ⟨b, o + m2 * 5 + 4, none⟩ = some (.slice ze z.val.elems.length zec)) ∧ w'.cell? ⟨TB, 0, none⟩ = some (.int .i64 t.kind) ∧ w'.cell? ⟨TB, 1, none⟩ = some (.string (bs t.txt)) ∧ w'.cell? ⟨TB, 2, none⟩ = some (.int .i64 t.val.kind) ∧ w'.cell? ⟨TB, 3, none⟩ = some (.slice sa t.val.shape.length sc) ∧ w'.cell? ⟨TB, 4, none⟩ = some (.slice se t.val.elems.length sec))
                            (first | with_reducible exact ⟨K1, K0⟩ | with_reducible exact ⟨kz _ g2, kt _ g2⟩ | with_reducible exact ⟨kz _ g1, kt _ g1⟩ | (refine ⟨kzO v2 _ g2 ?_, ktO v2 _ g2 ?_⟩ <;> ((repeat (with_reducible refine Oth.put ?_ _ _)); with_reducible exact Oth.refl _ _)) | fail)
                            (first | (go_at_call 158; refine (rT v1 g1).mono ?_; rintro e v2 ⟨rfl, g2⟩; have hR4 := hRk _ g2; obtain ⟨⟨r0, r1, r2, r3, r4⟩, ⟨q0, q1, q2, q3, q4⟩⟩ := fn_facts hR4) | (go_at_call 158; refine (rZ _ g0.drew).mono ?_; rintro e v1 ⟨rfl, g1⟩) | fail)
                          all_goals go_wp2_with fail
                          all_goals refine bodyPost_ret (results_row_tmp rfl _ _ w.heap.size _ _ _ _ rfl (fn_set (w := v2) hR4 (.int .i64 5) (.int .i64 bz) (.int .i64 bt) (.string ⟨#[]⟩) (.slice none 0 0)) Tryz.underlying33 rfl (by kernel_rfl)) rfl ?_
                          all_goals have fin : ∀ wf, Oth w.heap.size v2 wf → FunA w wf rb fv ins bad (.slice (some ⟨b, o, none⟩) (m + 1) c) l law (.returned (.tuple #[.agg #[.int .i64 5, .int .i64 bz, .int .i64 bt, .string ⟨#[]⟩, .slice none 0 0], .slice (some ⟨b, o, none⟩) m2 c])) := fun wf ho => func_some hl.out (ho.pr (hg.pr.below (s9c.bl.trans (g2.mono s9c.bl.size))) (by omega)) (ho.fr (Fr.of_below (s9c.bl.trans (g2.mono s9c.bl.size))) (Nat.le_refl _)) (Hs3.out hx) (Hpre.out _ _ hl.out)
                          all_goals refine fin _ ?_
                          all_goals repeat (with_reducible refine Oth.put ?_ _ _)
                          all_goals exact Oth.refl _ _
                        | false =>
                          have hl6 := hid (hl5.out.trans (if_neg (by simp)))
                          clear hl5
                          go_upto_region 18 with fail
                          go_cut [178] from 198 (fun s178 W => s178 = .bool C18 ∧ FunSt w TB t (.slice sa t.val.shape.length sc) (.slice se t.val.elems.length sec) W)
                          case first =>
                            obtain ⟨⟨d0, d1, d2, d3, d4⟩, ⟨y0, y1, y2, y3, y4⟩⟩ := fn_facts s9c.tok
                            by_cases hx : t.kind = 3
                            · have hxi : (t.kind == 3) = true := by simp [hx]
                              have hv := hid (show C18 = decide (0 < fg) by rw [HC18.out]; simp [hx])
                              clear hx
                              go_wp2_with fail
                              refine (hfn _ s9c.bl).mono ?_
                              rintro e w6 ⟨rfl, b6⟩
                              have s6 := s9c.go b6
                              clear d0 d1 d2 d3 d4 y0 y1 y2 y3 y4
                              go_wp2_with fail
                              go_meet
                              case rel => exact ⟨by rw [hv.out], s6⟩
                            · have hxi : (t.kind == 3) = false := by simpa using hx
                              have hv : C18 = false := by rw [HC18.out]; simp [hx]
                              subst hv
                              go_wp2_with fail
                              go_meet
                              case rel => exact ⟨rfl, s9c⟩
                          case rest =>
                            obtain ⟨rfl, s10⟩ := hcut
                            clear s9c
                            cases C18 with
                            | true =>
                              have hl := hid (hl6.out.trans (if_pos rfl))
                              have g0 := Below.refl wc.heap.size wc
                              have rF : ∀ V, Below wc.heap.size wc V → Calls Tryz.prog 159 #[.string (bs t.txt)] V fun e w' => e = .returned (.int .i64 fg) ∧ Below wc.heap.size wc w' := fun V hV => (hfn V (s10.bl.trans (hV.mono s10.bl.size))).mono fun e w' ⟨h1, h2⟩ => ⟨h1, hV.trans (h2.mono hV.size)⟩
                              have kt : ∀ V, Below wc.heap.size wc V → V.cell? ⟨TB, 1, none⟩ = some (.string (bs t.txt)) := fun V hV => (fn_facts (s10.go hV).tok).1.2.1
                              have ktO : ∀ V W, Below wc.heap.size wc V → Oth w.heap.size V W → W.cell? ⟨TB, 1, none⟩ = some (.string (bs t.txt)) := fun V W hV ho => (fn_facts ((s10.go hV).oth ho)).1.2.1
                              have K0 := kt _ g0.drew
                              have hRk := fun V hV => (s10.go (V' := V) hV).row
                              go_upto_region 19 with fail
                              go_region_held3 (fun w' => w'.cell? ⟨TB, 1, none⟩ = some (.string (bs t.txt)))
                                (first | with_reducible exact K0 | with_reducible exact kt _ g1 | (refine ktO v1 _ g1 ?_; (repeat (with_reducible refine Oth.put ?_ _ _)); with_reducible exact Oth.refl _ _) | fail)
                                (first | (go_at_call 159; refine (rF _ g0.drew).mono ?_; rintro e v1 ⟨rfl, g1⟩; have hR3 := hRk _ g1; obtain ⟨⟨r0, r1, r2, r3, r4⟩, ⟨q0, q1, q2, q3, q4⟩⟩ := fn_facts hR3) | fail)
                              go_wp2_with fail
                              refine bodyPost_ret (results_row_tmp rfl _ _ w.heap.size _ _ _ _ rfl (fn_set (w := v1) hR3 (.int .i64 1) (.int .i64 fg) (.int .i64 0) (.string ⟨#[]⟩) (.slice none 0 0)) Tryz.underlying33 rfl (by kernel_rfl)) rfl ?_
                              have fin : ∀ wf, Oth w.heap.size v1 wf → FunA w wf rb fv ins bad (.slice (some ⟨b, o, none⟩) (m + 1) c) l law (.returned (.tuple #[.agg #[.int .i64 1, .int .i64 fg, .int .i64 0, .string ⟨#[]⟩, .slice none 0 0], .slice (some ⟨b, o, none⟩) m c])) := fun wf ho => func_some hl.out (ho.pr (hg.pr.below (s10.bl.trans (g1.mono s10.bl.size))) (by omega)) (ho.fr (Fr.of_below (s10.bl.trans (g1.mono s10.bl.size))) (Nat.le_refl _)) Hs1.out (Hpre.out _ _ hl.out)
                              refine fin _ ?_
                              repeat (with_reducible refine Oth.put ?_ _ _)
                              exact Oth.refl _ _
                            | false =>
                              have hl7 := hid (hl6.out.trans (if_neg (by simp)))
                              clear hl6
                              have hfail := fail_any wc rb fv ins bad (hg.pr.below s10.bl)
                              go_upto_region 20 with fail
                              go_wp2_with fail
                              refine hfail.mono ?_
                              rintro e w6 ⟨rfl, hp6, hf6⟩
                              have hR6 := (hf6.block w.heap.size (Array.getElem?_eq_some_iff.1 s10.row).1 (by omega)).trans s10.row
                              have hF6 := (Fr.of_below s10.bl).trans hf6
                              clear hfail
                              go_wp2_with (refine wpList_store_row rfl 33 _ _ rfl w.heap.size _ rfl rfl 33 _ hR6 (by kernel_rfl) (by kernel_rfl) (by kernel_rfl) ?_; go_simp)
                              refine bodyPost_ret (results_row_tmp rfl _ _ w.heap.size _ _ _ _ rfl (setRow_heap w6 w.heap.size _ #[.int .i64 0, .int .i64 0, .int .i64 0, .string ⟨#[]⟩, .slice none 0 0] _ _ hR6) Tryz.underlying33 rfl (by kernel_rfl)) rfl ?_
                              exact func_none hl7.out (((Oth.refl _ _).row _).pr hp6 (by omega)) (((Oth.refl _ _).row _).fr hF6 (Nat.le_refl _))
end Go.Proofs.YthlingdlehdlhaaGreatDoor.Par
