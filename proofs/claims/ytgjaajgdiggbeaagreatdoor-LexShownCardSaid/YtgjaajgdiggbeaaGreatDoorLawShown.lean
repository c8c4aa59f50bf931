/- LexShown: the walk of the law. -/
import Derived.Test.YtgjaajgdiggbeaaGreatDoorBackLaw
import Derived.Test.YtgjaajgdiggbeaaGreatDoorLAlive
import Derived.Test.YtgjaajgdiggbeaaGreatDoorRTk
namespace Go.Proofs.YtgjaajgdiggbeaaGreatDoor
open Go.RowKit Go.Shelf
set_option linter.unusedVariables false
set_option linter.unusedSimpArgs false

theorem tok63 : (tokensOf [63]).2 = 170 := by decide +kernel
/-- A token by itself, shown: a sign that it has no text, or told again. -/
theorem tok_told {t : Tok} (hr : Rng t.val.elems) (h : (t.kind = 1 ∧ t.txt = []) ∨ (t.kind = 2 ∧ t.val = noArr) ∨ (t.kind = 3 ∧ t.txt ∈ glyChars ∧ t.val = noArr)) :
    (shwOf t = [63] ∧ ¬ Good t) ∨ (Good t ∧ shwOf t = shw t ∧ shwOf t ≠ [63] ∧ tokensOf (shwOf t) = ([t], 0)) := by
  by_cases hg : Good t
  · right
    have h1 : tokensOf (shwOf t) = ([t], 0) := by
      have := tokens_shown (T := [t]) ⟨hg, fun u s e => (by cases e), trivial⟩ (by simp)
      rw [show shText [t] = shw t from List.append_nil _] at this
      rw [hg.shwOf]; exact this
    refine ⟨hg, hg.shwOf, fun e => ?_, h1⟩
    rw [e] at h1
    have := tok63
    rw [h1] at this
    simp at this
  · left
    refine ⟨?_, hg⟩
    have hc : chosen t = [] := by
      unfold chosen
      rcases h with ⟨k, tx⟩ | ⟨k, hv⟩ | ⟨k, hm, hv⟩
      · rw [if_pos k]
        unfold valTxt
        rw [if_neg (fun hc => hg (.inl ⟨k, tx, hc, hr⟩))]
      · rw [if_neg (by omega), if_neg]
        rintro (⟨-, hn⟩ | ⟨k3, -⟩)
        · exact hg (.inr (.inl ⟨k, hn, hv⟩))
        · omega
      · exact absurd (.inr (.inr ⟨k, hm, hv⟩)) hg
    unfold shwOf
    rw [if_pos hc]

def glyRn : List Int := [43, 45, 215, 247, 124, 8970, 8968, 42, 61, 8800, 60, 8804, 8805, 62, 8743, 8744, 126, 9076, 44, 9021, 9033, 9075, 8802, 9035, 9042, 8593, 8595, 8714, 47, 92, 8728, 46, 8592, 40, 41, 91, 93, 123, 125, 59, 58, 9082, 9077, 8711, 8900]
set_option maxRecDepth 100000 in
theorem gly_runes : Conv.runesFrom (bs glyphsL) (bs glyphsL).size 0 #[] = (glyRn.map (Value.int .i32)).toArray := by kernel_rfl
theorem gly_enc : ∀ k, k < 45 → Lib.encodeRune (glyRn[k]?.getD 0) = glyChars.getD k [] ∧ glyChars.getD k [] ∈ glyChars := by decide +kernel
theorem gly_utf : ∀ k, k < 45 → Utf8.encode (glyRn[k]?.getD 0) = bs (glyChars.getD k []) := by decide +kernel
/-- A piece of a slice of tokens. -/
theorem IsToks.sub {w : World} {b o n c : Nat} {T : List Tok} (h : IsToks w (.slice (some ⟨b, o, none⟩) n c) T) {i j : Nat} (hij : i ≤ j) (hj : j ≤ n) : IsToks w (.slice (some ⟨b, o + i * 5, none⟩) (j - i) (c - i)) ((T.take j).drop i) := by
  obtain ⟨a, cap, e, h1, h2, h3, h4⟩ := h
  simp only [Value.slice.injEq] at e
  obtain ⟨rfl, rfl, rfl⟩ := e
  have hl : ((T.take j).drop i).length = j - i := by rw [List.length_drop, List.length_take]; omega
  refine ⟨some ⟨b, o + i * 5, none⟩, c - i, by rw [hl], by rw [hl]; omega, by omega, by simp, fun k t hk => ?_⟩
  rw [List.getElem?_drop, List.getElem?_take] at hk
  split at hk
  · obtain ⟨b', o', vs, ve, e1, e2, e3⟩ := h4 _ t hk
    simp only [Option.some.injEq, Addr.mk.injEq, and_true] at e1
    obtain ⟨rfl, rfl⟩ := e1
    exact ⟨b, o + i * 5, vs, ve, rfl, by rw [show o + i * 5 + k * 5 = o + (i + k) * 5 by omega]; exact e2, e3⟩
  · cases hk
theorem toks3_lit {w : World} {b : Nat} {T : TypeId} {t0 t1 t2 : Tok} {vs ve : Value} (h : w.heap[b]? = some (.cells #[.int .i64 t0.kind, .string (bs t0.txt), .int .i64 0, .slice none 0 0, .slice none 0 0, .int .i64 t1.kind, .string (bs t1.txt), .int .i64 0, .slice none 0 0, .slice none 0 0, .int .i64 t2.kind, .string (bs t2.txt), .int .i64 t2.val.kind, vs, ve] T))
    (h0 : t0.val = noArr) (h1 : t1.val = noArr) (i1 : Ints w vs t2.val.shape) (i2 : Ints w ve t2.val.elems) (i3 : Rng t2.val.elems) : IsToks w (.slice (some ⟨b, 0, none⟩) 3 3) [t0, t1, t2] := by
  have hno : Rng noArr.elems := by intro i hi; simp [noArr] at hi
  refine ⟨some ⟨b, 0, none⟩, 3, rfl, Nat.le_refl _, by decide, by simp, fun k u hk => ?_⟩
  match k with
  | 0 =>
    obtain rfl : t0 = u := by simpa using hk
    refine ⟨b, 0, .slice none 0 0, .slice none 0 0, rfl, ⟨?_, ?_, ?_, ?_, ?_⟩, by rw [h0]; exact Ints.nil _, by rw [h0]; exact Ints.nil _, by rw [h0]; exact hno⟩
    all_goals rw [Lib.cell_of_heap h]; first | rfl | (rw [h0]; rfl)
  | 1 =>
    obtain rfl : t1 = u := by simpa using hk
    refine ⟨b, 0, .slice none 0 0, .slice none 0 0, rfl, ⟨?_, ?_, ?_, ?_, ?_⟩, by rw [h1]; exact Ints.nil _, by rw [h1]; exact Ints.nil _, by rw [h1]; exact hno⟩
    all_goals rw [Lib.cell_of_heap h]; first | rfl | (rw [h1]; rfl)
  | 2 =>
    obtain rfl : t2 = u := by simpa using hk
    refine ⟨b, 0, vs, ve, rfl, ⟨?_, ?_, ?_, ?_, ?_⟩, i1, i2, i3⟩
    all_goals rw [Lib.cell_of_heap h]; rfl
  | k + 3 => simp at hk
theorem shown_len {t : Tok} (h : t.txt.length ≤ 1000) (hr : Rng t.val.elems) (hl : t.val.elems.length ≤ 1000) : (shwOf t).length ≤ 300000 := by
  have hv : (valTxt t.val).length ≤ 200000 := by
    unfold valTxt
    split
    · rename_i hc
      obtain ⟨h1, -, h2, -⟩ := canV_parts hc
      unfold textRes
      rw [if_pos h1, h2]
      unfold elemText
      split
      · have h3 := subst_length 39 39 (encs t.val.elems)
        have h4 := encs_length t.val.elems
        simp only [List.length_cons, List.length_append, List.length_nil]
        omega
      · split
        · simp
        · have := join_le 22 (t.val.elems.map dig) [32] (by
            intro y hy
            obtain ⟨n, hn, rfl⟩ := List.mem_map.1 hy
            obtain ⟨j, hj, rfl⟩ := List.getElem_of_mem hn
            have := hr j hj
            rw [List.getElem?_eq_getElem hj, Option.getD_some] at this
            exact dig_length _ this.1 this.2)
          simp only [List.length_map, List.length_cons, List.length_nil] at this
          omega
    · simp
  have hch : (chosen t).length ≤ 200000 := by
    unfold chosen
    split
    · omega
    · split
      · omega
      · simp
  unfold shwOf
  split
  · simp
  · omega
theorem gly_conv (w : World) : (convert 9 47 (.string (bs glyphsL))).run Tryz.prog w = .ok (.slice (some ⟨w.heap.size, 0, none⟩) 45 (grownCap w 45 0 21))
    (w.drew.alloc (.cells ((glyRn.map (Value.int .i32)).toArray ++ Array.replicate (grownCap w 45 0 21 - 45) (.int .i32 0)) 21)) := by
  have := run_runes_of_string (P := Tryz.prog) w 9 47 21 (bs glyphsL) Tryz.underlying9 Tryz.underlying47 Tryz.underlying21 (by rw [gly_runes]; decide)
  rw [gly_runes] at this
  exact this
set_option maxRecDepth 100000 in
set_option maxHeartbeats 8000000 in
theorem shown_walk (v : Value) (x : Arr) (s : ByteArray) (n : Int) (w : World) (hG : Glob w) (hT : Tabs w) (hx : IsArr w v x) (hs0 : s.size ≤ 9223372036854775807) (hn0 : 0 ≤ n) (hn1 : n ≤ 255) :
    Calls Tryz.prog 4 #[v, .string s, .int .u8 n] w fun e w' => e = .returned (.bool true) ∧ Below w.heap.size w w' := by
  obtain ⟨vs, ve, rfl, hs, he, hr⟩ := hx
  obtain ⟨as_, cs, rfl, s1, s2, s3, -⟩ := hs.parts
  obtain ⟨ae, ce, rfl, e1, e2, e3, -⟩ := he.parts
  have hsz : (s.size : Int) ≤ 9223372036854775807 := by omega
  have hA0 := heap_alloc_new w (.cells #[.int .i64 x.kind, .slice as_ x.shape.length cs, .slice ae x.elems.length ce] 25)
  have hB0 := (Below.refl _ w).alloc (Nat.le_refl _) (.cells #[.int .i64 x.kind, .slice as_ x.shape.length cs, .slice ae x.elems.length ce] 25)
  have hG0 := hG.alloc (.cells #[.int .i64 x.kind, .slice as_ x.shape.length cs, .slice ae x.elems.length ce] 25)
  go_enter Tryz.func4, Tryz.ntmps4
  go_wp2_with fail
  refine (lalive_any _ hG0).mono ?_
  rintro e w1 ⟨rfl, b1⟩
  have hA1 := (b1.block w.heap.size (by simp)).trans hA0
  have B1 := hB0.trans (b1.mono hB0.size)
  have hG1 := hG0.below b1
  have z1 : w.heap.size < w1.heap.size := (Array.getElem?_eq_some_iff.1 hA1).1
  obtain ⟨c0, c1, c2, f0, f1, f2⟩ := zero_facts hA1
  clear hA0 hB0 hG0 b1
  by_cases hn : 1000 < x.elems.length
  · have d1 : decide (1000 < x.elems.length) = true := by simpa using hn
    have d2 : decide ((1000 : Int) < (x.elems.length : Int)) = true := by simp; omega
    clear hn
    go_wp2_with fail
    go_ret
    exact ⟨rfl, B1⟩
  have d1 : decide (1000 < x.elems.length) = false := by simpa using hn
  have d2 : decide ((1000 : Int) < (x.elems.length : Int)) = false := by simp; omega
  by_cases hsl : 100 < s.size
  · have d3 : decide (100 < s.size) = true := by simpa using hsl
    have d4 : decide ((100 : Int) < (s.size : Int)) = true := by simp; omega
    clear hsl
    go_wp2_with fail
    go_ret
    exact ⟨rfl, B1⟩
  have d3 : decide (100 < s.size) = false := by simpa using hsl
  have d4 : decide ((100 : Int) < (s.size : Int)) = false := by simp; omega
  have Hs := hid (show s.size ≤ 100 by omega)
  clear hn hsl
  go_wp2_with fail
  refine (rglyphs_any _).mono ?_
  rintro e w2 ⟨rfl, hw⟩
  obtain rfl := hw.symm
  go_wp2_with fail
  rw [gly_conv]
  obtain ⟨O, hO⟩ : ∃ O, O = (Obj.cells ((glyRn.map (Value.int .i32)).toArray ++ Array.replicate (grownCap w1 45 0 21 - 45) (.int .i32 0)) 21) := ⟨_, rfl⟩
  rw [← hO]
  have hR : (w1.drew.alloc O).heap[w1.heap.size]? = some O := heap_alloc_new w1.drew O
  have B2 := B1.drew.alloc B1.size O
  have g12 : w1.heap.size < (w1.drew.alloc O).heap.size := (Array.getElem?_eq_some_iff.1 hR).1
  obtain ⟨w2, hw2⟩ : ∃ w2, w2 = w1.drew.alloc O := ⟨_, rfl⟩
  rw [← hw2] at hR B2 g12 ⊢
  have hA2 : w2.heap[w.heap.size]? = some (.cells #[.int .i64 x.kind, .slice as_ x.shape.length cs, .slice ae x.elems.length ce] 25) := by
    rw [hw2]; exact (heap_alloc_old w1.drew O z1).trans hA1
  obtain ⟨m, rfl⟩ : ∃ m : Nat, n = m := ⟨n.toNat, by omega⟩
  obtain ⟨k, hk⟩ : ∃ k : Nat, m % 45 = k := ⟨_, rfl⟩
  have hk45 : k < 45 := by omega
  have hwn : (IntKind.i64.wrap (m : Int)).tmod 45 = (k : Int) := by rw [show IntKind.i64.wrap (m : Int) = m from IntWalk.i64_in _ (by omega), Int.tmod_eq_emod_of_nonneg (by omega)]; omega
  have hwn2 : ((m : Int) % 45) = (k : Int) := by omega
  have hki : (k : Int) < 45 := by omega
  have hki0 : (0 : Int) ≤ (k : Int) := by omega
  have hcell : w2.cell? ⟨w1.heap.size, k, none⟩ = some (.int .i32 (glyRn[k]?.getD 0)) := by
    rw [Lib.cell_of_heap (hR.trans (by rw [hO]))]
    rw [Array.getElem?_append_left (by simp [glyRn]; omega)]
    have hl : k < glyRn.length := by simp [glyRn]; omega
    simp [hl]
  obtain ⟨hen, hme⟩ := gly_enc k hk45
  clear hO hw2 hR hA1 B1 hG1 c0 c1 c2 f0 f1 f2 z1
  have hG2 := hG.below B2
  have keep : ∀ V, Below w2.heap.size w2 V → V.cell? ⟨w.heap.size, 0, none⟩ = some (.int .i64 x.kind) ∧ V.cell? ⟨w.heap.size, 1, none⟩ = some (.slice as_ x.shape.length cs) ∧ V.cell? ⟨w.heap.size, 2, none⟩ = some (.slice ae x.elems.length ce) ∧ V.cell? ⟨w1.heap.size, k, none⟩ = some (.int .i32 (glyRn[k]?.getD 0)) := fun V h => by
    obtain ⟨k0, k1, k2, -⟩ := zero_facts ((h.block w.heap.size (Array.getElem?_eq_some_iff.1 hA2).1).trans hA2)
    exact ⟨k0, k1, k2, (h.cell (World.block_lt_of_cell? w2 _ hcell)).trans hcell⟩
  have g0 := Below.refl w2.heap.size w2
  have K0 := keep _ g0.drew
  have rN : ∀ V, Below w2.heap.size w2 V → Calls Tryz.prog 22 #[.string s] V fun e w' => e = .returned (.agg #[.int .i64 2, .string s, .int .i64 0, .slice none 0 0, .slice none 0 0]) ∧ Below w2.heap.size w2 w' := fun V hg => (lwname_any s V).mono fun e w' h => ⟨h.1, hg.trans (h.2.mono hg.size)⟩
  have rG : ∀ V t, Below w2.heap.size w2 V → Calls Tryz.prog 23 #[.string t] V fun e w' => e = .returned (.agg #[.int .i64 3, .string t, .int .i64 0, .slice none 0 0, .slice none 0 0]) ∧ Below w2.heap.size w2 w' := fun V t hg => (lwglyph_any t V).mono fun e w' h => ⟨h.1, hg.trans (h.2.mono hg.size)⟩
  have rV : ∀ V, Below w2.heap.size w2 V → Calls Tryz.prog 18 #[.agg #[.int .i64 x.kind, .slice as_ x.shape.length cs, .slice ae x.elems.length ce]] V fun e w' => e = .returned (.agg #[.int .i64 1, .string ⟨#[]⟩, .int .i64 x.kind, .slice as_ x.shape.length cs, .slice ae x.elems.length ce]) ∧ Below w2.heap.size w2 w' := fun V hg => (lwvalue_any _ _ _ _ _ _ _ V).mono fun e w' h => ⟨h.1, hg.trans (h.2.mono hg.size)⟩
  go_wp2_with fail
  go_region_held3 (fun w' => w'.cell? ⟨w.heap.size, 0, none⟩ = some (.int .i64 x.kind) ∧ w'.cell? ⟨w.heap.size, 1, none⟩ = some (.slice as_ x.shape.length cs) ∧ w'.cell? ⟨w.heap.size, 2, none⟩ = some (.slice ae x.elems.length ce) ∧ w'.cell? ⟨w1.heap.size, k, none⟩ = some (.int .i32 (glyRn[k]?.getD 0)))
    (first
      | with_reducible exact K0
      | with_reducible exact keep _ g1
      | with_reducible exact keep _ g2
      | with_reducible exact keep _ g3
      | with_reducible exact keep _ (g3.alloc g3.size _) | fail)
    (first
      | (have hh := g2; go_at_call 18; refine (rV _ g2).mono ?_; rintro e v3 ⟨rfl, g3⟩)
      | (have hh := g1; go_at_call 23; refine (rG _ _ g1).mono ?_; rintro e v2 ⟨rfl, g2⟩)
      | (go_at_call 22; refine (rN _ g0.drew).mono ?_; rintro e v1 ⟨rfl, g1⟩)
      | fail)
  obtain ⟨l, rfl⟩ : ∃ l, s = bs l := ⟨s.data.toList, rfl⟩
  obtain ⟨g, hg⟩ : ∃ g, g = glyChars.getD k [] := ⟨_, rfl⟩
  have hut := gly_utf k hk45
  rw [← hg] at hut hme
  rw [hut]
  obtain ⟨O3, hO3⟩ : ∃ O3, O3 = (Obj.cells #[.int .i64 2, .string (bs l), .int .i64 0, .slice none 0 0, .slice none 0 0, .int .i64 3, .string (bs g), .int .i64 0, .slice none 0 0, .slice none 0 0, .int .i64 1, .string ⟨#[]⟩, .int .i64 x.kind, .slice as_ x.shape.length cs, .slice ae x.elems.length ce] 41) := ⟨_, rfl⟩
  rw [← hO3]
  have hH : (v3.alloc O3).heap[v3.heap.size]? = some (.cells #[.int .i64 2, .string (bs l), .int .i64 0, .slice none 0 0, .slice none 0 0, .int .i64 3, .string (bs g), .int .i64 0, .slice none 0 0, .slice none 0 0, .int .i64 1, .string ⟨#[]⟩, .int .i64 x.kind, .slice as_ x.shape.length cs, .slice ae x.elems.length ce] 41) := by rw [← hO3]; exact heap_alloc_new v3 O3
  have B4 := B2.trans ((g3.alloc g3.size O3).mono B2.size)
  obtain ⟨w4, hw4⟩ : ∃ w4, w4 = v3.alloc O3 := ⟨_, rfl⟩
  obtain ⟨b4, hb4⟩ : ∃ b4, b4 = v3.heap.size := ⟨_, rfl⟩
  rw [← hw4] at B4
  rw [← hw4, ← hb4] at hH ⊢
  have hT4 : IsToks w4 (.slice (some ⟨b4, 0, none⟩) 3 3) [⟨2, l, noArr⟩, ⟨3, g, noArr⟩, ⟨1, [], x⟩] := toks3_lit (t0 := ⟨2, l, noArr⟩) (t1 := ⟨3, g, noArr⟩) (t2 := ⟨1, [], x⟩) hH rfl rfl (hs.below B4) (he.below B4) hr
  have hG4 := hG.below B4
  have hTb := hT.below B4
  have hS1 := Hs.out
  rw [bs_size] at hS1
  have HS := hid hS1
  have hX : x.elems.length ≤ 1000 := by have := of_decide_eq_false d1; omega
  have HC := hid (show ∀ t ∈ ([⟨2, l, noArr⟩, ⟨3, g, noArr⟩, ⟨1, [], x⟩] : List Tok), Rng t.val.elems ∧ ((t.kind = 1 ∧ t.txt = []) ∨ (t.kind = 2 ∧ t.val = noArr) ∨ (t.kind = 3 ∧ t.txt ∈ glyChars ∧ t.val = noArr)) ∧ t.txt.length ≤ 100 ∧ (shwOf t).length ≤ 300000 by
    have hno : Rng noArr.elems := by intro i hi; simp [noArr] at hi
    have hgl : ∀ g ∈ glyChars, g.length ≤ 100 := by decide +kernel
    intro t ht
    simp only [List.mem_cons, List.not_mem_nil, or_false] at ht
    rcases ht with rfl | rfl | rfl
    · exact ⟨hno, .inr (.inl ⟨rfl, rfl⟩), HS.out, shown_len (by have := HS.out; simp only; omega) hno (by simp [noArr])⟩
    · exact ⟨hno, .inr (.inr ⟨rfl, hme, rfl⟩), hgl _ hme, shown_len (by have := hgl _ hme; simp only; omega) hno (by simp [noArr])⟩
    · exact ⟨hr, .inl ⟨rfl, rfl⟩, by simp, shown_len (by simp) hr hX⟩)
  clear keep K0 rN rG rV hO3 hw4 hb4 g0 g3 B2 hG2 hA2 hcell hwn hwn2 hki hki0 hk hk45 hut hg hen g1 g2 g12 hS1 Hs hs he hT hG d1 d2 d3 d4 hsz hs0 hn0 hn1 s1 s2 s3 e1 e2 e3
  go_wp2_with fail
  go_loopw [10, 11, 46] (fun _ _ i wr => ∃ k : Nat, k ≤ 3 ∧ i = .int .i64 k ∧ Below w4.heap.size w4 wr) (fun _ _ i _ => 3 - (intOf i).toNat)
  case atStart => exact ⟨0, by omega, rfl, Below.refl _ _⟩
  case round =>
    obtain ⟨j, hj, rfl, hB⟩ := hrel
    by_cases hlt : j < 3
    · have hd : decide (j < 3) = true := by simpa using hlt
      have hji : (j : Int) < 3 := by omega
      have hTr := hT4.below hB
      have hGr := hG4.below hB
      have hTb' := hTb.below hB
      obtain ⟨t, hjt⟩ : ∃ t, ([⟨2, l, noArr⟩, ⟨3, g, noArr⟩, ⟨1, [], x⟩] : List Tok)[j]? = some t := ⟨_, List.getElem?_eq_getElem (by simpa using hlt)⟩
      have hsub : IsToks wr (.slice (some ⟨b4, j * 5, none⟩) 1 (3 - j)) [t] := by
        have h := hTr.sub (i := j) (j := j + 1) (by omega) (by omega)
        rw [Nat.zero_add, show j + 1 - j = 1 by omega, take_one _ _ _ hjt, List.drop_append_of_le_length (by simp; omega), List.drop_eq_nil_of_le (by simp; omega)] at h
        exact h
      obtain ⟨htR, htC, htL, hshl⟩ := HC.out t (List.mem_of_getElem? hjt)
      have hsh := show_any _ [t] wr hGr hTb' hsub (by simp) (fun u hu => by rw [List.mem_singleton] at hu; rw [hu]; omega)
      rw [show Lib.join ([t].map shwOf) [32] = shwOf t by simp [Lib.join, Lib.joinTail]] at hsh
      have hHid := hid hsub
      clear hsub
      go_wp2_with fail
      refine hsh.mono ?_
      rintro e w5 ⟨rfl, b5⟩
      have hB5 := hB.trans (b5.mono hB.size)
      rcases tok_told htR htC with ⟨h63, -⟩ | ⟨hgood, -, hne, htold⟩
      · rw [h63, show bs [63] = ⟨#[63]⟩ from rfl]
        go_wp2_with fail
        go_roundw
        case rel => exact ⟨j + 1, by omega, by go_num, hB5⟩
        case measure => simp [intOf]; omega
      · have q0 : ¬ (bs (shwOf t)).data.toList = [63] := by rw [bs_list]; exact hne
        have q1 : ((bs (shwOf t)).toList == [63]) = false := by rw [ByteArray.toList_eq, bs_list]; simpa using hne
        have q2 : ((bs (shwOf t)).toList == (⟨#[63]⟩ : ByteArray).toList) = false := by rw [str_eq]; simp only [decide_eq_false_iff_not]; intro e; exact q0 (by rw [e])
        have hT5 := (hT4.below hB5)
        obtain ⟨a', cap', e', -, -, -, hc'⟩ := hT5
        obtain ⟨b', o', vs', ve', ea, ⟨c0, c1, c2, c3, c4⟩, i1, i2, i3⟩ := hc' j t hjt
        simp only [Value.slice.injEq] at e'
        obtain ⟨rfl, -, -⟩ := e'
        simp only [Option.some.injEq, Addr.mk.injEq, and_true] at ea
        obtain ⟨rfl, rfl⟩ := ea
        rw [Nat.zero_add] at c0 c1 c2 c3 c4
        have hrd := fun (O : Obj) (hO : O = .cells #[.int .i64 t.kind, .string (bs t.txt), .int .i64 t.val.kind, vs', ve'] 41) => lreads_any (shwOf t) (.slice (some ⟨w5.heap.size, 0, none⟩) 1 1) [t] (w5.alloc O) ((hG4.below hB5).alloc O) hshl (by
          subst hO
          have hb := (Below.refl _ w5).alloc (Nat.le_refl _) (.cells #[.int .i64 t.kind, .string (bs t.txt), .int .i64 t.val.kind, vs', ve'] 41)
          exact tok1_lit (heap_alloc_new w5 _) (i1.below hb) (i2.below hb) i3)
        rw [htold, decide_eq_true rfl] at hrd
        clear hc'
        go_wp2_with fail
        refine (hrd _ rfl).mono ?_
        rintro e w6 ⟨rfl, b6⟩
        go_wp2_with fail
        go_roundw
        case rel => exact ⟨j + 1, by omega, by go_num, hB5.trans ((((Below.refl _ w5).alloc (Nat.le_refl _) _).trans (b6.mono (by simp))).mono hB5.size)⟩
        case measure => simp [intOf]; omega
    · have hd : decide (j < 3) = false := by simpa using hlt
      have g0 := Below.refl wr.heap.size wr
      have hTr := hT4.below hB
      have hGr := hG4.below hB
      have hTb' := hTb.below hB
      have hs0 : IsToks wr (.slice (some ⟨b4, 0, none⟩) 1 3) [⟨2, l, noArr⟩] := hTr.sub (i := 0) (j := 1) (by omega) (by omega)
      have hs1 : IsToks wr (.slice (some ⟨b4, 5, none⟩) 1 2) [⟨3, g, noArr⟩] := hTr.sub (i := 1) (j := 2) (by omega) (by omega)
      obtain ⟨r0, t0, x0, -⟩ := HC.out ⟨2, l, noArr⟩ (by simp)
      obtain ⟨r1, t1, x1, -⟩ := HC.out ⟨3, g, noArr⟩ (by simp)
      have hg1 : shwOf ⟨3, g, noArr⟩ = g := by
        have : Good ⟨3, g, noArr⟩ := .inr (.inr ⟨rfl, hme, rfl⟩)
        rw [this.shwOf]; rfl
      have rS0 : ∀ V, Below wr.heap.size wr V → Calls Tryz.prog 24 #[.slice (some ⟨b4, 0, none⟩) 1 3] V fun e w' => e = .returned (.string (bs (shwOf ⟨2, l, noArr⟩))) ∧ Below wr.heap.size wr w' := fun V hg => by
        have h := show_any _ _ V (hGr.below hg) (hTb'.below hg) (hs0.below hg) (by simp) (fun u hu => by rw [List.mem_singleton] at hu; rw [hu]; omega)
        rw [show Lib.join (([⟨2, l, noArr⟩] : List Tok).map shwOf) [32] = shwOf ⟨2, l, noArr⟩ by simp [Lib.join, Lib.joinTail]] at h
        exact h.mono fun e w' h => ⟨h.1, hg.trans (h.2.mono hg.size)⟩
      have rS1 : ∀ V, Below wr.heap.size wr V → Calls Tryz.prog 24 #[.slice (some ⟨b4, 5, none⟩) 1 2] V fun e w' => e = .returned (.string (bs g)) ∧ Below wr.heap.size wr w' := fun V hg => by
        have h := show_any _ _ V (hGr.below hg) (hTb'.below hg) (hs1.below hg) (by simp) (fun u hu => by rw [List.mem_singleton] at hu; rw [hu]; omega)
        rw [show Lib.join (([⟨3, g, noArr⟩] : List Tok).map shwOf) [32] = shwOf ⟨3, g, noArr⟩ by simp [Lib.join, Lib.joinTail], hg1] at h
        exact h.mono fun e w' h => ⟨h.1, hg.trans (h.2.mono hg.size)⟩
      have rM : ∀ V, Below wr.heap.size wr V → Calls Tryz.prog 25 #[.string (bs l)] V fun e w' => e = .returned (.bool (namB (bs l))) ∧ Below wr.heap.size wr w' := fun V hg => (names_any (bs l) V (by rw [bs_size]; have := HS.out; omega)).mono fun e w' h => ⟨h.1, hg.trans (h.2.mono hg.size)⟩
      have keep : ∀ V, Below wr.heap.size wr V → V.cell? ⟨b4, 6, none⟩ = some (.string (bs g)) := fun V h => by
        have hc : w4.cell? ⟨b4, 6, none⟩ = some (.string (bs g)) := by rw [Lib.cell_of_heap hH]; rfl
        exact ((hB.trans (h.mono hB.size)).cell (World.block_lt_of_cell? w4 _ hc)).trans hc
      have K0 := keep _ g0.drew
      have hend : ∀ V, Below wr.heap.size wr V → Below w.heap.size w V := fun V h => B4.trans ((hB.trans (h.mono hB.size)).mono B4.size)
      have HT := tok_told r0 t0
      clear hTr hGr hTb' hs0 hs1 hg1 hH
      rcases HT with ⟨h63, hbad⟩ | ⟨hgood, -, hne, -⟩
      · have hnm : namB (bs l) = false := by
          cases hq : namB (bs l)
          · rfl
          · exact absurd (.inr (.inl ⟨rfl, hq, rfl⟩)) hbad
        rw [h63, show bs [63] = ⟨#[63]⟩ from rfl] at rS0
        rw [hnm] at rM
        clear hnm hbad h63
        go_wp2_with fail
        go_region_held3 (fun w' => w'.cell? ⟨b4, 6, none⟩ = some (.string (bs g)))
          (first
            | with_reducible exact K0
            | with_reducible exact keep _ g1
            | with_reducible exact keep _ g2
            | with_reducible exact keep _ g3 | fail)
          (first
            | (have hh := g2; go_at_call 24; refine (rS1 _ g2).mono ?_; rintro e v3 ⟨rfl, g3⟩)
            | (have hh := g1; go_at_call 25; refine (rM _ g1).mono ?_; rintro e v2 ⟨rfl, g2⟩)
            | (go_at_call 24; refine (rS0 _ g0.drew).mono ?_; rintro e v1 ⟨rfl, g1⟩)
            | fail)
        go_wp2
        go_ret
        exact ⟨by simp, hend _ g3⟩
      · have hnm : namB (bs l) = true := by
          rcases hgood with ⟨h, -⟩ | ⟨-, h, -⟩ | ⟨h, -⟩
          · simp at h
          · exact h
          · simp at h
        have q0 : ¬ (bs (shwOf ⟨2, l, noArr⟩)).data.toList = [63] := by rw [bs_list]; exact hne
        have q1 : ((bs (shwOf ⟨2, l, noArr⟩)).toList == [63]) = false := by rw [ByteArray.toList_eq, bs_list]; simpa using hne
        rw [hnm] at rM
        clear hnm hgood hne
        generalize bs (shwOf ⟨2, l, noArr⟩) = sq at *
        go_wp2_with fail
        go_region_held3 (fun w' => w'.cell? ⟨b4, 6, none⟩ = some (.string (bs g)))
          (first
            | with_reducible exact K0
            | with_reducible exact keep _ g1
            | with_reducible exact keep _ g2
            | with_reducible exact keep _ g3 | fail)
          (first
            | (have hh := g2; go_at_call 24; refine (rS1 _ g2).mono ?_; rintro e v3 ⟨rfl, g3⟩)
            | (have hh := g1; go_at_call 25; refine (rM _ g1).mono ?_; rintro e v2 ⟨rfl, g2⟩)
            | (go_at_call 24; refine (rS0 _ g0.drew).mono ?_; rintro e v1 ⟨rfl, g1⟩)
            | fail)
        go_wp2
        go_ret
        exact ⟨by simp, hend _ g3⟩
end Go.Proofs.YtgjaajgdiggbeaaGreatDoor
