/- The law's own tokens, what a text's tokens are held against, and its first examples. -/
import Derived.Test.YtgjaajgdiggbeaaGreatDoorTokSame
import Derived.Test.YtgjaajgdiggbeaaGreatDoorLexLaw
namespace Go.Proofs.YtgjaajgdiggbeaaGreatDoor
open Go.RowKit Go.Shelf
set_option linter.unusedVariables false
set_option linter.unusedSimpArgs false

/-- A token as five cells. -/
def tokV (t : Tok) (vs ve : Value) : Value := .agg #[.int .i64 t.kind, .string (bs t.txt), .int .i64 t.val.kind, vs, ve]

set_option maxRecDepth 100000 in
theorem lwname_any (s : ByteArray) (w : World) :
    Calls Tryz.prog 22 #[.string s] w fun e w' => e = .returned (.agg #[.int .i64 2, .string s, .int .i64 0, .slice none 0 0, .slice none 0 0]) ∧ Below w.heap.size w w' := by
  go_enter Tryz.func22, Tryz.ntmps22
  go_wp2
  refine bodyPost_ret (results_cell_row rfl _ _ w.heap.size _ _ _ _ rfl (heap_alloc_new _ _) Tryz.underlying41 rfl (by kernel_rfl)) rfl ?_
  exact ⟨rfl, (Below.refl _ w).alloc (Nat.le_refl _) _⟩
set_option maxRecDepth 100000 in
theorem lwglyph_any (s : ByteArray) (w : World) :
    Calls Tryz.prog 23 #[.string s] w fun e w' => e = .returned (.agg #[.int .i64 3, .string s, .int .i64 0, .slice none 0 0, .slice none 0 0]) ∧ Below w.heap.size w w' := by
  go_enter Tryz.func23, Tryz.ntmps23
  go_wp2
  refine bodyPost_ret (results_cell_row rfl _ _ w.heap.size _ _ _ _ rfl (heap_alloc_new _ _) Tryz.underlying41 rfl (by kernel_rfl)) rfl ?_
  exact ⟨rfl, (Below.refl _ w).alloc (Nat.le_refl _) _⟩
set_option maxRecDepth 100000 in
theorem lwvalue_any (k : Int) (a b : Option Addr) (n c m d : Nat) (w : World) :
    Calls Tryz.prog 18 #[.agg #[.int .i64 k, .slice a n c, .slice b m d]] w fun e w' => e = .returned (.agg #[.int .i64 1, .string ⟨#[]⟩, .int .i64 k, .slice a n c, .slice b m d]) ∧ Below w.heap.size w w' := by
  go_enter Tryz.func18, Tryz.ntmps18
  go_wp2
  refine bodyPost_ret (results_cell_row rfl _ _ (w.heap.size + 1) _ _ _ _ rfl (heap_alloc2_new _ _ _) Tryz.underlying41 rfl (by kernel_rfl)) rfl ?_
  exact ⟨rfl, ((Below.refl _ w).alloc (Nat.le_refl _) _).alloc (by simp) _⟩

set_option maxRecDepth 100000 in
set_option maxHeartbeats 1000000 in
theorem lreads_any (l : List UInt8) (v : Value) (X : List Tok) (w : World) (hG : Glob w) (hl : l.length ≤ 300000) (hx : IsToks w v X) :
    Calls Tryz.prog 16 #[.string (bs l), v] w fun e w' => e = .returned (.bool (decide (tokensOf l = (X, 0)))) ∧ Below w.heap.size w w' := by
  have ht := tokens_any l w hG hl
  have hX : ∃ a n c, v = .slice a n c := by obtain ⟨a, c, e, -⟩ := hx; exact ⟨a, _, c, e⟩
  obtain ⟨a, n, c, rfl⟩ := hX
  go_enter Tryz.func16, Tryz.ntmps16
  go_wp2_with fail
  refine ht.mono ?_
  rintro e w1 ⟨⟨v1, us, rfl, hrow, htoks⟩, b1⟩
  obtain ⟨a1, c1, rfl⟩ := own_slice hrow
  have hy := IsToks.of_own hrow htoks
  have hx1 := hx.below b1
  obtain ⟨T, er, hTT⟩ : ∃ T er, tokensOf l = (T, er) := ⟨_, _, rfl⟩
  have HD : Hid (decide (tokensOf l = (X, 0)) = ((er == 0) && decide (T = X))) := hid (by
    rw [hTT, Bool.eq_iff_iff]; simp [Prod.ext_iff]; exact ⟨fun h => ⟨h.2, h.1⟩, fun h => ⟨h.2, h.1⟩⟩)
  rw [hTT] at hy ⊢
  clear ht hrow htoks hx hTT
  simp only at hy ⊢
  cases he : (er == 0)
  all_goals have He := hid he
  · go_wp2_with fail
    go_ret
    exact ⟨by rw [HD.out, He.out]; rfl, b1⟩
  · go_wp2_with fail
    refine (lsame_any _ _ T X _ hy hx1).mono ?_
    rintro e w2 ⟨rfl, b2⟩
    go_wp2_with fail
    go_ret
    exact ⟨by rw [HD.out, He.out]; rfl, b1.trans (b2.mono b1.size)⟩
theorem strs_lit {w : World} {b n : Nat} {T : TypeId} (xs : List ByteArray) (h : w.heap[b]? = some (.cells (xs.map Value.string).toArray T)) (hn : n = xs.length) (hb : xs.length ≤ maxLen) : Strs w (.slice (some ⟨b, 0, none⟩) n n) xs := by
  subst hn
  have := Strs.of_owns (w := w) (base := 0) (e := T) (v := .slice (some ⟨b, 0, none⟩) xs.length xs.length) (xs := xs) ⟨by simp, .inr ⟨b, xs.length, _, rfl, Nat.zero_le _, h, Nat.le_refl _, hb, by simp, by simp [List.take_of_length_le]⟩⟩
  exact this

theorem toks_lit {w : World} {b n : Nat} (us : List (List Value)) (X : List Tok) (h : w.heap[b]? = some (.cells us.flatten.toArray 41)) (hn : n = X.length) (hl : X.length ≤ 1000) (ht : ToksOwn w 0 us X) : IsToks w (.slice (some ⟨b, 0, none⟩) n n) X := by
  subst hn
  have h2 := ht.len.2
  exact IsToks.of_own (base := 0) (us := us) ⟨h2, .inr ⟨b, X.length, _, rfl, Nat.zero_le _, h, Nat.le_refl _, by simp [maxLen]; omega, by simpa using h2, List.take_of_length_le (by simpa using Nat.le_of_eq h2)⟩⟩ ht
theorem tok1_lit {w : World} {b : Nat} {T : TypeId} {t : Tok} {vs ve : Value} (h : w.heap[b]? = some (.cells #[.int .i64 t.kind, .string (bs t.txt), .int .i64 t.val.kind, vs, ve] T)) (i1 : Ints w vs t.val.shape) (i2 : Ints w ve t.val.elems) (i3 : Rng t.val.elems) : IsToks w (.slice (some ⟨b, 0, none⟩) 1 1) [t] := by
  refine ⟨some ⟨b, 0, none⟩, 1, rfl, Nat.le_refl _, by decide, by simp, fun k u hk => ?_⟩
  cases k with
  | succ k => simp at hk
  | zero =>
    obtain rfl : t = u := by simpa using hk
    refine ⟨b, 0, vs, ve, rfl, ⟨?_, ?_, ?_, ?_, ?_⟩, i1, i2, i3⟩
    all_goals rw [Lib.cell_of_heap h]; rfl
theorem tokOwn_plain {w : World} (k : Int) (l : List UInt8) (v : Value) (h : v = .agg #[.int .i64 k, .string (bs l), .int .i64 0, .slice none 0 0, .slice none 0 0] := by rfl) : TokOwn w 0 v ⟨k, l, noArr⟩ := by
  subst h
  exact ⟨_, _, rfl, World.ownsRow_nil _ _ _ _, World.ownsRow_nil _ _ _ _, fun i hi => by simp [noArr] at hi⟩
theorem tokOwn_arr {w : World} {base : Nat} {x : Arr} {v : Value} {vs ve : Value} {s : Value} (h : ArrOwn w base (.agg #[.int .i64 x.kind, vs, ve]) x) (hs : s = .string (bs []) := by rfl) (hv : v = .agg #[.int .i64 1, s, .int .i64 x.kind, vs, ve] := by rfl) : TokOwn w 0 v ⟨1, [], x⟩ := by
  subst hs hv
  obtain ⟨vs', ve', e, h1, h2, h3⟩ := h
  have e2 : vs = vs' ∧ ve = ve' := by simp at e; exact e
  obtain ⟨rfl, rfl⟩ := e2
  exact ⟨_, _, rfl, owns_mono h1 (Nat.zero_le _), owns_mono h2 (Nat.zero_le _), h3⟩

def alText : List UInt8 := [97, 226, 134, 144, 49, 226, 139, 132, 98, 32, 226, 139, 132, 32, 226, 139, 132, 32, 123, 226, 141, 181, 226, 139, 132, 49, 125, 32, 39, 120, 226, 139, 132, 39]
def alPieces : List (List UInt8) := [[97, 226, 134, 144, 49], [98, 32], [32, 123, 226, 141, 181, 226, 139, 132, 49, 125, 32, 39, 120, 226, 139, 132, 39]]
theorem al_pieces : piecesOf alText = alPieces := by decide +kernel
def alToks : List Tok := [⟨2, [120, 49], noArr⟩, ⟨3, [226, 134, 144], noArr⟩, ⟨1, [], ⟨1, [2], [1, -2]⟩⟩, ⟨3, [43], noArr⟩, ⟨1, [], ⟨1, [], [3]⟩⟩]
theorem al_toks : tokensOf [120, 49, 32, 226, 134, 144, 32, 49, 32, 194, 175, 50, 43, 51] = (alToks, 0) := by decide +kernel

set_option maxRecDepth 100000 in
set_option maxHeartbeats 4000000 in
theorem lalive_any (w : World) (hG : Glob w) :
    Calls Tryz.prog 12 #[] w fun e w' => e = .returned (.bool true) ∧ Below w.heap.size w w' := by
  have hsp := split_any (bs alText) w (by rw [bs_size]; decide)
  rw [split_pieces, al_pieces] at hsp
  go_enter Tryz.func12, Tryz.ntmps12
  go_wp2_with fail
  refine hsp.mono ?_
  rintro e w1 ⟨v1, rfl, hv1, b1⟩
  have hs1 := Strs.of_owns hv1
  obtain ⟨a1, c1, rfl⟩ := own_slice hv1
  have hG1 := hG.below b1
  have hst := fun (O : Obj) (hO : O = .cells #[.string ⟨#[97, 226, 134, 144, 49]⟩, .string ⟨#[98, 32]⟩, .string ⟨#[32, 123, 226, 141, 181, 226, 139, 132, 49, 125, 32, 39, 120, 226, 139, 132, 39]⟩] 9) =>
    (show Strs (w1.alloc O) (.slice (some ⟨w1.heap.size, 0, none⟩) 3 3) (alPieces.map bs) by subst hO; exact strs_lit (alPieces.map bs) (heap_alloc_new _ _) rfl (by simp [alPieces, maxLen]))
  have hrt := fun O hO => rtexts_any _ _ _ _ _ (hs1.below ((Below.refl _ w1).alloc (Nat.le_refl _) O)) (hst O hO)
  clear hs1 hst hv1
  go_wp2_with fail
  refine (hrt _ rfl).mono ?_
  rintro e w2 ⟨rfl, nq, rfl⟩
  rw [show decide True = true from rfl]
  have B2 := below_drewN (b1.alloc b1.size (.cells #[.string ⟨#[97, 226, 134, 144, 49]⟩, .string ⟨#[98, 32]⟩, .string ⟨#[32, 123, 226, 141, 181, 226, 139, 132, 49, 125, 32, 39, 120, 226, 139, 132, 39]⟩] 9)) nq
  generalize (w1.alloc (.cells #[.string ⟨#[97, 226, 134, 144, 49]⟩, .string ⟨#[98, 32]⟩, .string ⟨#[32, 123, 226, 141, 181, 226, 139, 132, 49, 125, 32, 39, 120, 226, 139, 132, 39]⟩] 9)).drewN nq = w2 at *
  clear hrt hsp hG1 b1
  go_wp2_with fail
  refine (lwname_any _ _).mono ?_
  rintro e w3 ⟨rfl, b3⟩
  have B3 := B2.trans (b3.mono B2.size)
  clear b3 B2
  go_wp2_with fail
  refine (lwglyph_any _ _).mono ?_
  rintro e w4 ⟨rfl, b4⟩
  have B4 := B3.trans (b4.mono B3.size)
  clear b4 B3
  have hvec := fun O (hO : O = .cells #[.int .i64 1, .int .i64 (-2)] 2) => vector_own (.slice (some ⟨w4.heap.size, 0, none⟩) 2 2) [1, -2] (w4.alloc O) (by
      subst hO
      exact Ints.of_owns (e := 2) (base := 0) (show World.ownsRow _ _ _ _ (.slice (some ⟨w4.heap.size, 0, none⟩) [(1 : Int), -2].length 2) [(1 : Int), -2].length ([(1 : Int), -2].map (.int .i64)) from owns_lit (cs := [.int .i64 1, .int .i64 (-2)]) (heap_alloc_new _ _) (Nat.zero_le _) (by simp [maxLen])))
    (rng_of (by decide)) (by decide)
  go_wp2_with fail
  refine (hvec _ rfl).mono ?_
  rintro e w5 ⟨⟨v5, rfl, o5⟩, b5⟩
  have B5 := (B4.alloc B4.size _).trans (b5.mono (Nat.le_trans B4.size (by simp)))
  clear hvec b5 B4
  obtain ⟨vs5, ve5, rfl, os5, oe5, or5⟩ := id o5
  obtain ⟨as5, cs5, rfl⟩ := own_slice os5
  obtain ⟨ae5, ce5, rfl⟩ := own_slice oe5
  have o5' := o5
  clear os5 oe5 or5 o5
  simp only [List.length_cons, List.length_nil, Nat.zero_add, Nat.reduceAdd]
  go_wp2_with fail
  refine (lwvalue_any _ _ _ _ _ _ _ _).mono ?_
  rintro e w6 ⟨rfl, b6⟩
  have B6 := B5.trans (b6.mono B5.size)
  have o6 := o5'.below b6
  clear b6 B5 o5'
  go_wp2_with fail
  refine (lwglyph_any _ _).mono ?_
  rintro e w7 ⟨rfl, b7⟩
  have B7 := B6.trans (b7.mono B6.size)
  have o7 := o6.below b7
  clear b7 B6 o6
  go_wp2_with fail
  refine (scalar_own 3 _ (by decide) (by decide)).mono ?_
  rintro e w8 ⟨⟨v8, rfl, p8⟩, b8⟩
  have B8 := B7.trans (b8.mono B7.size)
  have o8 := o7.below b8
  clear b8 B7 o7
  obtain ⟨vs8, ve8, rfl, os8, oe8, or8⟩ := id p8
  obtain ⟨as8, cs8, rfl⟩ := own_slice os8
  obtain ⟨ae8, ce8, rfl⟩ := own_slice oe8
  clear os8 oe8 or8
  simp only [List.length_cons, List.length_nil, Nat.zero_add, Nat.reduceAdd]
  go_wp2_with fail
  refine (lwvalue_any _ _ _ _ _ _ _ _).mono ?_
  rintro e w9 ⟨rfl, b9⟩
  have B9 := B8.trans (b9.mono B8.size)
  have o9 := o8.below b9
  have p9 := p8.below b9
  clear b9 B8 o8 p8
  have hrd := fun (O : Obj) (hO : O = .cells ([[.int .i64 2, .string ⟨#[120, 49]⟩, .int .i64 0, .slice none 0 0, .slice none 0 0], [.int .i64 3, .string ⟨#[226, 134, 144]⟩, .int .i64 0, .slice none 0 0, .slice none 0 0], [.int .i64 1, .string ⟨#[]⟩, .int .i64 1, .slice as5 1 cs5, .slice ae5 2 ce5], [.int .i64 3, .string ⟨#[43]⟩, .int .i64 0, .slice none 0 0, .slice none 0 0], [.int .i64 1, .string ⟨#[]⟩, .int .i64 1, .slice as8 0 cs8, .slice ae8 1 ce8]] : List (List Value)).flatten.toArray 41) =>
    lreads_any [120, 49, 32, 226, 134, 144, 32, 49, 32, 194, 175, 50, 43, 51] (.slice (some ⟨w9.heap.size, 0, none⟩) 5 5) alToks (w9.alloc O) ((hG.below B9).alloc O) (by decide) (by
      subst hO
      have hb := (Below.refl _ w9).alloc (Nat.le_refl _) (.cells ([[.int .i64 2, .string ⟨#[120, 49]⟩, .int .i64 0, .slice none 0 0, .slice none 0 0], [.int .i64 3, .string ⟨#[226, 134, 144]⟩, .int .i64 0, .slice none 0 0, .slice none 0 0], [.int .i64 1, .string ⟨#[]⟩, .int .i64 1, .slice as5 1 cs5, .slice ae5 2 ce5], [.int .i64 3, .string ⟨#[43]⟩, .int .i64 0, .slice none 0 0, .slice none 0 0], [.int .i64 1, .string ⟨#[]⟩, .int .i64 1, .slice as8 0 cs8, .slice ae8 1 ce8]] : List (List Value)).flatten.toArray 41)
      exact toks_lit _ alToks (heap_alloc_new _ _) rfl (by decide) ⟨tokOwn_plain _ _ _, tokOwn_plain _ _ _, tokOwn_arr (o9.below hb), tokOwn_plain _ _ _, tokOwn_arr (p9.below hb), trivial⟩)
  rw [al_toks] at hrd
  clear o9 p9
  go_wp2_with fail
  refine (hrd _ rfl).mono ?_
  rintro e w10 ⟨rfl, b10⟩
  rw [show decide True = true from rfl]
  clear hrd
  go_wp2_with fail
  go_ret
  exact ⟨rfl, (B9.alloc B9.size _).trans (b10.mono (Nat.le_trans B9.size (by simp)))⟩
end Go.Proofs.YtgjaajgdiggbeaaGreatDoor
