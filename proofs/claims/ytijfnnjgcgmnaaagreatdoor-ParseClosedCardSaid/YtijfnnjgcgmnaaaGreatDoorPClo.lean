/- lex: a parenthesis behind a text, and one ahead. Plain.
   The law ParseClosed: its plain part: what stands ahead of a text is told as tokens of its own; parentheses.
   The law ParseClosed: parentheses about a whole expression, and about a right argument, make no difference. -/
import Derived.Test.YtijfnnjgcgmnaaaGreatDoorLexLaw
import Derived.Test.YtijfnnjgcgmnaaaGreatDoorPClosed0
import Derived.Test.YtijfnnjgcgmnaaaGreatDoorPTrees
import Derived.Test.YtijfnnjgcgmnaaaGreatDoorPUns
namespace Go.Proofs.YtijfnnjgcgmnaaaGreatDoor
open Go.RowKit Go.Shelf
open Lib (trimLeftB validD decodeL encodeRune)
set_option linter.unusedVariables false
set_option linter.unusedSimpArgs false
namespace RP

abbrev B : List UInt8 := [41]
theorem trim (l : List UInt8) : trimLeftB (l ++ B) 32 = trimLeftB l 32 ++ B := by
  induction l with
  | nil => rfl
  | cons c r ih =>
    by_cases h : c = 32
    · subst h; rw [List.cons_append, trim_cons32, trim_cons32, ih]
    · rw [trim_ne r h, List.cons_append, trim_ne _ h]
theorem minus (l : List UInt8) : minusB (l ++ B) = minusB l := by
  unfold minusB Lib.hasPrefix
  rcases l with _ | ⟨a, _ | ⟨b, r⟩⟩
  · rfl
  · simp [List.isPrefixOf]
  · simp [List.isPrefixOf]
theorem body (l : List UInt8) : numBody (l ++ B) = numBody l ++ B := by
  unfold numBody
  rw [minus]
  split
  · rename_i h
    unfold minusB Lib.hasPrefix at h
    obtain ⟨t, ht⟩ := List.isPrefixOf_iff_prefix.1 h
    rw [← ht]; rfl
  · rfl
theorem end_of {p : UInt8 → Bool} (h : p 41 = false) : ∀ c s, B = c :: s → p c = false := by
  intro c s e; injection e with e1 e2; subst e1; exact h
theorem digs (l : List UInt8) : numDigs (l ++ B) = numDigs l := by
  rw [numDigs_eq, numDigs_eq, body, tw_behind _ _ _ (end_of (by decide))]
theorem isNum (l : List UInt8) : numB (l ++ B) = numB l := by
  rw [numB_bodyL, numB_bodyL, body]
  cases numBody l with
  | cons c r => rfl
  | nil => rfl
theorem txt (l : List UInt8) : numTxt (l ++ B) = numTxt l := by
  have h1 : numTxt l = (if minusB l = true then [45] else []) ++ numDigs l := rfl
  have h2 : numTxt (l ++ B) = (if minusB (l ++ B) = true then [45] else []) ++ numDigs (l ++ B) := rfl
  rw [h1, h2, minus, digs]
theorem left (l : List UInt8) : numLeft (l ++ B) = numLeft l ++ B := by
  unfold numLeft digLen
  rw [body, tw_behind _ _ _ (end_of (by decide)), List.drop_append_of_le_length (List.takeWhile_sublist _).length_le]
theorem nums (f : Nat) : ∀ (g : Nat) (l : List UInt8), l.length ≤ f → l.length + 1 ≤ g → numsFrom g (l ++ B) = ((numsFrom f l).1, (numsFrom f l).2.1 ++ B, (numsFrom f l).2.2) := by
  induction f with
  | zero =>
    intro g l hf hg
    have : l = [] := List.eq_nil_of_length_eq_zero (by omega)
    subst this
    cases g with
    | zero => rfl
    | succ g =>
      have e : numsFrom (g + 1) ([] ++ B) = ([], B, false) := by rw [List.nil_append, numsFrom, if_neg (by decide)]
      rw [e]; rfl
  | succ f ih =>
    intro g l hf hg
    obtain ⟨g, rfl⟩ : ∃ k, g = k + 1 := ⟨g - 1, by omega⟩
    rw [numsFrom, numsFrom, isNum]
    by_cases hn : numB l = true
    · rw [if_pos hn, if_pos hn]
      simp only
      have h1 := numLeft_lt hn
      have h2 := trimLeft_len (numLeft l) 32
      have hv : numVal (l ++ B) = numVal l := by unfold numVal; rw [txt]
      have hb : numBad (l ++ B) = numBad l := by unfold numBad; rw [txt]
      rw [left, trim, hv, hb, ih g (trimLeftB (numLeft l) 32) (by omega) (by omega)]
    · rw [if_neg hn, if_neg hn]
theorem noQ : (39 : UInt8) ∉ B := by decide
theorem name (l : List UInt8) : nameLen (l ++ B) = nameLen l := by
  unfold nameLen
  rw [tw_behind _ _ _ (end_of (by decide))]
theorem read {l : List UInt8} (hne : l ≠ []) (hv : validD l = true) (hb : (readTok l).2.2 = false) : readTok (l ++ B) = ((readTok l).1, (readTok l).2.1 ++ B, false) := by
  by_cases hn : numB l = true
  · rw [readTok_num hn] at hb ⊢
    rw [readTok_num (by rw [isNum]; exact hn), nums l.length (l ++ B).length l (Nat.le_refl _) (by simp)]
    simp only at hb ⊢
    rw [hb]
  · have hn : numB l = false := by simpa using hn
    obtain ⟨c, r, rfl⟩ := List.exists_cons_of_ne_nil hne
    have hnb : numB (c :: (r ++ B)) = false := by have := isNum (c :: r); rw [hn] at this; exact this
    by_cases h39 : c = 39
    · subst h39
      rw [readTok_39] at hb
      rw [List.cons_append, readTok_39, readTok_39]
      obtain ⟨h1, h2⟩ := quotedQ_behind noQ r false
      obtain ⟨h3, h4⟩ := h2 hb
      rw [show (quoted (r ++ B)).1 = (quoted r).1 from h3, show (quoted (r ++ B)).2.getD [] = (quoted r).2.getD [] ++ B from h4, show (quoted (r ++ B)).2.isNone = (quoted r).2.isNone from h1]
      simp only at hb ⊢
      rw [hb]
    · cases hl : letB c with
      | true =>
        rw [readTok_name hn h39 hl] at hb
        rw [List.cons_append, readTok_name hn h39 hl, readTok_name hnb h39 hl, ← List.cons_append, name]
        obtain ⟨n1, n2, n3⟩ := nameLen_facts (r := r) hl
        simp only at hb ⊢
        rw [List.take_append_of_le_length n2, List.drop_append_of_le_length n2, hb]
      | false =>
        have hch : chLen (c :: r ++ B) = chLen (c :: r) := by rw [chLen_L _ (by simp), chLen_L _ (by simp), decode_behind (by simp) hv]
        have hle : chLen (c :: r) ≤ (c :: r).length := by
          rw [chLen_L _ (by simp)]
          have hs := Lib.validD_step (c :: r) (by simp)
          rw [hv] at hs
          have hok : ¬ ((decodeL (c :: r)).1 = 65533 ∧ (decodeL (c :: r)).2 = 1) := fun h => by rw [if_pos h] at hs; cases hs
          have henc := Lib.encode_decode (c :: r) (by simp) hok
          have h1 := decode_enc (decode_char (c :: r)) ((c :: r).drop (decodeL (c :: r)).2)
          rw [henc, List.take_append_drop] at h1
          have h2 := congrArg Prod.snd h1
          simp only at h2
          have h3 : ((c :: r).take (decodeL (c :: r)).2).length ≤ (c :: r).length := List.length_take_le' _ _
          omega
        have hgt : glyTxt (c :: r ++ B) = glyTxt (c :: r) := by
          unfold glyTxt; rw [hch, List.take_append_of_le_length hle]
        rw [readTok_gly hn h39 hl] at hb
        rw [readTok_gly hn h39 hl, List.cons_append, readTok_gly hnb h39 hl, ← List.cons_append, hgt, hch]
        simp only at hb ⊢
        rw [List.drop_append_of_le_length hle, hb]
theorem read_one (l : List UInt8) : readTok (41 :: l) = (⟨3, [41], noArr⟩, l, false) := by
  have hn : numB (41 :: l) = false := by rw [numB_bodyL]; unfold numBody minusB Lib.hasPrefix; simp [List.isPrefixOf]; decide
  have hch : chLen (41 :: l) = 1 := by rw [chLen_L _ (by simp)]; exact congrArg Prod.snd (Lib.decodeL_ascii 41 l (by decide))
  have hg : glyTxt (41 :: l) = [41] := by unfold glyTxt; rw [hch]; simp
  rw [readTok_gly hn (by decide) (by decide), hg, hch]
  have : Lib.contains glyphsL [41] = true := by decide +kernel
  rw [this]; rfl
theorem read_open (l : List UInt8) : readTok (40 :: l) = (⟨3, [40], noArr⟩, l, false) := by
  have hn : numB (40 :: l) = false := by rw [numB_bodyL]; unfold numBody minusB Lib.hasPrefix; simp [List.isPrefixOf]; decide
  have hch : chLen (40 :: l) = 1 := by rw [chLen_L _ (by simp)]; exact congrArg Prod.snd (Lib.decodeL_ascii 40 l (by decide))
  have hg : glyTxt (40 :: l) = [40] := by unfold glyTxt; rw [hch]; simp
  rw [readTok_gly hn (by decide) (by decide), hg, hch]
  have : Lib.contains glyphsL [40] = true := by decide +kernel
  rw [this]; rfl
theorem toks_nil (f : Nat) : toksFrom f [] = ([], false, false) := by
  cases f with
  | zero => rfl
  | succ f => rw [toksFrom, if_pos (by rfl)]
/-- A text's tokens with a parenthesis behind it. -/
theorem toks (f : Nat) : ∀ (g : Nat) (l : List UInt8), l.length < f → l.length + 1 < g → validD l = true → (toksFrom f l).2.1 = false →
    toksFrom g (l ++ B) = ((toksFrom f l).1 ++ [⟨3, [41], noArr⟩], false, (toksFrom f l).2.2) := by
  induction f with
  | zero => intro g l h; omega
  | succ f ih =>
    intro g l hf hg hv hbad
    obtain ⟨g, rfl⟩ : ∃ k, g = k + 1 := ⟨g - 1, by omega⟩
    by_cases he : trimLeftB l 32 = []
    · have e2 : toksFrom (f + 1) l = ([], false, false) := by rw [toksFrom, if_pos he]
      rw [e2, toksFrom, trim, he, List.nil_append, if_neg (by simp), read_one]
      simp only [toks_nil]
      rfl
    · have hvt : validD (trimLeftB l 32) = true := by rw [valid_trim]; exact hv
      have hlt := trimLeft_len l 32
      have hrl : (readTok (trimLeftB l 32)).2.1.length < (trimLeftB l 32).length := by
        cases h : trimLeftB l 32 with
        | nil => exact absurd h he
        | cons c r => exact readTok_lt
      have e3 : toksFrom (f + 1) l = (let t := readTok (trimLeftB l 32)
        if t.2.2 = true then ([t.1], true, decide (4096 < t.1.val.elems.length))
        else (t.1 :: (toksFrom f t.2.1).1, (toksFrom f t.2.1).2.1, decide (4096 < t.1.val.elems.length) || (toksFrom f t.2.1).2.2)) := by rw [toksFrom, if_neg he]
      rw [e3] at hbad ⊢
      rw [toksFrom, trim, if_neg (by simp)]
      by_cases hb : (readTok (trimLeftB l 32)).2.2 = true
      · simp only [hb, if_true] at hbad; cases hbad
      · have hb : (readTok (trimLeftB l 32)).2.2 = false := by simpa using hb
        have hvl := valid_left he hvt hb
        simp only [hb, Bool.false_eq_true, if_false] at hbad ⊢
        rw [read he hvt hb]
        simp only [Bool.false_eq_true, if_false]
        rw [ih g _ (by omega) (by omega) hvl hbad]
        rfl
end RP
/-- A program's tokens, in parentheses. -/
theorem tokens_wrapped {l : List UInt8} {T : List Tok} (h : tokensOf l = (T, 0)) : tokensOf (40 :: l ++ [41]) = if T.length + 2 ≤ 4000 then (⟨3, [40], noArr⟩ :: T ++ [⟨3, [41], noArr⟩], 0) else ([], 9) := by
  unfold tokensOf at h
  cases hv : validD l with
  | false => rw [if_pos hv] at h; cases h
  | true =>
    rw [if_neg (by rw [hv]; simp)] at h
    simp only at h
    by_cases hb : (toksFrom (l.length + 1) l).2.1 = true
    · rw [if_pos hb] at h; cases h
    · have hb : (toksFrom (l.length + 1) l).2.1 = false := by simpa using hb
      rw [hb] at h
      simp only [Bool.false_eq_true, if_false] at h
      by_cases hm : (toksFrom (l.length + 1) l).2.2 = true ∨ 4000 < (toksFrom (l.length + 1) l).1.length
      · rw [if_pos hm] at h; cases h
      · rw [if_neg hm] at h
        injection h with h _
        have hv2 : validD (40 :: (l ++ [41])) = true := by rw [Lib.validD_cons _ _ (by decide), valid_append hv]; decide
        have hR := RP.toks (l.length + 1) (l.length + 2) l (by omega) (by omega) hv hb
        have hmm : (toksFrom (l.length + 1) l).2.2 = false := by
          cases hc : (toksFrom (l.length + 1) l).2.2 with
          | false => rfl
          | true => exact absurd (.inl hc) hm
        have e : toksFrom ((40 :: l ++ [41]).length + 1) (40 :: l ++ [41]) = (⟨3, [40], noArr⟩ :: T ++ [⟨3, [41], noArr⟩], false, false) := by
          have hl2 : (40 :: l ++ [41]).length = l.length + 2 := by simp
          rw [hl2, List.cons_append, toksFrom, trim_ne _ (by decide), if_neg (by simp), RP.read_open]
          simp only [Bool.false_eq_true, if_false]
          rw [hR, hmm, h]
          rfl
        unfold tokensOf
        rw [List.cons_append] at e ⊢
        rw [if_neg (by rw [hv2]; simp)]
        simp only
        rw [e]
        simp only [Bool.false_eq_true, if_false, false_or]
        by_cases hT : T.length + 2 ≤ 4000
        · rw [if_pos hT, if_neg (by simp; omega)]
        · rw [if_neg hT, if_pos (by simp; omega)]
end Go.Proofs.YtijfnnjgcgmnaaaGreatDoor

namespace Go.Proofs.YtijfnnjgcgmnaaaGreatDoor
open Go.RowKit Go.Shelf
open Go.Lib (decodeL decodeN encodeRune decDigits trimLeftB validD)
set_option linter.unusedVariables false
set_option linter.unusedSimpArgs false

/-- A glyph, whatever stands behind it. -/
theorem read_gl {g : List UInt8} (hg : g ∈ glyChars) (rest : List UInt8) : readTok (g ++ rest) = (⟨3, g, noArr⟩, rest, false) := by
  have hh := gly_head _ hg
  have hg' := hg
  rw [glyChars_eq] at hg'
  obtain ⟨rn, hrn, he⟩ := List.mem_map.1 hg'
  have hch := glyRunes_all rn hrn
  have hdl : chLen (g ++ rest) = g.length := by
    unfold chLen Lib.decodeGo
    have hne := enc_ne rn
    rw [he] at hne
    have : 0 < g.length := List.length_pos_iff.2 hne
    rw [if_neg (by rw [bs_size, List.length_append]; omega), decode_drop, List.drop_zero, ← he, decode_enc hch]
  cases htx : g with
  | nil => rw [htx] at hh; cases hh
  | cons c s =>
    rw [htx] at hh
    simp only [Bool.and_eq_true, Bool.not_eq_true', bne_iff_ne, ne_eq] at hh
    have hnn : numB (c :: s ++ rest) = false := numB_not hh.2.1 hh.2.2.2.1
    have hgt : glyTxt (c :: s ++ rest) = c :: s := by
      unfold glyTxt
      rw [← htx, hdl, List.take_left, if_neg (by rw [htx]; intro e; cases e; exact hh.2.2.2.2.2 rfl)]
    have hcon : Lib.contains glyphsL (c :: s) = true := by
      rw [contains_glyphs (List.all_eq_true.1 glyChars_all _ (htx ▸ hg))]
      exact decide_eq_true (htx ▸ hg)
    unfold readTok
    rw [if_neg (by rw [hnn]; simp)]
    rw [List.cons_append] at hgt ⊢
    simp only
    rw [if_neg hh.2.2.1, if_neg (by rw [hh.1]; simp), hgt, hcon]
    have hdl2 : chLen (c :: (s ++ rest)) = (c :: s).length := by rw [← htx, ← hdl, htx]; rfl
    rw [hdl2, ← List.cons_append, List.drop_left]
    rfl
theorem nums_stop {r : List UInt8} (hn : numB r = false) (f : Nat) : numsFrom f r = ([], r, false) := by
  cases f with
  | zero => rfl
  | succ f => rw [numsFrom, hn]; rfl
theorem read_1 {c : UInt8} (r : List UInt8) (h1 : digB c = false) (h2 : c ≠ 194) (h3 : c ≠ 32) : readTok (49 :: c :: r) = (⟨1, [], numsArr [1]⟩, c :: r, false) := by
  have hd : dig 1 = [49] := by decide +kernel
  obtain ⟨d1, d2, d3, d4⟩ := dig_read 1 (c :: r) (by intro c' s e; cases e; exact h1) (by decide) (by decide)
  rw [hd] at d1 d2 d3 d4
  rw [List.singleton_append] at d1 d2 d3 d4
  rw [readTok_num d1]
  rw [show (49 :: c :: r).length = (c :: r).length + 1 from rfl, numsFrom, if_pos d1, d2, d3, d4, trim_ne _ h3]
  simp only [nums_stop (numB_not (r := r) h1 h2)]
  rfl
theorem read_12 {c : UInt8} (r : List UInt8) (h1 : digB c = false) (h2 : c ≠ 194) (h3 : c ≠ 32) : readTok (49 :: 32 :: 50 :: c :: r) = (⟨1, [], numsArr [1, 2]⟩, c :: r, false) := by
  have hd : dig 1 = [49] := by decide +kernel
  have he : dig 2 = [50] := by decide +kernel
  obtain ⟨d1, d2, d3, d4⟩ := dig_read 1 (32 :: 50 :: c :: r) (by intro c' s e; cases e; decide) (by decide) (by decide)
  rw [hd, List.singleton_append] at d1 d2 d3 d4
  obtain ⟨e1, e2, e3, e4⟩ := dig_read 2 (c :: r) (by intro c' s e; cases e; exact h1) (by decide) (by decide)
  rw [he, List.singleton_append] at e1 e2 e3 e4
  have ht : trimLeftB (32 :: 50 :: c :: r) 32 = 50 :: c :: r := by rw [trim_cons32]; exact trim_ne _ (by decide)
  rw [readTok_num d1]
  rw [show (49 :: 32 :: 50 :: c :: r).length = (c :: r).length + 1 + 1 + 1 from rfl, numsFrom, if_pos d1, d2, d3, d4, ht]
  have e5 : numsFrom ((c :: r).length + 1 + 1) (50 :: c :: r) = ([2], c :: r, false) := by
    rw [numsFrom, if_pos e1, e2, e3, e4, trim_ne _ h3]
    simp only [nums_stop (numB_not (r := r) h1 h2)]
    rfl
  simp only [e5]
  rfl
/-- One token told, of a text that begins with no blank. -/
theorem toks_step {c : UInt8} {r l : List UInt8} {t : Tok} (f : Nat) (hc : c ≠ 32) (h : readTok (c :: r) = (t, l, false)) (hs : decide (4096 < t.val.elems.length) = false) :
    toksFrom (f + 1) (c :: r) = (t :: (toksFrom f l).1, (toksFrom f l).2.1, (toksFrom f l).2.2) := by
  rw [toksFrom, trim_ne _ hc, if_neg (by simp), h]
  simp only [Bool.false_eq_true, if_false, hs, Bool.false_or]
/-- What stands ahead of a text is told as these tokens. -/
def Heads (p : List UInt8) (ts : List Tok) : Prop := ∀ (l : List UInt8) (f : Nat), toksFrom (f + ts.length) (p ++ l) = (ts ++ (toksFrom f l).1, (toksFrom f l).2.1, (toksFrom f l).2.2)
theorem Heads.gl {g : List UInt8} (hg : g ∈ glyChars) : Heads g [⟨3, g, noArr⟩] := fun l f => by
  have h := read_gl hg l
  have hh := gly_head _ hg
  cases htx : g with
  | nil => rw [htx] at hh; cases hh
  | cons c s =>
    rw [htx] at hh h
    simp only [Bool.and_eq_true, Bool.not_eq_true', bne_iff_ne, ne_eq] at hh
    exact toks_step (r := s ++ l) f hh.2.2.2.2.1 h rfl
theorem Heads.app {p q : List UInt8} {ts us : List Tok} (h : Heads p ts) (k : Heads q us) : Heads (p ++ q) (ts ++ us) := fun l f => by
  rw [List.append_assoc, List.length_append, show f + (ts.length + us.length) = (f + us.length) + ts.length by omega, h, k]
  simp
/-- A number ahead of a glyph. -/
theorem Heads.one {c : UInt8} {s : List UInt8} (hg : c :: s ∈ glyChars) (h1 : digB c = false) (h2 : c ≠ 194) (h3 : c ≠ 32) : Heads (49 :: c :: s) [⟨1, [], numsArr [1]⟩, ⟨3, c :: s, noArr⟩] := fun l f => by
  rw [show f + ([⟨1, [], numsArr [1]⟩, ⟨3, c :: s, noArr⟩] : List Tok).length = (f + 1) + 1 from rfl, List.cons_append, List.cons_append, toks_step (r := c :: (s ++ l)) (f + 1) (by decide) (read_1 (s ++ l) h1 h2 h3) (by decide)]
  have := Heads.gl hg l f
  rw [show f + ([⟨3, c :: s, noArr⟩] : List Tok).length = f + 1 from rfl, List.cons_append] at this
  rw [this]; rfl
theorem Heads.two {c : UInt8} {s : List UInt8} (hg : c :: s ∈ glyChars) (h1 : digB c = false) (h2 : c ≠ 194) (h3 : c ≠ 32) : Heads (49 :: 32 :: 50 :: c :: s) [⟨1, [], numsArr [1, 2]⟩, ⟨3, c :: s, noArr⟩] := fun l f => by
  rw [show f + ([⟨1, [], numsArr [1, 2]⟩, ⟨3, c :: s, noArr⟩] : List Tok).length = (f + 1) + 1 from rfl, List.cons_append, List.cons_append, List.cons_append, List.cons_append, toks_step (r := 32 :: 50 :: c :: (s ++ l)) (f + 1) (by decide) (read_12 (s ++ l) h1 h2 h3) (by decide)]
  have := Heads.gl hg l f
  rw [show f + ([⟨3, c :: s, noArr⟩] : List Tok).length = f + 1 from rfl, List.cons_append] at this
  rw [this]; rfl
/-- What stands ahead: the bytes, the tokens but the last one, that one. -/
def aheads : List (List UInt8 × List Tok × Tok) :=
  [([45], [], ⟨3, [45], noArr⟩), ([226, 141, 180], [], ⟨3, [226, 141, 180], noArr⟩), ([49, 45], [⟨1, [], numsArr [1]⟩], ⟨3, [45], noArr⟩), ([49, 44], [⟨1, [], numsArr [1]⟩], ⟨3, [44], noArr⟩),
   ([49, 32, 50, 43, 46, 195, 151], [⟨1, [], numsArr [1, 2]⟩, ⟨3, [43], noArr⟩, ⟨3, [46], noArr⟩], ⟨3, [195, 151], noArr⟩), ([43, 47], [⟨3, [43], noArr⟩], ⟨3, [47], noArr⟩),
   ([49, 226, 136, 152, 46, 61], [⟨1, [], numsArr [1]⟩, ⟨3, [226, 136, 152], noArr⟩, ⟨3, [46], noArr⟩], ⟨3, [61], noArr⟩)]
theorem aheads_heads : ∀ a ∈ aheads, Heads a.1 (a.2.1 ++ [a.2.2]) := by
  have g := fun (x : List UInt8) (h : x ∈ glyChars) => Heads.gl h
  intro a ha
  simp only [aheads, List.mem_cons, List.not_mem_nil, or_false] at ha
  rcases ha with rfl | rfl | rfl | rfl | rfl | rfl | rfl
  · exact g [45] (by decide)
  · exact g [226, 141, 180] (by decide)
  · exact Heads.one (c := 45) (s := []) (by decide) (by decide) (by decide) (by decide)
  · exact Heads.one (c := 44) (s := []) (by decide) (by decide) (by decide) (by decide)
  · exact ((Heads.two (c := 43) (s := []) (by decide) (by decide) (by decide) (by decide)).app (g [46] (by decide))).app (g [195, 151] (by decide))
  · exact (g [43] (by decide)).app (g [47] (by decide))
  · exact ((Heads.one (c := 226) (s := [136, 152]) (by decide) (by decide) (by decide) (by decide)).app (g [46] (by decide))).app (g [61] (by decide))
/-- A text's tokens, with such a thing ahead. -/
theorem tokens_ahead {p : List UInt8} {ts : List Tok} (hp : Heads p ts) (hv : validD p = true) (hlen : ts.length ≤ p.length) {l : List UInt8} {T : List Tok} (h : tokensOf l = (T, 0)) : tokensOf (p ++ l) = if ts.length + T.length ≤ 4000 then (ts ++ T, 0) else ([], 9) := by
  unfold tokensOf at h
  cases hvl : validD l with
  | false => rw [if_pos hvl] at h; cases h
  | true =>
    rw [if_neg (by rw [hvl]; simp)] at h
    simp only at h
    by_cases hb : (toksFrom (l.length + 1) l).2.1 = true
    · rw [if_pos hb] at h; cases h
    · have hb : (toksFrom (l.length + 1) l).2.1 = false := by simpa using hb
      rw [hb] at h
      simp only [Bool.false_eq_true, if_false] at h
      by_cases hm : (toksFrom (l.length + 1) l).2.2 = true ∨ 4000 < (toksFrom (l.length + 1) l).1.length
      · rw [if_pos hm] at h; cases h
      · rw [if_neg hm] at h
        injection h with h _
        have hmm : (toksFrom (l.length + 1) l).2.2 = false := by
          cases hc : (toksFrom (l.length + 1) l).2.2 with
          | false => rfl
          | true => exact absurd (.inl hc) hm
        have e : toksFrom ((p ++ l).length + 1) (p ++ l) = (ts ++ T, false, false) := by
          have h2 := hp l (p.length + l.length + 1 - ts.length)
          rw [show p.length + l.length + 1 - ts.length + ts.length = (p ++ l).length + 1 by rw [List.length_append]; omega, toksFrom_more _ (l.length + 1) l (by omega) (by omega), hb, hmm, h] at h2
          exact h2
        unfold tokensOf
        rw [if_neg (by rw [valid_append hv, hvl]; simp)]
        simp only
        rw [e]
        simp only [Bool.false_eq_true, if_false, false_or, List.length_append]
        by_cases hT : ts.length + T.length ≤ 4000
        · rw [if_pos hT, if_neg (by omega)]
        · rw [if_neg hT, if_pos (by omega)]
end Go.Proofs.YtijfnnjgcgmnaaaGreatDoor
namespace Go.Proofs.YtijfnnjgcgmnaaaGreatDoor.Par
open Go.RowKit Go.Shelf
open Go.Lib (validD)
set_option linter.unusedVariables false
set_option linter.unusedSimpArgs false

/-- Brackets that match do so above others. -/
theorem matchF_under : ∀ (l : List Tok) (st : List Int) (d : Nat) (st' : List Int) (d' : Nat), matchF st d l = some (st', d') → ∀ (st2 : List Int) (e : Nat), ∃ e', matchF (st ++ st2) e l = some (st' ++ st2, e') := by
  intro l
  induction l with
  | nil =>
    intro st d st' d' h st2 e
    rw [matchF] at h
    injection h with h; injection h with h1 h2; subst h1
    exact ⟨e, rfl⟩
  | cons t r ih =>
    intro st d st' d' h st2 e
    rw [matchF] at h ⊢
    by_cases h1 : brk t < 0
    · rw [if_pos h1] at h ⊢; exact ih _ _ _ _ h st2 e
    · rw [if_neg h1] at h ⊢
      by_cases h2 : isOpen t = true
      · rw [if_pos h2] at h ⊢; exact ih _ _ _ _ h st2 _
      · rw [if_neg h2] at h ⊢
        by_cases h3 : st.head? = some (brk t)
        · rw [if_pos h3] at h
          cases st with
          | nil => cases h3
          | cons s st =>
            rw [List.cons_append]
            rw [if_pos (by simpa using h3)]
            exact ih _ _ _ _ h st2 _
        · rw [if_neg h3] at h; cases h
theorem matched_some {l : List Tok} {d : Int} (h : matchedF l = (d, true)) : ∃ d', matchF [] 0 l = some ([], d') ∧ d = (d' : Int) := by
  unfold matchedF at h
  split at h
  · cases h
  · rename_i st d' he
    have hst : st = [] := by have := congrArg Prod.snd h; simpa using this
    subst hst
    exact ⟨d', he, (congrArg Prod.fst h).symm⟩
theorem matched_wrap {l : List Tok} {d : Int} (h : matchedF l = (d, true)) : (matchedF (wrap l)).2 = true := by
  obtain ⟨d', h1, -⟩ := matched_some h
  obtain ⟨e', h2⟩ := matchF_under l [] 0 [] d' h1 [0] 1
  have e : matchF [] 0 (wrap l) = some ([], e') := by
    have b1 : ¬ brk tLP < 0 := by decide
    have b2 : isOpen tLP = true := by decide
    have b3 : ¬ brk tRP < 0 := by decide
    have b4 : ¬ isOpen tRP = true := by decide
    have b5 : brk tLP = 0 := by decide
    have b6 : brk tRP = 0 := by decide
    show matchF [] 0 (tLP :: (l ++ [tRP])) = _
    rw [matchF, if_neg b1, if_pos b2, matchF_append, b5]
    have h2 : matchF [0] 1 l = some ([0], e') := h2
    rw [show max 0 (([] : List Int).length + 1) = 1 from rfl, h2]
    simp only [Option.bind_some]
    rw [matchF, if_neg b3, if_neg b4, b6, if_pos (by rfl)]
    rfl
  unfold matchedF; rw [e]; rfl
/-- Tokens without brackets ahead make no difference. -/
theorem matchF_plain : ∀ (f : List Tok) (st : List Int) (d : Nat), (∀ t ∈ f, brk t < 0) → ∀ l, matchF st d (f ++ l) = matchF st d l := by
  intro f
  induction f with
  | nil => intro st d _ l; rfl
  | cons t r ih =>
    intro st d h l
    rw [List.cons_append, matchF, if_pos (h t (by simp))]
    exact ih st d (fun u hu => h u (by simp [hu])) l
theorem matched_plain {f : List Tok} (h : ∀ t ∈ f, brk t < 0) (l : List Tok) : matchedF (f ++ l) = matchedF l := by
  unfold matchedF; rw [matchF_plain f [] 0 h l]
theorem set_none {t : Tok} {r : List Tok} (h : ¬ t.kind = 2) : setF (t :: r) = none := by
  unfold setF
  split
  · rename_i t' u r' e
    injection e with e1 e2; subst e1
    rw [if_neg (fun hc => h hc.1)]
  · rfl
theorem stm_plain {F : List (List UInt8)} {t : Tok} {r : List Tok} (h : ¬ t.kind = 2) : stmtF F (t :: r) = (exprF F (fuel (t :: r)) false (t :: r)).map fun x => ⟨1, [], x, .nil⟩ := by
  unfold stmtF; rw [set_none h]
/-- Of a statement that is a value alone. -/
theorem stm_value {F : List (List UInt8)} {l : List Tok} {x : Stm} (h : stmtF F l = some x) (hk : x.kind = 1) : ∃ y, exprF F (fuel l) false l = some y ∧ x = ⟨1, [], y, .nil⟩ := by
  unfold stmtF at h
  split at h
  · obtain ⟨y, hy, rfl⟩ := Option.map_eq_some_iff.1 h
    exact ⟨y, hy, rfl⟩
  · split at h
    · cases h
    · split at h
      · obtain ⟨y, hy, rfl⟩ := Option.map_eq_some_iff.1 h; cases hk
      · obtain ⟨y, hy, rfl⟩ := Option.map_eq_some_iff.1 h; cases hk
theorem state_of {F : List (List UInt8)} {l : List Tok} {x : Stm} (h : stateOf F l = (x, 0)) : ∃ d, matchedF l = (d, true) ∧ d ≤ 50 ∧ stmtF F l = some x := by
  unfold stateOf at h
  split at h
  · cases h
  · rename_i h1
    split at h
    · cases h
    · rename_i h2
      split at h
      · cases h
      · rename_i y hy
        injection h with h _
        subst h
        refine ⟨(matchedF l).1, ?_, by omega, hy⟩
        have h3 : (matchedF l).2 = true := by simpa using h1
        rw [← h3]
/-- The law's plain part. -/
theorem closed_law (F : List (List UInt8)) (s : List UInt8) (hx : (treeOf F s).2 = 0) (hk : (treeOf F s).1.kind = 1) (a : List UInt8 × List Tok × Tok) (ha : a ∈ aheads) :
    ((treeOf F (40 :: s ++ [41])).2 = 9 ∨ (treeOf F (a.1 ++ s)).2 = 9 ∨ (treeOf F (a.1 ++ (40 :: s ++ [41]))).2 = 9) ∨
    (treeOf F (40 :: s ++ [41]) = treeOf F s ∧ treeOf F (a.1 ++ s) = treeOf F (a.1 ++ (40 :: s ++ [41]))) := by
  have hH := aheads_heads a ha
  have hA : validD a.1 = true ∧ (a.2.1 ++ [a.2.2]).length ≤ a.1.length ∧ (∀ t ∈ a.2.1 ++ [a.2.2], brk t < 0) ∧ isG a.2.2 gDot = false ∧ (∀ t ∈ a.2.1 ++ [a.2.2], wt t = 0) ∧ (∀ t ∈ a.2.1 ++ [a.2.2], ¬ t.kind = 2) ∧ a.2.2.kind = 3 ∧ isG a.2.2 gRP = false ∧ isG a.2.2 gRB = false ∧ isG a.2.2 gAlpha = false ∧ isG a.2.2 gOmega = false := by
    simp only [aheads, List.mem_cons, List.not_mem_nil, or_false] at ha
    rcases ha with rfl | rfl | rfl | rfl | rfl | rfl | rfl <;> decide
  obtain ⟨hv, hl, hbr, hdot, hwt, hk2, q1, q2, q3, q4, q5⟩ := hA
  have hend : endsT F a.2.2 = false := by unfold endsT; rw [q1, q2, q3, q4, q5]; simp
  obtain ⟨p, f0, w⟩ := a
  simp only at hH hv hl hbr hdot hwt hk2 hend ⊢
  have hS : ∀ (f : List Tok), (∀ t ∈ f, wt t = 0) → S f = 0 := by
    intro f
    induction f with
    | nil => intro _; rfl
    | cons t r ih => intro h; rw [S, h t (by simp), ih (fun u hu => h u (by simp [hu]))]; rfl
  have hfd : Dyck (f0 ++ [w]) := ⟨hS _ hwt, fun k => by rw [hS _ (fun t ht => hwt t (List.mem_of_mem_drop ht))]; exact Int.le_refl _⟩
  -- the text itself
  have hx0 := hx
  unfold treeOf at hx hk
  by_cases h0 : (tokensOf s).2 = 0
  · rw [if_pos h0] at hx hk
    have htk : tokensOf s = ((tokensOf s).1, 0) := by rw [← h0]
    obtain ⟨T, hT⟩ : ∃ T, (tokensOf s).1 = T := ⟨_, rfl⟩
    rw [hT] at htk hx hk
    have hst : stateOf F T = ((stateOf F T).1, 0) := by rw [← hx]
    obtain ⟨d, m1, m2, m3⟩ := state_of hst
    obtain ⟨y, hy, hxe⟩ := stm_value m3 hk
    have hdT := match_dyck m1
    have htree : treeOf F s = (⟨1, [], y, .nil⟩, 0) := by unfold treeOf; rw [htk]; simp only [if_true]; rw [hst, hxe]
    have hne : T ≠ [] := by rintro rfl; rw [expr_nil] at hy; cases hy
    have hwr := tokens_wrapped htk
    have hwE : ∀ m, 8 * (T.length + 2) + 3 ≤ m → exprF F m false (wrap T) = some y := fun m hm => wrap_expr F false hdT hy (by unfold fuel; omega) hm
    have hmw := matched_wrap m1
    have hfw : fuel (wrap T) = 8 * (T.length + 2) + 16 := by unfold fuel; rw [wrap_len]
    have hstw : (stateOf F (wrap T)).2 = 9 ∨ stateOf F (wrap T) = (⟨1, [], y, .nil⟩, 0) := by
      unfold stateOf
      rw [if_neg (by rw [hmw]; simp)]
      by_cases h50 : 50 < (matchedF (wrap T)).1
      · rw [if_pos h50]; exact .inl rfl
      · rw [if_neg h50]
        have hs : stmtF F (wrap T) = some ⟨1, [], y, .nil⟩ := by
          have h := stm_plain (F := F) (t := tLP) (r := T ++ [tRP]) (by decide)
          change stmtF F (wrap T) = _ at h
          rw [h]
          change Option.map _ (exprF F (fuel (wrap T)) false (wrap T)) = _
          rw [hwE _ (by rw [hfw]; omega)]; rfl
        rw [hs]; exact .inr rfl
    have hfst : ∀ X, ∃ t r, f0 ++ [w] ++ X = t :: r ∧ ¬ t.kind = 2 := fun X => by
      cases f0 with
      | nil => exact ⟨w, X, rfl, hk2 w (by simp)⟩
      | cons t r => exact ⟨t, r ++ [w] ++ X, rfl, hk2 t (by simp)⟩
    have hsm : ∀ X, stmtF F (f0 ++ [w] ++ X) = (exprF F (fuel (f0 ++ [w] ++ X)) false (f0 ++ [w] ++ X)).map fun x => ⟨1, [], x, .nil⟩ := fun X => by
      obtain ⟨t, r, e, h⟩ := hfst X
      rw [e]; exact stm_plain h
    have hEq : stmtF F (f0 ++ [w] ++ T) = stmtF F (f0 ++ [w] ++ wrap T) := by
      rw [hsm, hsm]
      rw [wrap_right F false hfd hdot hend hdT hy (by unfold fuel; omega) (m := fuel (f0 ++ [w] ++ T)) (k := fuel (f0 ++ [w] ++ wrap T)) (by unfold fuel; omega) (by unfold fuel; omega)]
    by_cases hn2 : T.length + 2 ≤ 4000
    · rw [if_pos hn2] at hwr
      have hwr : tokensOf (40 :: s ++ [41]) = (wrap T, 0) := hwr
      have e0 : treeOf F (40 :: s ++ [41]) = stateOf F (wrap T) := by unfold treeOf; rw [hwr]; rfl
      have hq := tokens_ahead hH hv hl htk
      have hr := tokens_ahead hH hv hl hwr
      by_cases hn : (f0 ++ [w]).length + T.length ≤ 4000
      · rw [if_pos hn] at hq
        by_cases hn3 : (f0 ++ [w]).length + (wrap T).length ≤ 4000
        · rw [if_pos hn3] at hr
          have e1 : treeOf F (p ++ s) = stateOf F (f0 ++ [w] ++ T) := by unfold treeOf; rw [hq]; rfl
          have e2 : treeOf F (p ++ (40 :: s ++ [41])) = stateOf F (f0 ++ [w] ++ wrap T) := by unfold treeOf; rw [hr]; rfl
          rcases hstw with h9 | hs
          · left; left; rw [e0]; exact h9
          · have h50 : ¬ 50 < (matchedF (wrap T)).1 := by
              intro h
              unfold stateOf at hs
              rw [if_neg (by rw [hmw]; simp), if_pos h] at hs
              have := congrArg Prod.snd hs; cases this
            right
            refine ⟨by rw [e0, htree]; exact hs, ?_⟩
            rw [e1, e2]
            unfold stateOf
            rw [matched_plain hbr, matched_plain hbr, m1, if_neg (show ¬ (d, true).2 = false by simp), if_neg (show ¬ 50 < (d, true).1 by simp only; omega), if_neg (show ¬ (matchedF (wrap T)).2 = false by rw [hmw]; simp), if_neg h50, hEq]
        · rw [if_neg hn3] at hr
          left; right; right; unfold treeOf; rw [hr]; rfl
      · rw [if_neg hn] at hq
        left; right; left; unfold treeOf; rw [hq]; rfl
    · rw [if_neg hn2] at hwr
      left; left; unfold treeOf; rw [hwr]; rfl
  · rw [if_neg h0] at hx; exact absurd hx h0
end Go.Proofs.YtijfnnjgcgmnaaaGreatDoor.Par

namespace Go.Proofs.YtijfnnjgcgmnaaaGreatDoor.Par
open Go.RowKit Go.Shelf
set_option linter.unusedVariables false
set_option linter.unusedSimpArgs false

theorem tree_s (F : List (List UInt8)) (hF : F.length ≤ 1000) (s : List UInt8) (fv : Value) (w : World) (hs : s.length ≤ 300000) (hfs : Strs w fv (F.map bs)) (hG : Glob w) (hgy : Gly w) (S : ByteArray) (hS : S = bs s) (p : Stm × Int) (hp : treeOf F s = p) :
    Calls Tryz.prog 9 #[.string S, fv] w fun e w' => StateA w w' p e := by
  subst hS hp; exact tree_any F hF s fv w hs hfs hG hgy
def headRow : Array Value := #[.string ⟨#[45]⟩, .string ⟨#[226, 141, 180]⟩, .string ⟨#[49, 45]⟩, .string ⟨#[49, 44]⟩, .string ⟨#[49, 32, 50, 43, 46, 195, 151]⟩, .string ⟨#[43, 47]⟩, .string ⟨#[49, 226, 136, 152, 46, 61]⟩]
theorem head_at (k : Nat) (hk : k < 7) : ∃ a ∈ aheads, headRow[k]? = some (.string (bs a.1)) ∧ a.1.length ≤ 7 := by
  have : k = 0 ∨ k = 1 ∨ k = 2 ∨ k = 3 ∨ k = 4 ∨ k = 5 ∨ k = 6 := by omega
  rcases this with rfl | rfl | rfl | rfl | rfl | rfl | rfl
  · exact ⟨([45], _, _), .head _, rfl, by decide⟩
  · exact ⟨([226, 141, 180], _, _), .tail _ (.head _), rfl, by decide⟩
  · exact ⟨([49, 45], _, _), .tail _ (.tail _ (.head _)), rfl, by decide⟩
  · exact ⟨([49, 44], _, _), .tail _ (.tail _ (.tail _ (.head _))), rfl, by decide⟩
  · exact ⟨([49, 32, 50, 43, 46, 195, 151], _, _), .tail _ (.tail _ (.tail _ (.tail _ (.head _)))), rfl, by decide⟩
  · exact ⟨([43, 47], _, _), .tail _ (.tail _ (.tail _ (.tail _ (.tail _ (.head _))))), rfl, by decide⟩
  · exact ⟨([49, 226, 136, 152, 46, 61], _, _), .tail _ (.tail _ (.tail _ (.tail _ (.tail _ (.tail _ (.head _)))))), rfl, by decide⟩
set_option maxRecDepth 100000 in
set_option maxHeartbeats 8000000 in
theorem closed_walk (l : List UInt8) (F : List (List UInt8)) (fv : Value) (n : Int) (w : World) (hn0 : 0 ≤ n) (hn1 : n ≤ 255) (hf : Strs w fv (F.map bs)) (hG : Glob w) (hgy : Gly w) :
    Calls Tryz.prog 3 #[.string (bs l), fv, .int .u8 n] w fun e w' => e = .returned (.bool true) ∧ Below w.heap.size w w' := by
  obtain ⟨m, rfl⟩ : ∃ m : Nat, n = (m : Int) := ⟨n.toNat, by omega⟩
  obtain ⟨fa, fc, rfl, -⟩ := id hf
  rw [List.length_map] at hf ⊢
  go_enter Tryz.func3, Tryz.ntmps3
  go_wp2_with fail
  refine (alive18_any w hG hgy).mono ?_
  rintro e w1 ⟨rfl, b1⟩
  have hgr := great18_any (bs l) fa F.length fc w1
  rw [bs_size] at hgr
  obtain ⟨GT, hGT⟩ : ∃ g, (decide (8000 < l.length) || decide (50 < F.length)) = g := ⟨_, rfl⟩
  rw [hGT] at hgr
  have HGT := hid hGT
  clear hGT
  go_wp2_with fail
  refine hgr.mono ?_
  rintro e w2 ⟨rfl, b2⟩
  have hB2 := b1.trans (b2.mono b1.size)
  clear hgr b1 b2
  cases GT with
  | true =>
    go_wp2_with fail
    go_ret
    exact ⟨rfl, hB2⟩
  | false =>
    have hs := HGT.out
    simp only [Bool.or_eq_false_iff, decide_eq_false_iff_not] at hs
    obtain ⟨hl, hF⟩ := hs
    clear HGT
    obtain ⟨k, hk⟩ : ∃ k, m % 7 = k := ⟨_, rfl⟩
    have hk7 : k < 7 := by omega
    obtain ⟨A, hA1, hA2, hA3⟩ := head_at k hk7
    have hlaw := closed_law F l
    obtain ⟨X, hX⟩ : ∃ X, treeOf F l = X := ⟨_, rfl⟩
    obtain ⟨P, hP⟩ : ∃ X, treeOf F (40 :: l ++ [41]) = X := ⟨_, rfl⟩
    obtain ⟨Q, hQ⟩ : ∃ X, treeOf F (A.1 ++ l) = X := ⟨_, rfl⟩
    obtain ⟨R, hR⟩ : ∃ X, treeOf F (A.1 ++ (40 :: l ++ [41])) = X := ⟨_, rfl⟩
    have hlaw2 : X.2 = 0 → X.1.kind = 1 → (P.2 = 9 ∨ Q.2 = 9 ∨ R.2 = 9) ∨ (P = X ∧ Q = R) := fun h1 h2 => by
      have := hlaw (by rw [hX]; exact h1) (by rw [hX]; exact h2) A hA1
      rw [hX, hP, hQ, hR] at this; exact this
    have okX := treeOf_ok F l
    rw [hX] at okX
    have okQ := treeOf_ok F (A.1 ++ l)
    rw [hQ] at okQ
    have hT := fun (s : List UInt8) (hs : s.length ≤ 300000) V (hV : Below w2.heap.size w2 V) => tree_s F (by omega) s (.slice fa F.length fc) V hs (Strs.soft hf (Soft.of_below (hB2.trans (hV.mono hB2.size)))) (hG.below (hB2.trans (hV.mono hB2.size))) (hgy.below (hB2.trans (hV.mono hB2.size)))
    have cX := fun V hV => hT l (by omega) V hV (bs l) rfl X hX
    have cP := fun V hV => hT (40 :: l ++ [41]) (by simp; omega) V hV (bs [40] ++ bs l ++ bs [41]) (by rw [bs_append, bs_append]; rfl) P hP
    have cQ := fun V hV => hT (A.1 ++ l) (by simp; omega) V hV (bs A.1 ++ bs l) (by rw [bs_append]) Q hQ
    have cR := fun V hV => hT (A.1 ++ (40 :: l ++ [41])) (by simp; omega) V hV (bs A.1 ++ bs [40] ++ bs l ++ bs [41]) (by rw [bs_append, bs_append, bs_append, List.append_assoc, List.append_assoc]; rfl) R hR
    rw [show bs [40] = ⟨#[40]⟩ from rfl, show bs [41] = ⟨#[41]⟩ from rfl] at cP cR
    have hzA : ((bs A.1).size : Int) ≤ 7 := by rw [bs_size]; omega
    have hzl : ((bs l).size : Int) ≤ 8000 := by rw [bs_size]; omega
    have HA2 := hid hA2
    have Hlaw := hid hlaw2
    generalize bs A.1 = AB at *
    clear hlaw hlaw2 hX hP hQ hR hT hf hG hgy hA1 hA2 hA3
    have hcx := cX w2 (Below.refl _ _)
    clear cX
    go_wp2_with fail
    refine hcx.mono ?_
    intro e w3 hst
    obtain ⟨xa, xc, xe, xec, xb, xbc, xk, xkc, xd, xdc, rfl, iX, b3⟩ := hst.row
    have hX4 := heap_alloc_new w3 (.cells #[.int .i64 X.1.kind, .string (bs X.1.name), .int .i64 X.1.expr.kind, .string (bs X.1.expr.name), .int .i64 X.1.expr.val.kind, .slice xa X.1.expr.val.shape.length xc, .slice xe X.1.expr.val.elems.length xec, .int .i64 X.1.expr.fn.kind, .int .i64 X.1.expr.fn.f, .int .i64 X.1.expr.fn.g, .string (bs X.1.expr.fn.name), .slice xb X.1.expr.fn.body.len xbc, .slice xk X.1.expr.kids.len xkc, .slice xd X.1.body.len xdc] 36)
    have hb4 := (Below.refl _ w3).alloc (Nat.le_refl _) (.cells #[.int .i64 X.1.kind, .string (bs X.1.name), .int .i64 X.1.expr.kind, .string (bs X.1.expr.name), .int .i64 X.1.expr.val.kind, .slice xa X.1.expr.val.shape.length xc, .slice xe X.1.expr.val.elems.length xec, .int .i64 X.1.expr.fn.kind, .int .i64 X.1.expr.fn.f, .int .i64 X.1.expr.fn.g, .string (bs X.1.expr.fn.name), .slice xb X.1.expr.fn.body.len xbc, .slice xk X.1.expr.kids.len xkc, .slice xd X.1.body.len xdc] 36)
    clear hcx hst
    go_upto_region 5 with fail
    generalize w3.alloc (.cells #[.int .i64 X.1.kind, .string (bs X.1.name), .int .i64 X.1.expr.kind, .string (bs X.1.expr.name), .int .i64 X.1.expr.val.kind, .slice xa X.1.expr.val.shape.length xc, .slice xe X.1.expr.val.elems.length xec, .int .i64 X.1.expr.fn.kind, .int .i64 X.1.expr.fn.f, .int .i64 X.1.expr.fn.g, .string (bs X.1.expr.fn.name), .slice xb X.1.expr.fn.body.len xbc, .slice xk X.1.expr.kids.len xkc, .slice xd X.1.body.len xdc] 36) = w4 at *
    have hB4 := b3.trans (hb4.mono b3.size)
    have jX := iX.below hb4
    clear iX hb4 b3
    obtain ⟨c0, c1, c2, c3, c4, c5, c6, c7, c8, c9, c10, c11, c12, c13⟩ := st_facts hX4
    have hW4 := hB2.trans (hB4.mono hB2.size)
    by_cases h0 : X.2 = 0
    · by_cases h1 : X.1.kind = 1
      · have t0 : (X.2 != 0) = false := by simp [h0]
        have t1 : (X.1.kind != 1) = false := by simp [h1]
        have hL := Hlaw.out h0 h1
        have HL := hid hL
        clear h0 h1 Hlaw hL
        go_upto_region 7 with fail
        clear c0 c1 c2 c3 c4 c5 c6 c7 c8 c9 c10 c11 c12 c13
        have hA5 := heap_alloc_new w4 (.cells headRow 9)
        have hb5 := (Below.refl _ w4).alloc (Nat.le_refl _) (.cells headRow 9)
        unfold headRow at hA5 hb5
        go_upto_region 8 with fail
        generalize w4.alloc (.cells #[.string ⟨#[45]⟩, .string ⟨#[226, 141, 180]⟩, .string ⟨#[49, 45]⟩, .string ⟨#[49, 44]⟩, .string ⟨#[49, 32, 50, 43, 46, 195, 151]⟩, .string ⟨#[43, 47]⟩, .string ⟨#[49, 226, 136, 152, 46, 61]⟩] 9) = w5 at *
        have hX5 := (hb5.block _ (Array.getElem?_eq_some_iff.1 hX4).1).trans hX4
        have hB5 := hB4.trans (hb5.mono hB4.size)
        have jX5 := jX.below hb5
        have hcell : w5.cell? ⟨w4.heap.size, k, none⟩ = some (.string AB) := by rw [Lib.cell_of_heap hA5]; exact HA2.out
        have hwn : (IntKind.i64.wrap (m : Int)).tmod 7 = (k : Int) := by rw [show IntKind.i64.wrap (m : Int) = m from IntWalk.i64_in _ (by omega), Int.tmod_eq_emod_of_nonneg (by omega)]; omega
        have hwn2 : IntKind.i64.wrap (m : Int) = m := IntWalk.i64_in _ (by omega)
        have hwn3 : (m : Int).tmod 7 = (k : Int) := by rw [Int.tmod_eq_emod_of_nonneg (by omega)]; omega
        have hkn : (m : Int) % 7 = (k : Int) := by omega
        have hk0 : (0 : Int) ≤ (k : Int) := by omega
        have hk7' : (k : Int) < 7 := by omega
        have hwk : IntKind.i64.wrap (k : Int) = (k : Int) := IntWalk.i64_in _ (by omega)
        have hcp := cP w5 hB5
        clear hX4 jX hb5 hA5 HA2 cP hB4 hW4
        go_wp2_with fail
        refine hcp.mono ?_
        intro e w6 hst
        obtain ⟨pa, pc, pe, pec, pb, pbc, pk, pkc, pd, pdc, rfl, iP, b6⟩ := hst.row
        have hP7 := heap_alloc_new w6 (.cells #[.int .i64 P.1.kind, .string (bs P.1.name), .int .i64 P.1.expr.kind, .string (bs P.1.expr.name), .int .i64 P.1.expr.val.kind, .slice pa P.1.expr.val.shape.length pc, .slice pe P.1.expr.val.elems.length pec, .int .i64 P.1.expr.fn.kind, .int .i64 P.1.expr.fn.f, .int .i64 P.1.expr.fn.g, .string (bs P.1.expr.fn.name), .slice pb P.1.expr.fn.body.len pbc, .slice pk P.1.expr.kids.len pkc, .slice pd P.1.body.len pdc] 36)
        have hb7 := (Below.refl _ w6).alloc (Nat.le_refl _) (.cells #[.int .i64 P.1.kind, .string (bs P.1.name), .int .i64 P.1.expr.kind, .string (bs P.1.expr.name), .int .i64 P.1.expr.val.kind, .slice pa P.1.expr.val.shape.length pc, .slice pe P.1.expr.val.elems.length pec, .int .i64 P.1.expr.fn.kind, .int .i64 P.1.expr.fn.f, .int .i64 P.1.expr.fn.g, .string (bs P.1.expr.fn.name), .slice pb P.1.expr.fn.body.len pbc, .slice pk P.1.expr.kids.len pkc, .slice pd P.1.body.len pdc] 36)
        clear hcp hst hcell hwn hwn2 hwn3 hkn hk0 hk7' hwk
        go_upto_region 10 with fail
        generalize w6.alloc (.cells #[.int .i64 P.1.kind, .string (bs P.1.name), .int .i64 P.1.expr.kind, .string (bs P.1.expr.name), .int .i64 P.1.expr.val.kind, .slice pa P.1.expr.val.shape.length pc, .slice pe P.1.expr.val.elems.length pec, .int .i64 P.1.expr.fn.kind, .int .i64 P.1.expr.fn.f, .int .i64 P.1.expr.fn.g, .string (bs P.1.expr.fn.name), .slice pb P.1.expr.fn.body.len pbc, .slice pk P.1.expr.kids.len pkc, .slice pd P.1.body.len pdc] 36) = w7 at *
        have hb57 := b6.trans (hb7.mono b6.size)
        have hB7 := hB5.trans (hb57.mono hB5.size)
        have hX7 := (hb57.block _ (Array.getElem?_eq_some_iff.1 hX5).1).trans hX5
        have jX7 := jX5.below hb57
        have jP7 := iP.below hb7
        have hcq := cQ w7 hB7
        clear hX5 jX5 iP hb7 b6 hb57 cQ hB5
        go_wp2_with fail
        refine hcq.mono ?_
        intro e w8 hst
        obtain ⟨qa, qc, qe, qec, qb, qbc, qk, qkc, qd, qdc, rfl, iQ, b8⟩ := hst.row
        have hQ9 := heap_alloc_new w8 (.cells #[.int .i64 Q.1.kind, .string (bs Q.1.name), .int .i64 Q.1.expr.kind, .string (bs Q.1.expr.name), .int .i64 Q.1.expr.val.kind, .slice qa Q.1.expr.val.shape.length qc, .slice qe Q.1.expr.val.elems.length qec, .int .i64 Q.1.expr.fn.kind, .int .i64 Q.1.expr.fn.f, .int .i64 Q.1.expr.fn.g, .string (bs Q.1.expr.fn.name), .slice qb Q.1.expr.fn.body.len qbc, .slice qk Q.1.expr.kids.len qkc, .slice qd Q.1.body.len qdc] 36)
        have hb9 := (Below.refl _ w8).alloc (Nat.le_refl _) (.cells #[.int .i64 Q.1.kind, .string (bs Q.1.name), .int .i64 Q.1.expr.kind, .string (bs Q.1.expr.name), .int .i64 Q.1.expr.val.kind, .slice qa Q.1.expr.val.shape.length qc, .slice qe Q.1.expr.val.elems.length qec, .int .i64 Q.1.expr.fn.kind, .int .i64 Q.1.expr.fn.f, .int .i64 Q.1.expr.fn.g, .string (bs Q.1.expr.fn.name), .slice qb Q.1.expr.fn.body.len qbc, .slice qk Q.1.expr.kids.len qkc, .slice qd Q.1.body.len qdc] 36)
        clear hcq hst
        go_upto_region 11 with fail
        generalize w8.alloc (.cells #[.int .i64 Q.1.kind, .string (bs Q.1.name), .int .i64 Q.1.expr.kind, .string (bs Q.1.expr.name), .int .i64 Q.1.expr.val.kind, .slice qa Q.1.expr.val.shape.length qc, .slice qe Q.1.expr.val.elems.length qec, .int .i64 Q.1.expr.fn.kind, .int .i64 Q.1.expr.fn.f, .int .i64 Q.1.expr.fn.g, .string (bs Q.1.expr.fn.name), .slice qb Q.1.expr.fn.body.len qbc, .slice qk Q.1.expr.kids.len qkc, .slice qd Q.1.body.len qdc] 36) = w9 at *
        have hb79 := b8.trans (hb9.mono b8.size)
        have hB9 := hB7.trans (hb79.mono hB7.size)
        have hX9 := (hb79.block _ (Array.getElem?_eq_some_iff.1 hX7).1).trans hX7
        have hP9 := (hb79.block _ (Array.getElem?_eq_some_iff.1 hP7).1).trans hP7
        have jX9 := jX7.below hb79
        have jP9 := jP7.below hb79
        have jQ9 := iQ.below hb9
        have hcr := cR w9 hB9
        clear hX7 hP7 jX7 jP7 iQ hb9 b8 hb79 cR hB7
        go_wp2_with fail
        refine hcr.mono ?_
        intro e w10 hst
        obtain ⟨ra, rc, re, rec_, rb, rbc, rk, rkc, rd, rdc, rfl, iR, b10⟩ := hst.row
        have hR11 := heap_alloc_new w10 (.cells #[.int .i64 R.1.kind, .string (bs R.1.name), .int .i64 R.1.expr.kind, .string (bs R.1.expr.name), .int .i64 R.1.expr.val.kind, .slice ra R.1.expr.val.shape.length rc, .slice re R.1.expr.val.elems.length rec_, .int .i64 R.1.expr.fn.kind, .int .i64 R.1.expr.fn.f, .int .i64 R.1.expr.fn.g, .string (bs R.1.expr.fn.name), .slice rb R.1.expr.fn.body.len rbc, .slice rk R.1.expr.kids.len rkc, .slice rd R.1.body.len rdc] 36)
        have hb11 := (Below.refl _ w10).alloc (Nat.le_refl _) (.cells #[.int .i64 R.1.kind, .string (bs R.1.name), .int .i64 R.1.expr.kind, .string (bs R.1.expr.name), .int .i64 R.1.expr.val.kind, .slice ra R.1.expr.val.shape.length rc, .slice re R.1.expr.val.elems.length rec_, .int .i64 R.1.expr.fn.kind, .int .i64 R.1.expr.fn.f, .int .i64 R.1.expr.fn.g, .string (bs R.1.expr.fn.name), .slice rb R.1.expr.fn.body.len rbc, .slice rk R.1.expr.kids.len rkc, .slice rd R.1.body.len rdc] 36)
        clear hcr hst
        go_upto_region 12 with fail
        generalize w10.alloc (.cells #[.int .i64 R.1.kind, .string (bs R.1.name), .int .i64 R.1.expr.kind, .string (bs R.1.expr.name), .int .i64 R.1.expr.val.kind, .slice ra R.1.expr.val.shape.length rc, .slice re R.1.expr.val.elems.length rec_, .int .i64 R.1.expr.fn.kind, .int .i64 R.1.expr.fn.f, .int .i64 R.1.expr.fn.g, .string (bs R.1.expr.fn.name), .slice rb R.1.expr.fn.body.len rbc, .slice rk R.1.expr.kids.len rkc, .slice rd R.1.body.len rdc] 36) = w11 at *
        have hb911 := b10.trans (hb11.mono b10.size)
        have hB11 := hB9.trans (hb911.mono hB9.size)
        have hX11 := (hb911.block _ (Array.getElem?_eq_some_iff.1 hX9).1).trans hX9
        have hP11 := (hb911.block _ (Array.getElem?_eq_some_iff.1 hP9).1).trans hP9
        have hQ11 := (hb911.block _ (Array.getElem?_eq_some_iff.1 hQ9).1).trans hQ9
        have jX11 := jX9.below hb911
        have jP11 := jP9.below hb911
        have jQ11 := jQ9.below hb911
        have jR11 := iR.below hb11
        have hW11 := hB2.trans (hB11.mono hB2.size)
        clear hX9 hP9 hQ9 jX9 jP9 jQ9 iR hb11 b10 hb911 hB9 hB11
        by_cases p9 : P.2 = 9
        · have t9 : (P.2 == 9) = true := by simp [p9]
          clear p9
          go_wp2_with fail
          go_ret
          exact ⟨rfl, hW11⟩
        · have t9 : (P.2 == 9) = false := by simpa using p9
          by_cases q9 : Q.2 = 9
          · have u9 : (Q.2 == 9) = true := by simp [q9]
            clear p9 q9
            go_wp2_with fail
            go_ret
            exact ⟨rfl, hW11⟩
          · have u9 : (Q.2 == 9) = false := by simpa using q9
            by_cases r9 : R.2 = 9
            · have v9 : (R.2 == 9) = true := by simp [r9]
              clear p9 q9 r9
              go_wp2_with fail
              go_ret
              exact ⟨rfl, hW11⟩
            · have v9 : (R.2 == 9) = false := by simpa using r9
              have hE : P = X ∧ Q = R := by
                rcases HL.out with (h | h | h) | h
                · exact absurd h p9
                · exact absurd h q9
                · exact absurd h r9
                · exact h
              obtain ⟨rfl, rfl⟩ := hE
              have e1 : (Q.2 == Q.2) = true := by simp
              have sm1 := pSame_any P.1 P.1 (.agg #[.int .i64 P.1.kind, .string (bs P.1.name), .int .i64 P.1.expr.kind, .string (bs P.1.expr.name), .int .i64 P.1.expr.val.kind, .slice pa P.1.expr.val.shape.length pc, .slice pe P.1.expr.val.elems.length pec, .int .i64 P.1.expr.fn.kind, .int .i64 P.1.expr.fn.f, .int .i64 P.1.expr.fn.g, .string (bs P.1.expr.fn.name), .slice pb P.1.expr.fn.body.len pbc, .slice pk P.1.expr.kids.len pkc, .slice pd P.1.body.len pdc]) (.agg #[.int .i64 P.1.kind, .string (bs P.1.name), .int .i64 P.1.expr.kind, .string (bs P.1.expr.name), .int .i64 P.1.expr.val.kind, .slice xa P.1.expr.val.shape.length xc, .slice xe P.1.expr.val.elems.length xec, .int .i64 P.1.expr.fn.kind, .int .i64 P.1.expr.fn.f, .int .i64 P.1.expr.fn.g, .string (bs P.1.expr.fn.name), .slice xb P.1.expr.fn.body.len xbc, .slice xk P.1.expr.kids.len xkc, .slice xd P.1.body.len xdc]) w11 okX.1 okX.2 okX.1 okX.2 jP11 jX11
              rw [decide_eq_true (rfl : P.1 = P.1)] at sm1
              have sm2 := fun V (hV : Below w11.heap.size w11 V) => pSame_any Q.1 Q.1 (.agg #[.int .i64 Q.1.kind, .string (bs Q.1.name), .int .i64 Q.1.expr.kind, .string (bs Q.1.expr.name), .int .i64 Q.1.expr.val.kind, .slice qa Q.1.expr.val.shape.length qc, .slice qe Q.1.expr.val.elems.length qec, .int .i64 Q.1.expr.fn.kind, .int .i64 Q.1.expr.fn.f, .int .i64 Q.1.expr.fn.g, .string (bs Q.1.expr.fn.name), .slice qb Q.1.expr.fn.body.len qbc, .slice qk Q.1.expr.kids.len qkc, .slice qd Q.1.body.len qdc]) (.agg #[.int .i64 Q.1.kind, .string (bs Q.1.name), .int .i64 Q.1.expr.kind, .string (bs Q.1.expr.name), .int .i64 Q.1.expr.val.kind, .slice ra Q.1.expr.val.shape.length rc, .slice re Q.1.expr.val.elems.length rec_, .int .i64 Q.1.expr.fn.kind, .int .i64 Q.1.expr.fn.f, .int .i64 Q.1.expr.fn.g, .string (bs Q.1.expr.fn.name), .slice rb Q.1.expr.fn.body.len rbc, .slice rk Q.1.expr.kids.len rkc, .slice rd Q.1.body.len rdc]) V okQ.1 okQ.2 okQ.1 okQ.2 (jQ11.below hV) (jR11.below hV)
              rw [decide_eq_true (rfl : Q.1 = Q.1)] at sm2
              have P0 : (P.2 == 0) = true := by
                have := t0
                simpa using this
              obtain ⟨c0, c1, c2, c3, c4, c5, c6, c7, c8, c9, c10, c11, c12, c13⟩ := st_facts hP11
              obtain ⟨d0, d1, d2, d3, d4, d5, d6, d7, d8, d9, d10, d11, d12, d13⟩ := st_facts hX11
              clear p9 q9 r9 HL jX11 jP11
              go_wp2_with fail
              refine sm1.mono ?_
              rintro e w12 ⟨rfl, b12⟩
              have hQ12 := (b12.block _ (Array.getElem?_eq_some_iff.1 hQ11).1).trans hQ11
              have hR12 := (b12.block _ (Array.getElem?_eq_some_iff.1 hR11).1).trans hR11
              have sm3 := sm2 w12 b12
              clear c0 c1 c2 c3 c4 c5 c6 c7 c8 c9 c10 c11 c12 c13 d0 d1 d2 d3 d4 d5 d6 d7 d8 d9 d10 d11 d12 d13 sm1 sm2 hP11 hX11 hQ11 hR11
              obtain ⟨c0, c1, c2, c3, c4, c5, c6, c7, c8, c9, c10, c11, c12, c13⟩ := st_facts hQ12
              obtain ⟨d0, d1, d2, d3, d4, d5, d6, d7, d8, d9, d10, d11, d12, d13⟩ := st_facts hR12
              go_wp2_with fail
              refine sm3.mono ?_
              rintro e w13 ⟨rfl, b13⟩
              go_wp2_with fail
              go_ret
              exact ⟨rfl, hW11.trans ((b12.trans (b13.mono b12.size)).mono hW11.size)⟩
      · have t0 : (X.2 != 0) = false := by simp [h0]
        have t1 : (X.1.kind != 1) = true := by simpa using h1
        clear h0 h1 Hlaw
        go_wp2_with fail
        go_ret
        exact ⟨rfl, hW4⟩
    · have t0 : (X.2 != 0) = true := by simpa using h0
      clear h0 Hlaw
      go_wp2_with fail
      go_ret
      exact ⟨rfl, hW4⟩
end Go.Proofs.YtijfnnjgcgmnaaaGreatDoor.Par
