/- Tokens, shown, are told again: characters, quotes, numbers. Plain.
   Tokens, shown, are told again: a token, whatever stands behind a blank. Plain.
   Tokens, shown, are told again: lists; what is told can be shown. Plain.
   UTF-8 is split at a byte below 128; what is left behind a token is UTF-8. Plain.
   What is told can be shown: tokens that are told are Good, and a Chain. Plain.
   Blanks ahead of a statement, and behind it, make no difference. Plain.
   A program's statements, put together, are split into the same. Plain. -/
import Derived.Test.YthlingdlehdlhaaGreatDoorTok
import Derived.Test.YthlingdlehdlhaaGreatDoorTextA
import Derived.Lib.MapLaws
import Derived.Lib.ValidLaws
import Derived.Test.YthlingdlehdlhaaGreatDoorBase
namespace Go.Proofs.YthlingdlehdlhaaGreatDoor
open Go.RowKit Go.Shelf
open Go.Lib (decodeL decodeN encodeRune decDigits)
set_option linter.unusedVariables false
set_option linter.unusedSimpArgs false

theorem getD_drop (l : List UInt8) (p i : Nat) : (l.drop p).getD i 0 = l.getD (p + i) 0 := by
  rw [List.getD_eq_getElem?_getD, List.getD_eq_getElem?_getD, List.getElem?_drop]

theorem decode_drop (l : List UInt8) (p : Nat) : Utf8.decode (bs l) p = decodeL (l.drop p) := by
  rw [Lib.decodeL_N, Lib.decode_N, bs_list, List.length_drop, getD_drop, getD_drop, getD_drop, getD_drop]; rfl

theorem u8v {z : Int} (h : 0 ≤ z ∧ z < 256) : z.toNat.toUInt8.toNat = z.toNat := by
  simp only [Nat.toUInt8, UInt8.toNat_ofNat']
  omega

theorem decode_enc {c : Int} (h : isChar c = true) (r : List UInt8) : decodeL (encodeRune c ++ r) = (c.toNat, (encodeRune c).length) := by
  obtain ⟨h0, h1, h2⟩ := isChar_cases h
  rw [Lib.decodeL_N]
  unfold encodeRune
  rcases enc_forms h with ⟨a1, a2, a3⟩ | ⟨a1, a2, a3⟩ | ⟨a1, a2, a3⟩ | ⟨a1, a2, a3⟩
  · rw [a3]
    simp only [List.map_cons, List.map_nil, List.cons_append, List.nil_append, List.getD_cons_zero, List.getD_cons_succ, List.length_cons, List.length_nil]
    rw [u8v (by omega)]
    exact Lib.decodeN_ascii _ _ _ _ _ (by omega)
  · rw [a3]
    simp only [List.map_cons, List.map_nil, List.cons_append, List.nil_append, List.getD_cons_zero, List.getD_cons_succ, List.length_cons, List.length_nil]
    rw [u8v (by omega), u8v (by omega)]
    unfold decodeN
    rw [if_neg (by omega), if_pos (by omega), if_pos (by omega)]
    apply Prod.ext <;> simp only <;> omega
  · rw [a3]
    simp only [List.map_cons, List.map_nil, List.cons_append, List.nil_append, List.getD_cons_zero, List.getD_cons_succ, List.length_cons, List.length_nil]
    rw [u8v (by omega), u8v (by omega), u8v (by omega)]
    unfold decodeN
    rw [if_neg (by omega), if_neg (by omega), if_pos (by omega), if_pos (by omega)]
    apply Prod.ext <;> simp only <;> omega
  · rw [a3]
    simp only [List.map_cons, List.map_nil, List.cons_append, List.nil_append, List.getD_cons_zero, List.getD_cons_succ, List.length_cons, List.length_nil]
    rw [u8v (by omega), u8v (by omega), u8v (by omega), u8v (by omega)]
    unfold decodeN
    rw [if_neg (by omega), if_neg (by omega), if_neg (by omega), if_pos (by omega), if_pos (by omega)]
    apply Prod.ext <;> simp only <;> omega

/-- A text's characters, from its list. -/
def runesL : Nat → List UInt8 → List Int
  | 0, _ => []
  | f + 1, l => if l = [] then [] else ((decodeL l).1 : Int) :: runesL f (l.drop (decodeL l).2)
theorem runesFrom_list (l : List UInt8) (f p : Nat) : runesFrom (bs l) f p = runesL f (l.drop p) := by
  induction f generalizing p with
  | zero => rfl
  | succ f ih =>
    rw [runesFrom, runesL, bs_size]
    by_cases h : p < l.length
    · rw [if_pos h, if_neg (by intro e; have := congrArg List.length e; simp at this; omega), decode_drop, ih, List.drop_drop]
    · rw [if_neg h, if_pos (List.drop_eq_nil_of_le (by omega))]
theorem runesOf_list (l : List UInt8) : runesOf (bs l) = runesL l.length l := by
  unfold runesOf
  rw [runesFrom_list, bs_size]; rfl

theorem tw_pre {p : UInt8 → Bool} {a r : List UInt8} (ha : ∀ c ∈ a, p c = true) (hr : ∀ c s, r = c :: s → p c = false) : (a ++ r).takeWhile p = a := by
  induction a with
  | nil =>
    cases r with
    | nil => rfl
    | cons c s => rw [List.nil_append, List.takeWhile_cons, if_neg (by rw [hr c s rfl]; simp)]
  | cons c a ih => rw [List.cons_append, List.takeWhile_cons, if_pos (ha c (by simp)), ih (fun x hx => ha x (by simp [hx]))]

end Go.Proofs.YthlingdlehdlhaaGreatDoor

namespace Go.Proofs.YthlingdlehdlhaaGreatDoor
open Go.RowKit Go.Shelf
open Go.Lib (decodeL decodeN encodeRune decDigits trimLeftB)
set_option linter.unusedVariables false
set_option linter.unusedSimpArgs false

/-- A value that a token can be: what 'Show' shows. -/
def canV (x : Arr) : Bool := okArr x && (decide (x.shape.length = 0) || (decide (x.shape.length = 1) && (!decide (x.elems.length = 1) && !(decide (x.elems.length = 0) && decide (x.kind = 1)))))
theorem canV_parts {x : Arr} (h : canV x = true) : okArr x = true ∧ bare x = true ∧ textOf x = elemText x ∧
    ((x = numsArr x.elems ∧ x.elems ≠ [] ∧ x.kind = 1) ∨ (x = chrsArr x.elems ∧ (∀ c ∈ x.elems, isChar c = true) ∧ x.kind = 2)) ∧ x.elems.length ≤ 4096 := by
  unfold canV at h
  rw [Bool.and_eq_true, Bool.or_eq_true] at h
  obtain ⟨ho, hs⟩ := h
  obtain ⟨hc, hk⟩ := okArr_parts ho
  have hle : x.elems.length ≤ 4096 := by have := count_le _ _ hc; omega
  have hb : bare x = true ∧ x.shape = (if x.elems.length = 1 then [] else [(x.elems.length : Int)]) ∧ (x.kind = 1 → x.elems ≠ []) := by
    rcases hs with hs | hs
    · have hs' : x.shape = [] := List.eq_nil_of_length_eq_zero (by simpa using hs)
      have h1 : x.elems.length = 1 := by rw [hs'] at hc; have : count [] = some 1 := rfl; rw [this] at hc; simp at hc; omega
      refine ⟨by unfold bare; rw [hs']; rfl, by rw [if_pos h1]; exact hs', fun _ e => by rw [e] at h1; simp at h1⟩
    · rw [Bool.and_eq_true, Bool.and_eq_true, decide_eq_true_eq] at hs
      obtain ⟨s1, s2, s3⟩ := hs
      obtain ⟨n, hn⟩ := List.length_eq_one_iff.1 s1
      have h1 : ¬ x.elems.length = 1 := by simpa using s2
      rw [hn, count_one] at hc
      split at hc
      · cases hc
      · have e : n = x.elems.length := by simpa using hc
        have h3 : ¬ (x.elems.length = 0 ∧ x.kind = 1) := by
          rintro ⟨a, b⟩
          rw [decide_eq_true a, decide_eq_true b] at s3
          cases s3
        refine ⟨?_, by rw [if_neg h1, hn, e], fun hk e => h3 ⟨by rw [e]; rfl, hk⟩⟩
        unfold bare
        rw [s1]
        by_cases h0 : x.elems.length = 0
        · have : x.kind = 2 := by
            rcases hk with hk | hk
            · exact absurd ⟨h0, hk⟩ h3
            · exact hk.1
          simp [h0, this]
        · have : 1 < x.elems.length := by omega
          simp [this]
  refine ⟨ho, hb.1, by unfold textOf; rw [if_pos hb.1], ?_, hle⟩
  rcases hk with hk | ⟨hk, hodd⟩
  · exact .inl ⟨by cases x; simp only at hk; subst hk; unfold numsArr; rw [← hb.2.1], hb.2.2 hk, hk⟩
  · exact .inr ⟨by cases x; simp only at hk; subst hk; unfold chrsArr; rw [← hb.2.1], hasOdd_all hodd, hk⟩

/-- A token that can be told of a text. -/
def Good (t : Tok) : Prop := (t.kind = 1 ∧ t.txt = [] ∧ canV t.val = true ∧ Rng t.val.elems) ∨ (t.kind = 2 ∧ namB (bs t.txt) = true ∧ t.val = noArr) ∨ (t.kind = 3 ∧ t.txt ∈ glyChars ∧ t.val = noArr)
def isNumT (t : Tok) : Bool := decide (t.kind = 1) && decide (t.val.kind = 1)

theorem namB_parts {s : List UInt8} (h : namB (bs s) = true) : (∃ c r, s = c :: r ∧ letB c = true) ∧ (∀ c ∈ s, innB c = true) ∧ s.length ≤ 12 := by
  unfold namB at h
  rw [Bool.and_eq_true, Bool.and_eq_true, Bool.and_eq_true, decide_eq_true_eq, decide_eq_true_eq, decide_eq_true_eq, bs_size] at h
  obtain ⟨⟨⟨h0, h1⟩, h2⟩, h3⟩ := h
  cases s with
  | nil => simp at h0
  | cons c r =>
    refine ⟨⟨c, r, rfl, by simpa [bt, bs_list] using h1⟩, fun x hx => ?_, h3⟩
    unfold frontOf at h2
    rw [bs_list] at h2
    have e : (c :: r).takeWhile innB = c :: r := (List.takeWhile_sublist _).eq_of_length h2
    rw [← e] at hx
    exact tw_all innB _ _ hx

end Go.Proofs.YthlingdlehdlhaaGreatDoor

namespace Go.Proofs.YthlingdlehdlhaaGreatDoor
open Go.RowKit Go.Shelf
open Go.Lib (decodeL decodeN encodeRune decDigits trimLeftB validD)
set_option linter.unusedVariables false
set_option linter.unusedSimpArgs false

/-- Tokens that can be told one behind the other. -/
def Chain : List Tok → Prop
  | [] => True
  | t :: r => Good t ∧ (∀ u s, r = u :: s → isNumT t = true → isNumT u = false) ∧ Chain r

/-! ### The text is UTF-8 -/
def EncT (l : List UInt8) : Prop := ∀ r, validD (l ++ r) = validD r
theorem enc_len3 (c : Int) (h : c = 65533) : (encodeRune c).length = 3 := by subst h; decide
theorem EncT.enc {c : Int} (h : isChar c = true) : EncT (encodeRune c) := fun r => by
  have hne := enc_ne c
  rw [Lib.validD_step _ (by simp [hne]), decode_enc h]
  simp only
  rw [List.drop_left, if_neg]
  rintro ⟨h1, h2⟩
  have := enc_len3 c (by have := (isChar_cases h).1; omega)
  omega
theorem enc_minus : encodeRune 175 = [194, 175] := by decide

theorem innB_ascii {c : UInt8} (h : innB c = true) : c.toNat < 128 := by
  rw [innB_eq, letB_eq] at h
  unfold digB at h
  simp only [Bool.or_eq_true, Bool.and_eq_true, decide_eq_true_eq, beq_iff_eq] at h
  omega

end Go.Proofs.YthlingdlehdlhaaGreatDoor

namespace Go.Proofs.YthlingdlehdlhaaGreatDoor
open Go.RowKit Go.Shelf
open Go.Lib (decodeL decodeN encodeRune decDigits trimLeftB validD)
set_option linter.unusedVariables false
set_option linter.unusedSimpArgs false

theorem isChar_of {n : Int} (h0 : 0 ≤ n) (h1 : n ≤ 1114111) (h2 : ¬ (55296 ≤ n ∧ n ≤ 57343)) : isChar n = true := by
  unfold isChar Lib.validRune
  simp only [Bool.and_eq_true, decide_eq_true_eq, Bool.or_eq_true]
  omega

theorem decode_char (l : List UInt8) : isChar ((decodeL l).1 : Int) = true := by
  rw [Lib.decodeL_N]
  have h0 : (l.getD 0 0).toNat < 256 := UInt8.toNat_lt _
  rcases Lib.decodeN_shape l.length (l.getD 0 0).toNat (l.getD 1 0).toNat (l.getD 2 0).toNat (l.getD 3 0).toNat with ⟨c, e⟩ | ⟨c1, c2, c3, cv, e⟩ | ⟨c1, c2, c3, c4, cv, cs, e⟩ | ⟨c1, c2, c3, c4, c5, cv, cw, e⟩ | e
  all_goals
    rw [e]
    exact isChar_of (by omega) (by simp only; omega) (by simp only; omega)

theorem getD_at (a b : List UInt8) (c : UInt8) : (a ++ c :: b).getD a.length 0 = c := by
  rw [List.getD_eq_getElem?_getD, List.getElem?_append_right (Nat.le_refl _)]; simp

theorem decode_short (a b : List UInt8) (c : UInt8) (hc : c.toNat < 128) (hne : a ≠ []) (hok : ¬ ((decodeL (a ++ c :: b)).1 = 65533 ∧ (decodeL (a ++ c :: b)).2 = 1)) : (decodeL (a ++ c :: b)).2 ≤ a.length := by
  have hl : 0 < a.length := List.length_pos_iff.2 hne
  have hat := getD_at a b c
  rw [Lib.decodeL_N] at hok ⊢
  have h0 : ((a ++ c :: b).getD 0 0).toNat < 256 := UInt8.toNat_lt _
  rcases decodeN_kind (a ++ c :: b).length ((a ++ c :: b).getD 0 0).toNat ((a ++ c :: b).getD 1 0).toNat ((a ++ c :: b).getD 2 0).toNat ((a ++ c :: b).getD 3 0).toNat h0 with e | ⟨k, e⟩ | ⟨k, k', k2, q1, e⟩ | ⟨k, k', k2, q1, q2, e⟩ | ⟨k, k', k2, q1, q2, q3, e⟩
  · exact absurd (by rw [e]; exact ⟨rfl, rfl⟩) hok
  · omega
  · rw [e]
    rcases Nat.lt_or_ge 1 a.length with h | h
    · exact h
    · have : a.length = 1 := by omega
      rw [this] at hat; rw [hat] at q1; omega
  · rw [e]
    rcases Nat.lt_or_ge 2 a.length with h | h
    · exact h
    · have : a.length = 1 ∨ a.length = 2 := by omega
      rcases this with h1 | h1 <;> rw [h1] at hat
      · rw [hat] at q1; omega
      · rw [hat] at q2; omega
  · rw [e]
    rcases Nat.lt_or_ge 3 a.length with h | h
    · exact h
    · have : a.length = 1 ∨ a.length = 2 ∨ a.length = 3 := by omega
      rcases this with h1 | h1 | h1 <;> rw [h1] at hat
      · rw [hat] at q1; omega
      · rw [hat] at q2; omega
      · rw [hat] at q3; omega

theorem valid_split (n : Nat) : ∀ (a b : List UInt8) (c : UInt8), a.length ≤ n → c.toNat < 128 → validD (a ++ c :: b) = true → validD a = true ∧ validD b = true := by
  induction n with
  | zero =>
    intro a b c hn hc hv
    have : a = [] := List.eq_nil_of_length_eq_zero (by omega)
    subst this
    rw [List.nil_append, Lib.validD_cons c b hc] at hv
    exact ⟨rfl, hv⟩
  | succ n ih =>
    intro a b c hn hc hv
    by_cases hne : a = []
    · subst hne
      rw [List.nil_append, Lib.validD_cons c b hc] at hv
      exact ⟨rfl, hv⟩
    · have hL : a ++ c :: b ≠ [] := by simp
      have hs := Lib.validD_step _ hL
      rw [hv] at hs
      have hok : ¬ ((decodeL (a ++ c :: b)).1 = 65533 ∧ (decodeL (a ++ c :: b)).2 = 1) := fun h => by rw [if_pos h] at hs; cases hs
      rw [if_neg hok] at hs
      have hle := decode_short a b c hc hne hok
      have hw := Lib.decodeL_width (a ++ c :: b)
      have henc := Lib.encode_decode _ hL hok
      have hch := decode_char (a ++ c :: b)
      generalize (decodeL (a ++ c :: b)).2 = k at *
      generalize ((decodeL (a ++ c :: b)).1 : Int) = x at *
      rw [List.drop_append_of_le_length hle] at hs
      rw [List.take_append_of_le_length hle] at henc
      obtain ⟨i1, i2⟩ := ih (a.drop k) b c (by rw [List.length_drop]; omega) hc hs.symm
      refine ⟨?_, i2⟩
      rw [← List.take_append_drop k a, ← henc, EncT.enc hch]
      exact i1
theorem valid_behind {a b : List UInt8} {c : UInt8} (hc : c.toNat < 128) (h : validD (a ++ c :: b) = true) : validD b = true := (valid_split a.length a b c (Nat.le_refl _) hc h).2

theorem valid_trim (l : List UInt8) : validD (trimLeftB l 32) = validD l := by
  unfold trimLeftB
  induction l with
  | nil => rfl
  | cons c r ih =>
    by_cases h : (c == 32) = true
    · rw [List.dropWhile_cons, if_pos h, ih]
      have : c = 32 := by simpa using h
      subst this
      exact (Lib.validD_cons 32 r (by decide)).symm
    · rw [List.dropWhile_cons, if_neg h]

/-- Behind some bytes below 128, one at least. -/
theorem valid_drop {l : List UInt8} {k : Nat} (hk : 0 < k) (hkl : k ≤ l.length) (hlast : ∀ c, l[k - 1]? = some c → c.toNat < 128) (h : validD l = true) : validD (l.drop k) = true := by
  have hlt : k - 1 < l.length := by omega
  have e : l = l.take (k - 1) ++ l[k - 1] :: l.drop k := by
    have h1 := List.drop_eq_getElem_cons hlt
    rw [show k - 1 + 1 = k from by omega] at h1
    rw [← h1, List.take_append_drop]
  rw [e] at h
  exact valid_behind (hlast _ (List.getElem?_eq_getElem hlt)) h

theorem digB_ascii {c : UInt8} (h : digB c = true) : c.toNat < 128 := by have := digB_iff h; omega

theorem valid_numLeft {l : List UInt8} (hn : numB l = true) (h : validD l = true) : validD (numLeft l) = true := by
  have hb := numDigs_ne hn
  have hd := numDigs_all l
  have hbody : validD (numBody l) = true := by
    unfold numBody
    split
    · rename_i hm
      unfold minusB Lib.hasPrefix at hm
      obtain ⟨t, ht⟩ := List.isPrefixOf_iff_prefix.1 hm
      rw [← ht] at h ⊢
      have := EncT.enc (c := 175) (by decide) t
      rw [enc_minus] at this
      rw [this] at h
      exact h
    · exact h
  unfold numLeft
  unfold numDigs at hb hd
  generalize digLen (numBody l) = k at *
  have hk : 0 < k := by
    rcases Nat.eq_zero_or_pos k with rfl | h
    · simp at hb
    · exact h
  rcases Nat.lt_or_ge (numBody l).length k with h1 | h1
  · rw [List.drop_eq_nil_of_le (by omega)]; rfl
  · refine valid_drop hk h1 (fun c hc => digB_ascii (hd c ?_)) hbody
    obtain ⟨h2, rfl⟩ := List.getElem?_eq_some_iff.1 hc
    rw [List.mem_take_iff_getElem]
    exact ⟨k - 1, by omega, rfl⟩

theorem valid_nums (f : Nat) (l : List UInt8) (h : validD l = true) : validD (numsFrom f l).2.1 = true := by
  induction f generalizing l with
  | zero => exact h
  | succ f ih =>
    rw [numsFrom]
    split
    · rename_i hn
      exact ih _ (by rw [valid_trim]; exact valid_numLeft hn h)
    · exact h

theorem quoted_part (n : Nat) : ∀ (r rest : List UInt8), r.length ≤ n → (quoted r).2 = some rest → ∃ a, r = a ++ 39 :: rest := by
  induction n with
  | zero =>
    intro r rest hn h
    have : r = [] := List.eq_nil_of_length_eq_zero (by omega)
    subst this
    rw [quoted_nil] at h; cases h
  | succ n ih =>
    intro r rest hn h
    cases r with
    | nil => rw [quoted_nil] at h; cases h
    | cons c r =>
      rw [quoted_cons] at h
      by_cases hc : c = 39
      · rw [if_pos hc] at h
        subst hc
        cases r with
        | nil => cases h; exact ⟨[], rfl⟩
        | cons d r' =>
          simp only at h
          by_cases hd : d = 39
          · rw [if_pos hd] at h
            obtain ⟨a, ha⟩ := ih r' rest (by simp at hn; omega) h
            exact ⟨39 :: d :: a, by rw [ha]; rfl⟩
          · rw [if_neg hd] at h; cases h; exact ⟨[], rfl⟩
      · rw [if_neg hc] at h
        obtain ⟨a, ha⟩ := ih r rest (by simp at hn; omega) h
        exact ⟨c :: a, by rw [ha]; rfl⟩

theorem readTok_num {L : List UInt8} (h : numB L = true) : readTok L = (⟨1, [], numsArr (numsFrom L.length L).1⟩, (numsFrom L.length L).2.1, (numsFrom L.length L).2.2) := by
  unfold readTok; rw [if_pos h]
theorem readTok_name {c : UInt8} {r : List UInt8} (h : numB (c :: r) = false) (h39 : c ≠ 39) (hl : letB c = true) :
    readTok (c :: r) = (⟨2, (c :: r).take (nameLen (c :: r)), noArr⟩, (c :: r).drop (nameLen (c :: r)), decide (12 < nameLen (c :: r))) := by
  unfold readTok; rw [if_neg (by rw [h]; simp)]; simp only [if_neg h39, if_pos hl]
theorem readTok_gly {c : UInt8} {r : List UInt8} (h : numB (c :: r) = false) (h39 : c ≠ 39) (hl : letB c = false) :
    readTok (c :: r) = (⟨3, glyTxt (c :: r), noArr⟩, (c :: r).drop (chLen (c :: r)), !Lib.contains glyphsL (glyTxt (c :: r))) := by
  unfold readTok; rw [if_neg (by rw [h]; simp)]; simp only [if_neg h39, hl, Bool.false_eq_true, if_false]
theorem chLen_L (L : List UInt8) (h : L ≠ []) : chLen L = (Lib.decodeL L).2 := by
  unfold chLen Lib.decodeGo
  rw [if_neg (by rw [bs_size]; have := List.length_pos_iff.2 h; omega), decode_drop, List.drop_zero]

theorem nameLen_facts {c : UInt8} {r : List UInt8} (hl : letB c = true) : 0 < nameLen (c :: r) ∧ nameLen (c :: r) ≤ (c :: r).length ∧ ∀ x ∈ (c :: r).take (nameLen (c :: r)), innB x = true := by
  have e : (c :: r).take (nameLen (c :: r)) = (c :: r).takeWhile innB := by
    unfold nameLen
    conv => lhs; rw [← List.takeWhile_append_dropWhile (p := innB) (l := c :: r)]
    rw [List.take_left']
    rw [List.takeWhile_append_dropWhile]
  refine ⟨?_, ?_, fun x hx => by rw [e] at hx; exact tw_all innB _ _ hx⟩
  · unfold nameLen; rw [List.takeWhile_cons, if_pos (by unfold innB; rw [hl]; rfl)]; simp
  · unfold nameLen; exact (List.takeWhile_sublist _).length_le

/-- What is left behind a token is UTF-8. -/
theorem valid_left {L : List UInt8} (hne : L ≠ []) (h : validD L = true) (hb : (readTok L).2.2 = false) : validD (readTok L).2.1 = true := by
  by_cases hn : numB L = true
  · rw [readTok_num hn]; exact valid_nums _ _ h
  · have hn : numB L = false := by simpa using hn
    obtain ⟨c, r, rfl⟩ := List.exists_cons_of_ne_nil hne
    by_cases h39 : c = 39
    · subst h39
      rw [readTok_39] at hb ⊢
      simp only at hb ⊢
      cases hq : (quoted r).2 with
      | none => rw [hq] at hb; cases hb
      | some rest =>
        obtain ⟨a, ha⟩ := quoted_part r.length r rest (Nat.le_refl _) hq
        rw [ha] at h
        exact valid_behind (a := 39 :: a) (c := 39) (by decide) h
    · cases hl : letB c with
      | true =>
        rw [readTok_name hn h39 hl]
        obtain ⟨n1, n2, n3⟩ := nameLen_facts (r := r) hl
        refine valid_drop n1 n2 (fun x hx => innB_ascii (n3 x ?_)) h
        obtain ⟨h2, rfl⟩ := List.getElem?_eq_some_iff.1 hx
        rw [List.mem_take_iff_getElem]
        exact ⟨nameLen (c :: r) - 1, by omega, rfl⟩
      | false =>
        rw [readTok_gly hn h39 hl]
        simp only
        rw [chLen_L _ hne]
        have hs := Lib.validD_step _ hne
        rw [h] at hs
        split at hs
        · cases hs
        · exact hs.symm
end Go.Proofs.YthlingdlehdlhaaGreatDoor

namespace Go.Proofs.YthlingdlehdlhaaGreatDoor
open Go.RowKit Go.Shelf
open Go.Lib (decodeL decodeN encodeRune decDigits trimLeftB validD)
set_option linter.unusedVariables false
set_option linter.unusedSimpArgs false

theorem count_len (n : Nat) (h : n ≤ 4096) : count (if n = 1 then [] else [(n : Int)]) = some (n : Int) := by
  by_cases h1 : n = 1
  · rw [if_pos h1, h1]; rfl
  · rw [if_neg h1, count_one, if_neg (by omega)]

theorem nums_canV {xs : List Int} (hne : xs ≠ []) (h : xs.length ≤ 4096) : canV (numsArr xs) = true := by
  have h0 : 0 < xs.length := List.length_pos_iff.2 hne
  unfold canV okArr numsArr
  simp only
  rw [count_len _ h]
  by_cases h1 : xs.length = 1
  · simp [h1]
  · rw [if_neg h1]
    simp [h1]; omega
theorem chrs_canV {xs : List Int} (hc : ∀ c ∈ xs, isChar c = true) (h : xs.length ≤ 4096) : canV (chrsArr xs) = true := by
  unfold canV okArr chrsArr
  simp only
  rw [count_len _ h]
  have ho : hasOdd xs = false := by unfold hasOdd; rw [List.any_eq_false]; intro c hc'; rw [hc c hc']; simp
  by_cases h1 : xs.length = 1
  · simp [h1, ho]
  · rw [if_neg h1]
    simp [h1, ho]

theorem runesL_char (f : Nat) (l : List UInt8) : ∀ c ∈ runesL f l, isChar c = true := by
  induction f generalizing l with
  | zero => intro c hc; cases hc
  | succ f ih =>
    rw [runesL]
    split
    · intro c hc; cases hc
    · intro c hc
      rcases List.mem_cons.1 hc with rfl | hc
      · exact decode_char l
      · exact ih _ c hc
theorem isChar_rng {c : Int} (h : isChar c = true) : -9223372036854775808 ≤ c ∧ c ≤ 9223372036854775807 := by
  have := isChar_cases h; omega
theorem rng_of {xs : List Int} (h : ∀ x ∈ xs, -9223372036854775808 ≤ x ∧ x ≤ 9223372036854775807) : Rng xs := by
  intro i hi
  rw [List.getElem?_eq_getElem hi]
  exact h _ (List.getElem_mem hi)

theorem numVal_rngL {l : List UInt8} (hn : numB l = true) (h : numBad l = false) : -9223372036854775808 ≤ numVal l ∧ numVal l ≤ 9223372036854775807 := by
  rw [(num_same hn).2 h]
  unfold refVal
  split <;> unfold wrap64 <;> omega
theorem nums_facts (f : Nat) (l : List UInt8) (h : (numsFrom f l).2.2 = false) (hf : l.length ≤ f) : (∀ x ∈ (numsFrom f l).1, -9223372036854775808 ≤ x ∧ x ≤ 9223372036854775807) ∧ numB (numsFrom f l).2.1 = false := by
  induction f generalizing l with
  | zero =>
    have : l = [] := List.eq_nil_of_length_eq_zero (by omega)
    subst this
    exact ⟨fun x hx => (by cases hx), rfl⟩
  | succ f ih =>
    rw [numsFrom] at h ⊢
    split at h
    · rename_i hn
      rw [if_pos hn]
      simp only [Bool.or_eq_false_iff] at h
      have h1 := numLeft_lt hn
      have h2 := trimLeft_len (numLeft l) 32
      obtain ⟨i1, i2⟩ := ih _ h.2 (by omega)
      refine ⟨fun x hx => ?_, i2⟩
      rcases List.mem_cons.1 hx with rfl | hx
      · exact numVal_rngL hn h.1
      · exact i1 x hx
    · rename_i hn
      rw [if_neg hn]
      exact ⟨fun x hx => (by cases hx), by simpa using hn⟩
theorem nums_trimmed (f : Nat) (l : List UInt8) (h : trimLeftB l 32 = l) : trimLeftB (numsFrom f l).2.1 32 = (numsFrom f l).2.1 := by
  induction f generalizing l with
  | zero => exact h
  | succ f ih =>
    rw [numsFrom]
    split
    · exact ih _ (trimLeft_idem _)
    · exact h

theorem name_good {c : UInt8} {r : List UInt8} (hl : letB c = true) (h12 : nameLen (c :: r) ≤ 12) : namB (bs ((c :: r).take (nameLen (c :: r)))) = true := by
  obtain ⟨n1, n2, n3⟩ := nameLen_facts (r := r) hl
  generalize nameLen (c :: r) = n at *
  obtain ⟨n, rfl⟩ : ∃ k, n = k + 1 := ⟨n - 1, by omega⟩
  have hlen : ((c :: r).take (n + 1)).length = n + 1 := by rw [List.length_take]; omega
  have htw : ((c :: r).take (n + 1)).takeWhile innB = (c :: r).take (n + 1) := by
    have := tw_pre (p := innB) (a := (c :: r).take (n + 1)) (r := []) n3 (fun c s e => by cases e)
    rw [List.append_nil] at this; exact this
  unfold namB frontOf
  rw [bs_size, bs_list, htw, hlen]
  have hb : bt (bs ((c :: r).take (n + 1))) 0 = c := by unfold bt; rw [bs_list]; rfl
  rw [hb, hl]
  simp; omega

/-- A token that is told is good. -/
theorem told_good {L : List UInt8} (hne : L ≠ []) (hv : validD L = true) (hb : (readTok L).2.2 = false) (h4 : decide (4096 < (readTok L).1.val.elems.length) = false) : Good (readTok L).1 := by
  by_cases hn : numB L = true
  · rw [readTok_num hn] at hb h4 ⊢
    have h4' : (numsFrom L.length L).1.length ≤ 4096 := Nat.le_of_not_lt (of_decide_eq_false h4)
    obtain ⟨i1, i2⟩ := nums_facts _ _ hb (Nat.le_refl _)
    refine .inl ⟨rfl, rfl, nums_canV ?_ h4', rng_of i1⟩
    cases L with
    | nil => exact absurd rfl hne
    | cons c r => rw [show (c :: r).length = r.length + 1 from rfl, numsFrom, if_pos hn]; simp
  · have hn : numB L = false := by simpa using hn
    obtain ⟨c, r, rfl⟩ := List.exists_cons_of_ne_nil hne
    by_cases h39 : c = 39
    · subst h39
      rw [readTok_39] at h4 ⊢
      have h4' : (runesOf (bs (quoted r).1)).length ≤ 4096 := Nat.le_of_not_lt (of_decide_eq_false h4)
      rw [runesOf_list] at h4' ⊢
      have hc := runesL_char (quoted r).1.length (quoted r).1
      exact .inl ⟨rfl, rfl, chrs_canV hc h4', rng_of fun x hx => isChar_rng (hc x hx)⟩
    · cases hl : letB c with
      | true =>
        rw [readTok_name hn h39 hl] at hb ⊢
        simp only [decide_eq_false_iff_not] at hb
        exact .inr (.inl ⟨rfl, name_good hl (by omega), rfl⟩)
      | false =>
        rw [readTok_gly hn h39 hl] at hb ⊢
        simp only [Bool.not_eq_false'] at hb
        refine .inr (.inr ⟨rfl, ?_, rfl⟩)
        have hs := Lib.validD_step _ hne
        rw [hv] at hs
        have hok : ¬ ((decodeL (c :: r)).1 = 65533 ∧ (decodeL (c :: r)).2 = 1) := fun h => by rw [if_pos h] at hs; cases hs
        have hch := char_decoded _ hne hok
        unfold glyTxt at hb ⊢
        rw [chLen_L _ hne] at hb ⊢
        simp only
        split at hb
        · rename_i h; simp only [h, if_true]; decide
        · rename_i h
          simp only [h, if_false]
          rw [contains_glyphs hch, decide_eq_true_eq] at hb
          exact hb

/-- Behind a token that is a list of numbers no number stands. -/
theorem told_next {L : List UInt8} (hb : (readTok L).2.2 = false) (hk : isNumT (readTok L).1 = true) (ht : trimLeftB L 32 = L) : numB (trimLeftB (readTok L).2.1 32) = false := by
  by_cases hn : numB L = true
  · rw [readTok_num hn] at hb ⊢
    simp only at hb ⊢
    rw [nums_trimmed _ _ ht]
    exact (nums_facts _ _ hb (Nat.le_refl _)).2
  · exfalso
    have hn : numB L = false := by simpa using hn
    cases L with
    | nil => unfold readTok at hb; rw [if_neg (by rw [hn]; simp)] at hb; cases hb
    | cons c r =>
      by_cases h39 : c = 39
      · subst h39; rw [readTok_39] at hk; cases hk
      · cases hl : letB c with
        | true => rw [readTok_name hn h39 hl] at hk; cases hk
        | false => rw [readTok_gly hn h39 hl] at hk; cases hk

theorem told_notNum {L : List UInt8} (hn : numB L = false) : isNumT (readTok L).1 = false := by
  cases L with
  | nil => unfold readTok; rw [if_neg (by rw [hn]; simp)]; rfl
  | cons c r =>
    by_cases h39 : c = 39
    · subst h39; rw [readTok_39]; rfl
    · cases hl : letB c with
      | true => rw [readTok_name hn h39 hl]; rfl
      | false => rw [readTok_gly hn h39 hl]; rfl

/-- WHAT IS TOLD CAN BE SHOWN. -/
theorem toks_chain (f : Nat) : ∀ (l : List UInt8), l.length < f → validD l = true → (toksFrom f l).2.1 = false → (toksFrom f l).2.2 = false → Chain (toksFrom f l).1 ∧ ∀ u s, (toksFrom f l).1 = u :: s → numB (trimLeftB l 32) = false → isNumT u = false := by
  induction f with
  | zero => intro l h; omega
  | succ f ih =>
    intro l hf hv h1 h2
    rw [toksFrom] at h1 h2 ⊢
    by_cases he : trimLeftB l 32 = []
    · rw [if_pos he]; exact ⟨trivial, fun u s e => by cases e⟩
    · rw [if_neg he] at h1 h2 ⊢
      have hvt : validD (trimLeftB l 32) = true := by rw [valid_trim]; exact hv
      have hlt := trimLeft_len l 32
      have hrl : (readTok (trimLeftB l 32)).2.1.length < (trimLeftB l 32).length := by
        cases h : trimLeftB l 32 with
        | nil => exact absurd h he
        | cons c r => exact readTok_lt
      by_cases hb : (readTok (trimLeftB l 32)).2.2 = true
      · simp only [hb, if_true] at h1; cases h1
      · have hb : (readTok (trimLeftB l 32)).2.2 = false := by simpa using hb
        simp only [hb, Bool.false_eq_true, if_false, Bool.or_eq_false_iff] at h1 h2 ⊢
        obtain ⟨c1, c2⟩ := ih _ (by omega) (valid_left he hvt hb) h1 h2.2
        refine ⟨⟨told_good he hvt hb h2.1, fun u s e hk => c2 u s e (told_next hb hk (trimLeft_idem l)), c1⟩, fun u s e hn => ?_⟩
        cases e
        exact told_notNum hn

theorem tokens_chain {l : List UInt8} (h : (tokensOf l).2 = 0) : Chain (tokensOf l).1 ∧ (tokensOf l).1.length ≤ 4000 := by
  unfold tokensOf at h ⊢
  by_cases hv : validD l = false
  · rw [if_pos hv] at h; cases h
  · rw [if_neg hv] at h ⊢
    have hv : validD l = true := by simpa using hv
    have hc := toks_chain (l.length + 1) l (by omega) hv
    generalize toksFrom (l.length + 1) l = T at *
    obtain ⟨T, b, m⟩ := T
    simp only at h hc ⊢
    cases b with
    | true => cases h
    | false =>
      rw [if_neg (by simp)] at h ⊢
      by_cases hm : m = true ∨ 4000 < T.length
      · rw [if_pos hm] at h; cases h
      · rw [if_neg hm] at h ⊢
        simp only [not_or, Bool.not_eq_true] at hm
        exact ⟨(hc rfl hm.1).1, by simp only; omega⟩

end Go.Proofs.YthlingdlehdlhaaGreatDoor

namespace Go.Proofs.YthlingdlehdlhaaGreatDoor
open Go.RowKit Go.Shelf
open Go.Lib (decodeL decodeN encodeRune decDigits trimLeftB validD)
set_option linter.unusedVariables false
set_option linter.unusedSimpArgs false

end Go.Proofs.YthlingdlehdlhaaGreatDoor

namespace Go.Proofs.YthlingdlehdlhaaGreatDoor
open Go.RowKit Go.Shelf
set_option linter.unusedVariables false
set_option linter.unusedSimpArgs false

def seg (l : List UInt8) (f i : Nat) : List UInt8 := (l.take i).drop f

end Go.Proofs.YthlingdlehdlhaaGreatDoor
