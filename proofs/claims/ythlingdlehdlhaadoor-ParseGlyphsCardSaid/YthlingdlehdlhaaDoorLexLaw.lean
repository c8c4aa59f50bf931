/- Tokens, shown, are told again: characters, quotes, numbers. Plain.
   Tokens, shown, are told again: a token, whatever stands behind a blank. Plain.
   Tokens, shown, are told again: lists; what is told can be shown. Plain.
   UTF-8 is split at a byte below 128; what is left behind a token is UTF-8. Plain.
   What is told can be shown: tokens that are told are Good, and a Chain. Plain.
   Blanks ahead of a statement, and behind it, make no difference. Plain.
   A program's statements, put together, are split into the same. Plain. -/
import Derived.Test.YthlingdlehdlhaaDoorTok
import Derived.Test.YthlingdlehdlhaaDoorTextA
import Derived.Lib.MapLaws
import Derived.Lib.ValidLaws
import Derived.Test.YthlingdlehdlhaaDoorBase
namespace Go.Proofs.YthlingdlehdlhaaDoor
open Go.RowKit Go.Shelf
open Go.Lib (decodeL decodeN encodeRune decDigits)
set_option linter.unusedVariables false
set_option linter.unusedSimpArgs false

theorem getD_drop (l : List UInt8) (p i : Nat) : (l.drop p).getD i 0 = l.getD (p + i) 0 := by
  rw [List.getD_eq_getElem?_getD, List.getD_eq_getElem?_getD, List.getElem?_drop]

theorem decode_drop (l : List UInt8) (p : Nat) : Utf8.decode (bs l) p = decodeL (l.drop p) := by
  rw [Lib.decodeL_N, Lib.decode_N, bs_list, List.length_drop, getD_drop, getD_drop, getD_drop, getD_drop]; rfl

theorem u8v {z : Int} (h : 0 ≤ z ∧ z < 256) : z.toNat.toUInt8.toNat = z.toNat := by
  simp only [Nat.toUInt8, UInt8.toNat_ofNat']
  omega

theorem decode_enc {c : Int} (h : isChar c = true) (r : List UInt8) : decodeL (encodeRune c ++ r) = (c.toNat, (encodeRune c).length) := by
  obtain ⟨h0, h1, h2⟩ := isChar_cases h
  rw [Lib.decodeL_N]
  unfold encodeRune
  rcases enc_forms h with ⟨a1, a2, a3⟩ | ⟨a1, a2, a3⟩ | ⟨a1, a2, a3⟩ | ⟨a1, a2, a3⟩
  · rw [a3]
    simp only [List.map_cons, List.map_nil, List.cons_append, List.nil_append, List.getD_cons_zero, List.getD_cons_succ, List.length_cons, List.length_nil]
    rw [u8v (by omega)]
    exact Lib.decodeN_ascii _ _ _ _ _ (by omega)
  · rw [a3]
    simp only [List.map_cons, List.map_nil, List.cons_append, List.nil_append, List.getD_cons_zero, List.getD_cons_succ, List.length_cons, List.length_nil]
    rw [u8v (by omega), u8v (by omega)]
    unfold decodeN
    rw [if_neg (by omega), if_pos (by omega), if_pos (by omega)]
    apply Prod.ext <;> simp only <;> omega
  · rw [a3]
    simp only [List.map_cons, List.map_nil, List.cons_append, List.nil_append, List.getD_cons_zero, List.getD_cons_succ, List.length_cons, List.length_nil]
    rw [u8v (by omega), u8v (by omega), u8v (by omega)]
    unfold decodeN
    rw [if_neg (by omega), if_neg (by omega), if_pos (by omega), if_pos (by omega)]
    apply Prod.ext <;> simp only <;> omega
  · rw [a3]
    simp only [List.map_cons, List.map_nil, List.cons_append, List.nil_append, List.getD_cons_zero, List.getD_cons_succ, List.length_cons, List.length_nil]
    rw [u8v (by omega), u8v (by omega), u8v (by omega), u8v (by omega)]
    unfold decodeN
    rw [if_neg (by omega), if_neg (by omega), if_neg (by omega), if_pos (by omega), if_pos (by omega)]
    apply Prod.ext <;> simp only <;> omega

/-- A text's characters, from its list. -/
def runesL : Nat → List UInt8 → List Int
  | 0, _ => []
  | f + 1, l => if l = [] then [] else ((decodeL l).1 : Int) :: runesL f (l.drop (decodeL l).2)
theorem runesFrom_list (l : List UInt8) (f p : Nat) : runesFrom (bs l) f p = runesL f (l.drop p) := by
  induction f generalizing p with
  | zero => rfl
  | succ f ih =>
    rw [runesFrom, runesL, bs_size]
    by_cases h : p < l.length
    · rw [if_pos h, if_neg (by intro e; have := congrArg List.length e; simp at this; omega), decode_drop, ih, List.drop_drop]
    · rw [if_neg h, if_pos (List.drop_eq_nil_of_le (by omega))]
theorem runesOf_list (l : List UInt8) : runesOf (bs l) = runesL l.length l := by
  unfold runesOf
  rw [runesFrom_list, bs_size]; rfl

theorem runesL_more (f g : Nat) (l : List UInt8) (hf : l.length ≤ f) (hg : l.length ≤ g) : runesL f l = runesL g l := by
  induction f generalizing g l with
  | zero =>
    have : l = [] := List.eq_nil_of_length_eq_zero (by omega)
    subst this
    cases g <;> rfl
  | succ f ih =>
    cases g with
    | zero =>
      have : l = [] := List.eq_nil_of_length_eq_zero (by omega)
      subst this; rfl
    | succ g =>
      rw [runesL, runesL]
      split
      · rfl
      · have := Lib.decodeL_width l
        rw [ih g (l.drop (decodeL l).2) (by rw [List.length_drop]; omega) (by rw [List.length_drop]; omega)]

theorem encs_cons (x : Int) (r : List Int) : encs (x :: r) = encodeRune x ++ encs r := by simp [encs]
theorem runesL_encs (xs : List Int) (h : ∀ x ∈ xs, isChar x = true) (f : Nat) (hf : (encs xs).length ≤ f) : runesL f (encs xs) = xs := by
  induction xs generalizing f with
  | nil => cases f <;> rfl
  | cons x r ih =>
    rw [encs_cons] at hf ⊢
    have hx := h x (by simp)
    have hne := enc_ne x
    have hl : 0 < (encodeRune x).length := List.length_pos_iff.2 hne
    rw [List.length_append] at hf
    obtain ⟨f, rfl⟩ : ∃ g, f = g + 1 := ⟨f - 1, by omega⟩
    rw [runesL, if_neg (by simp [hne]), decode_enc hx]
    simp only
    rw [List.drop_left, ih (fun y hy => h y (by simp [hy])) f (by omega)]
    have := (isChar_cases hx).1
    congr 1
    omega
theorem runes_encs {xs : List Int} (h : ∀ x ∈ xs, isChar x = true) : runesOf (bs (encs xs)) = xs := by
  rw [runesOf_list]; exact runesL_encs xs h _ (Nat.le_refl _)

theorem quoted_text (t rest : List UInt8) (h : ∀ r, rest ≠ 39 :: r) : quoted (subst 39 [39, 39] t ++ 39 :: rest) = (t, some rest) := by
  induction t with
  | nil =>
    show quoted (39 :: rest) = _
    rw [quoted_cons, if_pos rfl]
    cases rest with
    | nil => rfl
    | cons d r =>
      have : d ≠ 39 := fun e => h r (by rw [e])
      simp only [if_neg this]
  | cons c t ih =>
    by_cases hc : c = 39
    · subst hc
      have e : subst 39 [39, 39] (39 :: t) = 39 :: 39 :: subst 39 [39, 39] t := by simp [subst]
      rw [e, List.cons_append, List.cons_append, quoted_cons, if_pos rfl]
      simp only [if_true, ih]
    · have e : subst 39 [39, 39] (c :: t) = c :: subst 39 [39, 39] t := by simp [subst, hc]
      rw [e, List.cons_append, quoted_cons, if_neg hc, ih]

theorem valFrom_append (a : Nat) (xs ys : List UInt8) : valFrom a (xs ++ ys) = valFrom (valFrom a xs) ys := by
  induction xs generalizing a with
  | nil => rfl
  | cons c r ih => exact ih _
theorem valFrom_dec (u : Nat) : valFrom 0 (decDigits u) = u := by
  induction u using Nat.strongRecOn with
  | _ u ih =>
    rw [Lib.decDigits]
    split
    · show 0 * 10 + ((UInt8.ofNat _).toNat - 48) = u
      rw [UInt8.toNat_ofNat']; omega
    · rw [valFrom_append, ih (u / 10) (by omega)]
      show u / 10 * 10 + ((UInt8.ofNat _).toNat - 48) = u
      rw [UInt8.toNat_ofNat']; omega
theorem dec_digB (u : Nat) : ∀ c ∈ decDigits u, digB c = true := by
  intro c hc
  have := dec_digit u c hc
  unfold digB
  rw [Bool.and_eq_true, decide_eq_true_eq, decide_eq_true_eq]
  exact this

theorem tw_pre {p : UInt8 → Bool} {a r : List UInt8} (ha : ∀ c ∈ a, p c = true) (hr : ∀ c s, r = c :: s → p c = false) : (a ++ r).takeWhile p = a := by
  induction a with
  | nil =>
    cases r with
    | nil => rfl
    | cons c s => rw [List.nil_append, List.takeWhile_cons, if_neg (by rw [hr c s rfl]; simp)]
  | cons c a ih => rw [List.cons_append, List.takeWhile_cons, if_pos (ha c (by simp)), ih (fun x hx => ha x (by simp [hx]))]

/-- No digit stands here. -/
def noDig (r : List UInt8) : Prop := ∀ c s, r = c :: s → digB c = false

theorem dig_body (n : Int) (r : List UInt8) : minusB (dig n ++ r) = decide (n < 0) ∧ numBody (dig n ++ r) = decDigits n.natAbs ++ r := by
  unfold numBody minusB dig Lib.hasPrefix
  by_cases h : n < 0
  · rw [if_pos h, decide_eq_true h]
    have : ([194, 175] : List UInt8).isPrefixOf (194 :: 175 :: decDigits n.natAbs ++ r) = true := by simp [List.isPrefixOf]
    rw [this]; exact ⟨rfl, rfl⟩
  · rw [if_neg h, decide_eq_false h]
    have hne := dec_ne n.toNat
    have : ([194, 175] : List UInt8).isPrefixOf (decDigits n.toNat ++ r) = false := by
      cases hd : decDigits n.toNat with
      | nil => exact absurd hd hne
      | cons c s =>
        have := dec_head n.toNat c s hd
        have hc : (194 : UInt8) ≠ c := fun e => by subst e; have : (194 : UInt8).toNat = 194 := rfl; omega
        simp [List.isPrefixOf, hc]
    rw [this, if_neg (by simp), show n.natAbs = n.toNat from by omega]
    exact ⟨rfl, rfl⟩

theorem dig_read (n : Int) (r : List UInt8) (hr : noDig r) (h0 : -9223372036854775808 ≤ n) (h1 : n ≤ 9223372036854775807) :
    numB (dig n ++ r) = true ∧ numLeft (dig n ++ r) = r ∧ numVal (dig n ++ r) = n ∧ numBad (dig n ++ r) = false := by
  obtain ⟨e1, e2⟩ := dig_body n r
  have htw : (decDigits n.natAbs ++ r).takeWhile digB = decDigits n.natAbs := tw_pre (dec_digB _) hr
  have hlen : digLen (numBody (dig n ++ r)) = (decDigits n.natAbs).length := by unfold digLen; rw [e2, htw]
  have ht : numTxt (dig n ++ r) = (if n < 0 then [45] else []) ++ decDigits n.natAbs := by
    unfold numTxt
    rw [hlen, e2, e1, List.take_left]
    by_cases h : n < 0 <;> simp [h]
  have hp : Lib.parseIntB 64 (numTxt (dig n ++ r)) = .ok n := by
    rw [ht]
    by_cases h : n < 0
    · rw [if_pos h]
      show Lib.parseIntB 64 (45 :: decDigits n.natAbs) = _
      rw [parse_below (dec_digB _) (dec_ne _), valFrom_dec, if_pos (by omega)]
      congr 1; omega
    · rw [if_neg h, List.nil_append, parse_above (dec_digB _) (dec_ne _), valFrom_dec, if_pos (by omega)]
      congr 1; omega
  refine ⟨?_, ?_, ?_, ?_⟩
  · have hne := dec_ne n.natAbs
    unfold numB Lib.trimPrefix
    have : (if ([194, 175] : List UInt8).isPrefixOf (dig n ++ r) then (dig n ++ r).drop 2 else (dig n ++ r)) = decDigits n.natAbs ++ r := by
      rw [← e2]; rfl
    rw [show Lib.hasPrefix (dig n ++ r) [194, 175] = ([194, 175] : List UInt8).isPrefixOf (dig n ++ r) from rfl] at *
    simp only [List.length_cons, List.length_nil, Nat.zero_add] at *
    rw [this]
    cases hd : decDigits n.natAbs with
    | nil => exact absurd hd hne
    | cons c s => exact dec_digB n.natAbs c (by rw [hd]; simp)
  · unfold numLeft
    rw [hlen, e2, List.drop_left]
  · unfold numVal; rw [hp]
  · unfold numBad; rw [hp]
end Go.Proofs.YthlingdlehdlhaaDoor

namespace Go.Proofs.YthlingdlehdlhaaDoor
open Go.RowKit Go.Shelf
open Go.Lib (decodeL decodeN encodeRune decDigits trimLeftB)
set_option linter.unusedVariables false
set_option linter.unusedSimpArgs false

/-- What stands behind a token that is shown: nothing, or a blank. -/
def blankEnd (r : List UInt8) : Prop := ∀ c s, r = c :: s → c = 32
theorem blankEnd.noDig {r : List UInt8} (h : blankEnd r) : noDig r := by
  intro c s e
  rw [h c s e]; decide
theorem trim_cons32 (r : List UInt8) : trimLeftB (32 :: r) 32 = trimLeftB r 32 := by
  unfold trimLeftB; rw [List.dropWhile_cons_of_pos (by rfl)]
theorem trim_ne {c : UInt8} (r : List UInt8) (h : c ≠ 32) : trimLeftB (c :: r) 32 = c :: r := by
  unfold trimLeftB; rw [List.dropWhile_cons_of_neg (by simpa using h)]

theorem dig_head (n : Int) (r : List UInt8) : ∃ c s, dig n ++ r = c :: s ∧ c ≠ 32 := by
  cases h : dig n with
  | nil => exact absurd h (dig_ne n)
  | cons c s => exact ⟨c, s ++ r, rfl, fun e => dig_no32 n (by rw [h, e]; simp)⟩
theorem trim_dig (n : Int) (r : List UInt8) : trimLeftB (dig n ++ r) 32 = dig n ++ r := by
  obtain ⟨c, s, e, hc⟩ := dig_head n r
  rw [e]; exact trim_ne s hc

/-- Numbers, one behind the other. -/
theorem nums_read (xs : List Int) (hne : xs ≠ []) (hr : Rng xs) (rest : List UInt8) (hb : blankEnd rest) (hn : numB (trimLeftB rest 32) = false) (f : Nat) (hf : xs.length ≤ f) :
    numsFrom f (Lib.join (xs.map dig) [32] ++ rest) = (xs, trimLeftB rest 32, false) := by
  induction xs generalizing f with
  | nil => exact absurd rfl hne
  | cons x r ih =>
    have hx : -9223372036854775808 ≤ x ∧ x ≤ 9223372036854775807 := by simpa using hr 0 (by simp)
    have hrr : Rng r := fun i hi => by have := hr (i + 1) (by simpa using hi); simpa using this
    obtain ⟨f, rfl⟩ : ∃ g, f = g + 1 := ⟨f - 1, by simp at hf; omega⟩
    cases r with
    | nil =>
      rw [List.map_cons, List.map_nil, Lib.join_one]
      obtain ⟨d1, d2, d3, d4⟩ := dig_read x rest hb.noDig hx.1 hx.2
      rw [numsFrom, if_pos d1, d2, d3, d4]
      have e : numsFrom f (trimLeftB rest 32) = ([], trimLeftB rest 32, false) := by
        cases f with
        | zero => rfl
        | succ f => rw [numsFrom, hn]; rfl
      simp only [e, Bool.or_false]
    | cons y r =>
      rw [List.map_cons, List.map_cons, join_cons2, ← List.map_cons, List.append_assoc, List.cons_append]
      obtain ⟨d1, d2, d3, d4⟩ := dig_read x (32 :: (Lib.join ((y :: r).map dig) [32] ++ rest)) (by intro c s e; cases e; decide) hx.1 hx.2
      rw [numsFrom, if_pos d1, d2, d3, d4, trim_cons32]
      have ht : trimLeftB (Lib.join ((y :: r).map dig) [32] ++ rest) 32 = Lib.join ((y :: r).map dig) [32] ++ rest := by
        rw [List.map_cons, Lib.join_cons, List.append_assoc]; exact trim_dig y _
      have e := ih (by simp) hrr f (by simp at hf; simp; omega)
      simp only [ht, e, Bool.or_false]

theorem join_ge (xs : List Int) : xs.length ≤ (Lib.join (xs.map dig) [32]).length := by
  induction xs with
  | nil => simp
  | cons x r ih =>
    have h0 : 0 < (dig x).length := List.length_pos_iff.2 (dig_ne x)
    cases r with
    | nil => rw [List.map_cons, List.map_nil, Lib.join_one]; simp; omega
    | cons y r =>
      rw [List.map_cons, List.map_cons, join_cons2, ← List.map_cons, List.length_append, List.length_cons]
      simp only [List.length_cons] at ih ⊢
      omega

/-- A value that a token can be: what 'Show' shows. -/
def canV (x : Arr) : Bool := okArr x && (decide (x.shape.length = 0) || (decide (x.shape.length = 1) && (!decide (x.elems.length = 1) && !(decide (x.elems.length = 0) && decide (x.kind = 1)))))
theorem canV_parts {x : Arr} (h : canV x = true) : okArr x = true ∧ bare x = true ∧ textOf x = elemText x ∧
    ((x = numsArr x.elems ∧ x.elems ≠ [] ∧ x.kind = 1) ∨ (x = chrsArr x.elems ∧ (∀ c ∈ x.elems, isChar c = true) ∧ x.kind = 2)) ∧ x.elems.length ≤ 4096 := by
  unfold canV at h
  rw [Bool.and_eq_true, Bool.or_eq_true] at h
  obtain ⟨ho, hs⟩ := h
  obtain ⟨hc, hk⟩ := okArr_parts ho
  have hle : x.elems.length ≤ 4096 := by have := count_le _ _ hc; omega
  have hb : bare x = true ∧ x.shape = (if x.elems.length = 1 then [] else [(x.elems.length : Int)]) ∧ (x.kind = 1 → x.elems ≠ []) := by
    rcases hs with hs | hs
    · have hs' : x.shape = [] := List.eq_nil_of_length_eq_zero (by simpa using hs)
      have h1 : x.elems.length = 1 := by rw [hs'] at hc; have : count [] = some 1 := rfl; rw [this] at hc; simp at hc; omega
      refine ⟨by unfold bare; rw [hs']; rfl, by rw [if_pos h1]; exact hs', fun _ e => by rw [e] at h1; simp at h1⟩
    · rw [Bool.and_eq_true, Bool.and_eq_true, decide_eq_true_eq] at hs
      obtain ⟨s1, s2, s3⟩ := hs
      obtain ⟨n, hn⟩ := List.length_eq_one_iff.1 s1
      have h1 : ¬ x.elems.length = 1 := by simpa using s2
      rw [hn, count_one] at hc
      split at hc
      · cases hc
      · have e : n = x.elems.length := by simpa using hc
        have h3 : ¬ (x.elems.length = 0 ∧ x.kind = 1) := by
          rintro ⟨a, b⟩
          rw [decide_eq_true a, decide_eq_true b] at s3
          cases s3
        refine ⟨?_, by rw [if_neg h1, hn, e], fun hk e => h3 ⟨by rw [e]; rfl, hk⟩⟩
        unfold bare
        rw [s1]
        by_cases h0 : x.elems.length = 0
        · have : x.kind = 2 := by
            rcases hk with hk | hk
            · exact absurd ⟨h0, hk⟩ h3
            · exact hk.1
          simp [h0, this]
        · have : 1 < x.elems.length := by omega
          simp [this]
  refine ⟨ho, hb.1, by unfold textOf; rw [if_pos hb.1], ?_, hle⟩
  rcases hk with hk | ⟨hk, hodd⟩
  · exact .inl ⟨by cases x; simp only at hk; subst hk; unfold numsArr; rw [← hb.2.1], hb.2.2 hk, hk⟩
  · exact .inr ⟨by cases x; simp only at hk; subst hk; unfold chrsArr; rw [← hb.2.1], hasOdd_all hodd, hk⟩

/-- A token that can be told of a text. -/
def Good (t : Tok) : Prop := (t.kind = 1 ∧ t.txt = [] ∧ canV t.val = true ∧ Rng t.val.elems) ∨ (t.kind = 2 ∧ namB (bs t.txt) = true ∧ t.val = noArr) ∨ (t.kind = 3 ∧ t.txt ∈ glyChars ∧ t.val = noArr)
def isNumT (t : Tok) : Bool := decide (t.kind = 1) && decide (t.val.kind = 1)
/-- Such a token's text. -/
def shw (t : Tok) : List UInt8 := if t.kind = 1 then elemText t.val else t.txt

theorem namB_parts {s : List UInt8} (h : namB (bs s) = true) : (∃ c r, s = c :: r ∧ letB c = true) ∧ (∀ c ∈ s, innB c = true) ∧ s.length ≤ 12 := by
  unfold namB at h
  rw [Bool.and_eq_true, Bool.and_eq_true, Bool.and_eq_true, decide_eq_true_eq, decide_eq_true_eq, decide_eq_true_eq, bs_size] at h
  obtain ⟨⟨⟨h0, h1⟩, h2⟩, h3⟩ := h
  cases s with
  | nil => simp at h0
  | cons c r =>
    refine ⟨⟨c, r, rfl, by simpa [bt, bs_list] using h1⟩, fun x hx => ?_, h3⟩
    unfold frontOf at h2
    rw [bs_list] at h2
    have e : (c :: r).takeWhile innB = c :: r := (List.takeWhile_sublist _).eq_of_length h2
    rw [← e] at hx
    exact tw_all innB _ _ hx

def glyRunes : List Int := [43, 45, 215, 247, 124, 8970, 8968, 42, 61, 8800, 60, 8804, 8805, 62, 8743, 8744, 126, 9076, 44, 9021, 9033, 9075, 8802, 9035, 9042, 8593, 8595, 8714, 47, 92, 8728, 46, 8592, 40, 41, 91, 93, 123, 125, 59, 58, 9082, 9077, 8711, 8900]
theorem glyChars_eq : glyChars = glyRunes.map encodeRune := by decide +kernel
theorem glyRunes_all : ∀ c ∈ glyRunes, isChar c = true := by decide +kernel
theorem gly_head : ∀ g ∈ glyChars, (match g with | [] => false | c :: _ => !letB c && (!digB c && (c != 39 && (c != 194 && (c != 32 && c != 10))))) = true := by decide +kernel

theorem letB_not (c : UInt8) (h : letB c = true) : digB c = false ∧ c ≠ 39 ∧ c ≠ 194 ∧ c ≠ 32 := by
  rw [letB_eq] at h
  simp only [Bool.or_eq_true, Bool.and_eq_true, decide_eq_true_eq] at h
  refine ⟨?_, ?_, ?_, ?_⟩
  · unfold digB; rw [Bool.and_eq_false_iff, decide_eq_false_iff_not, decide_eq_false_iff_not]; omega
  · intro e; subst e; have : ((39 : UInt8).toNat : Int) = 39 := rfl; omega
  · intro e; subst e; have : ((194 : UInt8).toNat : Int) = 194 := rfl; omega
  · intro e; subst e; have : ((32 : UInt8).toNat : Int) = 32 := rfl; omega

theorem numB_not {c : UInt8} {r : List UInt8} (h1 : digB c = false) (h2 : c ≠ 194) : numB (c :: r) = false := by
  unfold numB Lib.trimPrefix Lib.hasPrefix
  have : ([194, 175] : List UInt8).isPrefixOf (c :: r) = false := by simp [List.isPrefixOf, Ne.symm h2]
  rw [this]
  exact h1

theorem Good.head {t : Tok} (h : Good t) (r : List UInt8) : ∃ c s, shw t ++ r = c :: s ∧ c ≠ 32 ∧ (isNumT t = false → numB (c :: s) = false) := by
  rcases h with ⟨k, tx, hc, hr⟩ | ⟨k, hn, hv⟩ | ⟨k, hg, hv⟩
  · unfold shw
    rw [if_pos k]
    obtain ⟨-, -, -, hx, -⟩ := canV_parts hc
    unfold elemText
    rcases hx with ⟨hx, hne, hk⟩ | ⟨hx, hch, hk⟩
    · rw [if_neg (by omega), if_neg hne]
      have hnum : isNumT t = true := by unfold isNumT; simp [k, hk]
      cases he : t.val.elems with
      | nil => exact absurd he hne
      | cons x xs =>
        rw [List.map_cons, Lib.join_cons, List.append_assoc]
        obtain ⟨c, s, e, hc⟩ := dig_head x (Lib.joinTail [32] (xs.map dig) ++ r)
        exact ⟨c, s, e, hc, fun h => by rw [hnum] at h; cases h⟩
    · rw [if_pos hk]
      exact ⟨39, _, rfl, by decide, fun _ => numB_not (by decide) (by decide)⟩
  · obtain ⟨⟨c, s, e, hl⟩, -, -⟩ := namB_parts hn
    obtain ⟨l1, l2, l3, l4⟩ := letB_not c hl
    unfold shw
    rw [if_neg (by omega), e]
    exact ⟨c, s ++ r, rfl, l4, fun _ => numB_not l1 l3⟩
  · have hh := gly_head _ hg
    unfold shw
    rw [if_neg (by omega)]
    cases htx : t.txt with
    | nil => rw [htx] at hh; cases hh
    | cons c s =>
      rw [htx] at hh
      simp only [Bool.and_eq_true, Bool.not_eq_true', bne_iff_ne, ne_eq] at hh
      exact ⟨c, s ++ r, rfl, hh.2.2.2.2.1, fun _ => numB_not hh.2.1 hh.2.2.2.1⟩

/-- A token, shown, and what stands behind it, is told as it is. -/
theorem read_shown {t : Tok} (h : Good t) (rest : List UInt8) (hb : blankEnd rest) (hn : isNumT t = true → numB (trimLeftB rest 32) = false) :
    ∃ left, readTok (shw t ++ rest) = (t, left, false) ∧ trimLeftB left 32 = trimLeftB rest 32 := by
  rcases h with ⟨k, tx, hc, hr⟩ | ⟨k, hn1, hv⟩ | ⟨k, hg, hv⟩
  · unfold shw
    rw [if_pos k]
    obtain ⟨-, -, -, hx, -⟩ := canV_parts hc
    unfold elemText
    rcases hx with ⟨hx, hne, hk⟩ | ⟨hx, hch, hk⟩
    · rw [if_neg (by omega), if_neg hne]
      have hnum : isNumT t = true := by unfold isNumT; simp [k, hk]
      have hnb : numB (Lib.join (t.val.elems.map dig) [32] ++ rest) = true := by
        cases he : t.val.elems with
        | nil => exact absurd he hne
        | cons x xs =>
          have hx0 : -9223372036854775808 ≤ x ∧ x ≤ 9223372036854775807 := by have := hr 0 (by rw [he]; simp); rw [he] at this; simpa using this
          rw [List.map_cons, Lib.join_cons, List.append_assoc]
          refine (dig_read x _ ?_ hx0.1 hx0.2).1
          cases xs with
          | nil => simpa [Lib.joinTail] using hb.noDig
          | cons y ys => intro c s e; simp [Lib.joinTail] at e; rw [← e.1]; decide
      have hrd := nums_read t.val.elems hne hr rest hb (hn hnum) (Lib.join (t.val.elems.map dig) [32] ++ rest).length (by rw [List.length_append]; have := join_ge t.val.elems; omega)
      refine ⟨trimLeftB rest 32, ?_, trimLeft_idem rest⟩
      unfold readTok
      rw [if_pos hnb, hrd]
      simp only
      rw [← hx]
      cases t
      simp only at k tx ⊢
      rw [k, tx]
    · rw [if_pos hk]
      rw [List.cons_append, readTok_39, List.append_assoc, List.singleton_append, quoted_text _ rest (fun r e => by have := hb 39 r e; cases this)]
      refine ⟨rest, ?_, rfl⟩
      simp only [Option.getD_some, Option.isNone_some]
      rw [runes_encs hch, ← hx]
      cases t
      simp only at k tx ⊢
      rw [k, tx]
  · obtain ⟨⟨c, s, e, hl⟩, hin, hlen⟩ := namB_parts hn1
    obtain ⟨l1, l2, l3, l4⟩ := letB_not c hl
    have hnl : nameLen (t.txt ++ rest) = t.txt.length := by
      unfold nameLen
      rw [tw_pre hin (fun c s e => by rw [hb c s e]; decide)]
    unfold shw
    rw [if_neg (by omega)]
    refine ⟨rest, ?_, rfl⟩
    have hnn : numB (t.txt ++ rest) = false := by rw [e]; exact numB_not l1 l3
    unfold readTok
    rw [if_neg (by rw [hnn]; simp)]
    have e2 : t.txt ++ rest = c :: (s ++ rest) := by rw [e]; rfl
    rw [e2]
    simp only
    rw [if_neg l2, if_pos hl, ← e2, hnl, List.take_left, List.drop_left, decide_eq_false (by omega)]
    cases t
    simp only at k hv ⊢
    rw [k, hv]
  · have hh := gly_head _ hg
    have hg' := hg
    rw [glyChars_eq] at hg'
    obtain ⟨rn, hrn, he⟩ := List.mem_map.1 hg'
    have hch := glyRunes_all rn hrn
    have hdl : chLen (t.txt ++ rest) = t.txt.length := by
      unfold chLen Lib.decodeGo
      have hne := enc_ne rn
      rw [he] at hne
      have : 0 < t.txt.length := List.length_pos_iff.2 hne
      rw [if_neg (by rw [bs_size, List.length_append]; omega), decode_drop, List.drop_zero, ← he, decode_enc hch]
    unfold shw
    rw [if_neg (by omega)]
    refine ⟨rest, ?_, rfl⟩
    cases htx : t.txt with
    | nil => rw [htx] at hh; cases hh
    | cons c s =>
      rw [htx] at hh
      simp only [Bool.and_eq_true, Bool.not_eq_true', bne_iff_ne, ne_eq] at hh
      have hnn : numB (c :: s ++ rest) = false := numB_not hh.2.1 hh.2.2.2.1
      have hgt : glyTxt (c :: s ++ rest) = c :: s := by
        unfold glyTxt
        rw [← htx, hdl, List.take_left, if_neg (by rw [htx]; intro e; cases e; exact hh.2.2.2.2.2 rfl)]
      have hcon : Lib.contains glyphsL (c :: s) = true := by
        rw [contains_glyphs (List.all_eq_true.1 glyChars_all _ (htx ▸ hg))]
        exact decide_eq_true (htx ▸ hg)
      unfold readTok
      rw [if_neg (by rw [hnn]; simp)]
      rw [List.cons_append] at hgt ⊢
      simp only
      rw [if_neg hh.2.2.1, if_neg (by rw [hh.1]; simp), hgt, hcon]
      have hdl2 : chLen (c :: (s ++ rest)) = (c :: s).length := by rw [← htx, ← hdl, htx]; rfl
      rw [hdl2, ← List.cons_append, List.drop_left]
      cases t
      simp only at k hv htx ⊢
      rw [k, hv, htx]; rfl
end Go.Proofs.YthlingdlehdlhaaDoor

namespace Go.Proofs.YthlingdlehdlhaaDoor
open Go.RowKit Go.Shelf
open Go.Lib (decodeL decodeN encodeRune decDigits trimLeftB validD)
set_option linter.unusedVariables false
set_option linter.unusedSimpArgs false

def shTail : List Tok → List UInt8
  | [] => []
  | t :: r => 32 :: (shw t ++ shTail r)
def shText : List Tok → List UInt8
  | [] => []
  | t :: r => shw t ++ shTail r
theorem joinTail_sh (r : List Tok) : Lib.joinTail [32] (r.map shw) = shTail r := by
  induction r with
  | nil => rfl
  | cons t r ih =>
    show ([32] ++ shw t) ++ Lib.joinTail [32] (r.map shw) = _
    rw [ih]; rfl
theorem join_shText (T : List Tok) : Lib.join (T.map shw) [32] = shText T := by
  cases T with
  | nil => rfl
  | cons t r => rw [List.map_cons, Lib.join_cons, joinTail_sh]; rfl
theorem shTail_blank (r : List Tok) : blankEnd (shTail r) := by
  cases r with
  | nil => intro c s e; cases e
  | cons t r => intro c s e; cases e; rfl

/-- Tokens that can be told one behind the other. -/
def Chain : List Tok → Prop
  | [] => True
  | t :: r => Good t ∧ (∀ u s, r = u :: s → isNumT t = true → isNumT u = false) ∧ Chain r

theorem Good.small {t : Tok} (h : Good t) : decide (4096 < t.val.elems.length) = false := by
  rcases h with ⟨k, tx, hc, hr⟩ | ⟨k, hn, hv⟩ | ⟨k, hg, hv⟩
  · exact decide_eq_false (by have := (canV_parts hc).2.2.2.2; omega)
  · rw [hv]; rfl
  · rw [hv]; rfl

theorem toksFrom_nil (f : Nat) : toksFrom f [] = ([], false, false) := by cases f <;> rfl

theorem toks_shown (r : List Tok) : ∀ (t : Tok), Chain (t :: r) → ∀ f, (shw t ++ shTail r).length < f → toksFrom f (shw t ++ shTail r) = (t :: r, false, false) := by
  induction r with
  | nil =>
    intro t hc f hf
    obtain ⟨f, rfl⟩ : ∃ g, f = g + 1 := ⟨f - 1, by omega⟩
    obtain ⟨c, s, e, h32, -⟩ := hc.1.head (shTail [])
    obtain ⟨left, h1, h2⟩ := read_shown hc.1 (shTail []) (shTail_blank []) (fun _ => rfl)
    have ht : trimLeftB (shw t ++ shTail []) 32 = shw t ++ shTail [] := by rw [e]; exact trim_ne s h32
    rw [toksFrom, ht, if_neg (by rw [e]; simp), h1]
    simp only [Bool.false_eq_true, if_false]
    rw [← toksFrom_trim, h2, hc.1.small]
    show (t :: (toksFrom f []).1, (toksFrom f []).2.1, false || (toksFrom f []).2.2) = _
    rw [toksFrom_nil]; rfl
  | cons u r ih =>
    intro t hc f hf
    obtain ⟨hg, hadj, hcr⟩ := hc
    obtain ⟨f, rfl⟩ : ∃ g, f = g + 1 := ⟨f - 1, by omega⟩
    obtain ⟨c, s, e, h32, -⟩ := hg.head (shTail (u :: r))
    obtain ⟨c', s', e', h32', hnum'⟩ := hcr.1.head (shTail r)
    have htl : trimLeftB (shTail (u :: r)) 32 = shw u ++ shTail r := by
      show trimLeftB (32 :: (shw u ++ shTail r)) 32 = _
      rw [trim_cons32, e']; exact trim_ne s' h32'
    obtain ⟨left, h1, h2⟩ := read_shown hg (shTail (u :: r)) (shTail_blank _) (fun hn => by rw [htl, e']; exact hnum' (hadj u r rfl hn))
    have ht : trimLeftB (shw t ++ shTail (u :: r)) 32 = shw t ++ shTail (u :: r) := by rw [e]; exact trim_ne s h32
    rw [toksFrom, ht, if_neg (by rw [e]; simp), h1]
    simp only [Bool.false_eq_true, if_false]
    rw [← toksFrom_trim, h2, htl, hg.small, ih u hcr f (by
      have : (shw t ++ shTail (u :: r)).length = (shw t).length + (1 + (shw u ++ shTail r).length) := by
        rw [List.length_append]; show _ + (32 :: (shw u ++ shTail r)).length = _; rw [List.length_cons]; omega
      omega)]
    rfl

/-! ### The text is UTF-8 -/
def EncT (l : List UInt8) : Prop := ∀ r, validD (l ++ r) = validD r
theorem EncT.nil : EncT [] := fun r => rfl
theorem EncT.append {a b : List UInt8} (ha : EncT a) (hb : EncT b) : EncT (a ++ b) := fun r => by rw [List.append_assoc, ha, hb]
theorem EncT.ascii {c : UInt8} (h : c.toNat < 128) : EncT [c] := fun r => Lib.validD_cons c r h
theorem EncT.all {l : List UInt8} (h : ∀ c ∈ l, c.toNat < 128) : EncT l := by
  induction l with
  | nil => exact EncT.nil
  | cons c r ih => exact EncT.append (a := [c]) (EncT.ascii (h c (by simp))) (ih fun x hx => h x (by simp [hx]))
theorem enc_len3 (c : Int) (h : c = 65533) : (encodeRune c).length = 3 := by subst h; decide
theorem EncT.enc {c : Int} (h : isChar c = true) : EncT (encodeRune c) := fun r => by
  have hne := enc_ne c
  rw [Lib.validD_step _ (by simp [hne]), decode_enc h]
  simp only
  rw [List.drop_left, if_neg]
  rintro ⟨h1, h2⟩
  have := enc_len3 c (by have := (isChar_cases h).1; omega)
  omega
theorem EncT.encs {xs : List Int} (h : ∀ c ∈ xs, isChar c = true) : EncT (encs xs) := by
  induction xs with
  | nil => exact EncT.nil
  | cons x r ih => rw [encs_cons]; exact (EncT.enc (h x (by simp))).append (ih fun c hc => h c (by simp [hc]))
theorem enc_minus : encodeRune 175 = [194, 175] := by decide
theorem EncT.dig (n : Int) : EncT (dig n) := by
  have hd : ∀ u, EncT (decDigits u) := fun u => EncT.all fun c hc => by have := dec_digit u c hc; omega
  unfold Proofs.YthlingdlehdlhaaDoor.dig
  split
  · exact EncT.append (a := [194, 175]) (by rw [← enc_minus]; exact EncT.enc (by decide)) (hd _)
  · exact hd _
theorem EncT.join {xs : List (List UInt8)} (h : ∀ x ∈ xs, EncT x) : EncT (Lib.join xs [32]) := by
  cases xs with
  | nil => exact EncT.nil
  | cons x r =>
    rw [Lib.join_cons]
    refine (h x (by simp)).append ?_
    have hr := fun y hy => h y (List.mem_cons_of_mem _ hy)
    clear h
    induction r with
    | nil => exact EncT.nil
    | cons y r ih => exact EncT.append (a := [32] ++ y) ((EncT.ascii (by decide)).append (hr y (by simp))) (ih fun z hz => hr z (by simp [hz]))
theorem subst_append (c : UInt8) (new a b : List UInt8) : subst c new (a ++ b) = subst c new a ++ subst c new b := by simp [subst]
theorem enc_no39 {c : Int} (h : isChar c = true) (hc : c ≠ 39) : (39 : UInt8) ∉ encodeRune c := by
  have key : ∀ z : Int, 0 ≤ z ∧ z < 256 → z ≠ 39 → (39 : UInt8) ≠ z.toNat.toUInt8 := fun z h1 h2 e => by
    have := congrArg UInt8.toNat e
    rw [u8v h1] at this
    have e2 : (39 : UInt8).toNat = 39 := rfl
    omega
  unfold encodeRune
  rcases enc_forms h with ⟨a1, a2, a3⟩ | ⟨a1, a2, a3⟩ | ⟨a1, a2, a3⟩ | ⟨a1, a2, a3⟩
  all_goals
    rw [a3]
    simp only [List.map_cons, List.map_nil, List.mem_cons, List.not_mem_nil, or_false, not_or]
  · exact key _ (by omega) (by omega)
  · exact ⟨key _ (by omega) (by omega), key _ (by omega) (by omega)⟩
  · exact ⟨key _ (by omega) (by omega), key _ (by omega) (by omega), key _ (by omega) (by omega)⟩
  · exact ⟨key _ (by omega) (by omega), key _ (by omega) (by omega), key _ (by omega) (by omega), key _ (by omega) (by omega)⟩
theorem subst_id {c : UInt8} {new l : List UInt8} (h : c ∉ l) : subst c new l = l := by
  induction l with
  | nil => rfl
  | cons x r ih =>
    have hx : x ≠ c := fun e => h (by simp [e])
    have : subst c new (x :: r) = x :: subst c new r := by simp [subst, hx]
    rw [this, ih fun e => h (by simp [e])]
theorem EncT.subst {xs : List Int} (h : ∀ c ∈ xs, isChar c = true) : EncT (Proofs.YthlingdlehdlhaaDoor.subst 39 [39, 39] (Proofs.YthlingdlehdlhaaDoor.encs xs)) := by
  induction xs with
  | nil => exact EncT.nil
  | cons x r ih =>
    rw [encs_cons, subst_append]
    refine EncT.append ?_ (ih fun c hc => h c (by simp [hc]))
    by_cases hx : x = 39
    · subst hx
      have : Proofs.YthlingdlehdlhaaDoor.subst 39 [39, 39] (encodeRune 39) = [39, 39] := by decide
      rw [this]; exact EncT.all (fun c hc => by simp at hc; subst hc; decide)
    · rw [subst_id (enc_no39 (h x (by simp)) hx)]
      exact EncT.enc (h x (by simp))

theorem innB_ascii {c : UInt8} (h : innB c = true) : c.toNat < 128 := by
  rw [innB_eq, letB_eq] at h
  unfold digB at h
  simp only [Bool.or_eq_true, Bool.and_eq_true, decide_eq_true_eq, beq_iff_eq] at h
  omega

theorem Good.enc {t : Tok} (h : Good t) : EncT (shw t) := by
  rcases h with ⟨k, tx, hc, hr⟩ | ⟨k, hn, hv⟩ | ⟨k, hg, hv⟩
  · unfold shw
    rw [if_pos k]
    obtain ⟨-, -, -, hx, -⟩ := canV_parts hc
    unfold elemText
    rcases hx with ⟨hx, hne, hk⟩ | ⟨hx, hch, hk⟩
    · rw [if_neg (by omega), if_neg hne]
      exact EncT.join fun x hx => by obtain ⟨n, -, rfl⟩ := List.mem_map.1 hx; exact EncT.dig n
    · rw [if_pos hk]
      exact EncT.append (a := [39]) (EncT.ascii (by decide)) ((EncT.subst hch).append (EncT.ascii (by decide)))
  · unfold shw
    rw [if_neg (by omega)]
    exact EncT.all fun c hc => innB_ascii ((namB_parts hn).2.1 c hc)
  · unfold shw
    rw [if_neg (by omega)]
    rw [glyChars_eq] at hg
    obtain ⟨rn, hrn, he⟩ := List.mem_map.1 hg
    rw [← he]; exact EncT.enc (glyRunes_all rn hrn)

theorem Chain.encTail {r : List Tok} (h : Chain r) : EncT (shTail r) := by
  induction r with
  | nil => exact EncT.nil
  | cons t r ih => exact EncT.append (a := [32]) (EncT.ascii (by decide)) (h.1.enc.append (ih h.2.2))
theorem Chain.valid {T : List Tok} (h : Chain T) : validD (shText T) = true := by
  have : EncT (shText T) := by
    cases T with
    | nil => exact EncT.nil
    | cons t r => exact h.1.enc.append h.2.2.encTail
  have := this []
  rw [List.append_nil] at this
  rw [this]; rfl

/-- WHAT IS SHOWN IS TOLD AGAIN. -/
theorem tokens_shown {T : List Tok} (h : Chain T) (hl : T.length ≤ 4000) : tokensOf (shText T) = (T, 0) := by
  unfold tokensOf
  rw [h.valid, if_neg (by simp)]
  cases T with
  | nil => rfl
  | cons t r =>
    have := toks_shown r t h ((shw t ++ shTail r).length + 1) (by omega)
    rw [show shText (t :: r) = shw t ++ shTail r from rfl]
    simp only [this]
    rw [if_neg (by simp), if_neg (by simp only [List.length_cons] at hl ⊢; simp; omega)]
end Go.Proofs.YthlingdlehdlhaaDoor

namespace Go.Proofs.YthlingdlehdlhaaDoor
open Go.RowKit Go.Shelf
open Go.Lib (decodeL decodeN encodeRune decDigits trimLeftB validD)
set_option linter.unusedVariables false
set_option linter.unusedSimpArgs false

theorem isChar_of {n : Int} (h0 : 0 ≤ n) (h1 : n ≤ 1114111) (h2 : ¬ (55296 ≤ n ∧ n ≤ 57343)) : isChar n = true := by
  unfold isChar Lib.validRune
  simp only [Bool.and_eq_true, decide_eq_true_eq, Bool.or_eq_true]
  omega

theorem decode_char (l : List UInt8) : isChar ((decodeL l).1 : Int) = true := by
  rw [Lib.decodeL_N]
  have h0 : (l.getD 0 0).toNat < 256 := UInt8.toNat_lt _
  rcases Lib.decodeN_shape l.length (l.getD 0 0).toNat (l.getD 1 0).toNat (l.getD 2 0).toNat (l.getD 3 0).toNat with ⟨c, e⟩ | ⟨c1, c2, c3, cv, e⟩ | ⟨c1, c2, c3, c4, cv, cs, e⟩ | ⟨c1, c2, c3, c4, c5, cv, cw, e⟩ | e
  all_goals
    rw [e]
    exact isChar_of (by omega) (by simp only; omega) (by simp only; omega)

theorem getD_at (a b : List UInt8) (c : UInt8) : (a ++ c :: b).getD a.length 0 = c := by
  rw [List.getD_eq_getElem?_getD, List.getElem?_append_right (Nat.le_refl _)]; simp

theorem decode_short (a b : List UInt8) (c : UInt8) (hc : c.toNat < 128) (hne : a ≠ []) (hok : ¬ ((decodeL (a ++ c :: b)).1 = 65533 ∧ (decodeL (a ++ c :: b)).2 = 1)) : (decodeL (a ++ c :: b)).2 ≤ a.length := by
  have hl : 0 < a.length := List.length_pos_iff.2 hne
  have hat := getD_at a b c
  rw [Lib.decodeL_N] at hok ⊢
  have h0 : ((a ++ c :: b).getD 0 0).toNat < 256 := UInt8.toNat_lt _
  rcases decodeN_kind (a ++ c :: b).length ((a ++ c :: b).getD 0 0).toNat ((a ++ c :: b).getD 1 0).toNat ((a ++ c :: b).getD 2 0).toNat ((a ++ c :: b).getD 3 0).toNat h0 with e | ⟨k, e⟩ | ⟨k, k', k2, q1, e⟩ | ⟨k, k', k2, q1, q2, e⟩ | ⟨k, k', k2, q1, q2, q3, e⟩
  · exact absurd (by rw [e]; exact ⟨rfl, rfl⟩) hok
  · omega
  · rw [e]
    rcases Nat.lt_or_ge 1 a.length with h | h
    · exact h
    · have : a.length = 1 := by omega
      rw [this] at hat; rw [hat] at q1; omega
  · rw [e]
    rcases Nat.lt_or_ge 2 a.length with h | h
    · exact h
    · have : a.length = 1 ∨ a.length = 2 := by omega
      rcases this with h1 | h1 <;> rw [h1] at hat
      · rw [hat] at q1; omega
      · rw [hat] at q2; omega
  · rw [e]
    rcases Nat.lt_or_ge 3 a.length with h | h
    · exact h
    · have : a.length = 1 ∨ a.length = 2 ∨ a.length = 3 := by omega
      rcases this with h1 | h1 | h1 <;> rw [h1] at hat
      · rw [hat] at q1; omega
      · rw [hat] at q2; omega
      · rw [hat] at q3; omega

theorem valid_split (n : Nat) : ∀ (a b : List UInt8) (c : UInt8), a.length ≤ n → c.toNat < 128 → validD (a ++ c :: b) = true → validD a = true ∧ validD b = true := by
  induction n with
  | zero =>
    intro a b c hn hc hv
    have : a = [] := List.eq_nil_of_length_eq_zero (by omega)
    subst this
    rw [List.nil_append, Lib.validD_cons c b hc] at hv
    exact ⟨rfl, hv⟩
  | succ n ih =>
    intro a b c hn hc hv
    by_cases hne : a = []
    · subst hne
      rw [List.nil_append, Lib.validD_cons c b hc] at hv
      exact ⟨rfl, hv⟩
    · have hL : a ++ c :: b ≠ [] := by simp
      have hs := Lib.validD_step _ hL
      rw [hv] at hs
      have hok : ¬ ((decodeL (a ++ c :: b)).1 = 65533 ∧ (decodeL (a ++ c :: b)).2 = 1) := fun h => by rw [if_pos h] at hs; cases hs
      rw [if_neg hok] at hs
      have hle := decode_short a b c hc hne hok
      have hw := Lib.decodeL_width (a ++ c :: b)
      have henc := Lib.encode_decode _ hL hok
      have hch := decode_char (a ++ c :: b)
      generalize (decodeL (a ++ c :: b)).2 = k at *
      generalize ((decodeL (a ++ c :: b)).1 : Int) = x at *
      rw [List.drop_append_of_le_length hle] at hs
      rw [List.take_append_of_le_length hle] at henc
      obtain ⟨i1, i2⟩ := ih (a.drop k) b c (by rw [List.length_drop]; omega) hc hs.symm
      refine ⟨?_, i2⟩
      rw [← List.take_append_drop k a, ← henc, EncT.enc hch]
      exact i1
theorem valid_behind {a b : List UInt8} {c : UInt8} (hc : c.toNat < 128) (h : validD (a ++ c :: b) = true) : validD b = true := (valid_split a.length a b c (Nat.le_refl _) hc h).2
theorem valid_ahead {a b : List UInt8} {c : UInt8} (hc : c.toNat < 128) (h : validD (a ++ c :: b) = true) : validD a = true := (valid_split a.length a b c (Nat.le_refl _) hc h).1

theorem valid_trim (l : List UInt8) : validD (trimLeftB l 32) = validD l := by
  unfold trimLeftB
  induction l with
  | nil => rfl
  | cons c r ih =>
    by_cases h : (c == 32) = true
    · rw [List.dropWhile_cons, if_pos h, ih]
      have : c = 32 := by simpa using h
      subst this
      exact (Lib.validD_cons 32 r (by decide)).symm
    · rw [List.dropWhile_cons, if_neg h]

/-- Behind some bytes below 128, one at least. -/
theorem valid_drop {l : List UInt8} {k : Nat} (hk : 0 < k) (hkl : k ≤ l.length) (hlast : ∀ c, l[k - 1]? = some c → c.toNat < 128) (h : validD l = true) : validD (l.drop k) = true := by
  have hlt : k - 1 < l.length := by omega
  have e : l = l.take (k - 1) ++ l[k - 1] :: l.drop k := by
    have h1 := List.drop_eq_getElem_cons hlt
    rw [show k - 1 + 1 = k from by omega] at h1
    rw [← h1, List.take_append_drop]
  rw [e] at h
  exact valid_behind (hlast _ (List.getElem?_eq_getElem hlt)) h

theorem digB_ascii {c : UInt8} (h : digB c = true) : c.toNat < 128 := by have := digB_iff h; omega

theorem valid_numLeft {l : List UInt8} (hn : numB l = true) (h : validD l = true) : validD (numLeft l) = true := by
  have hb := numDigs_ne hn
  have hd := numDigs_all l
  have hbody : validD (numBody l) = true := by
    unfold numBody
    split
    · rename_i hm
      unfold minusB Lib.hasPrefix at hm
      obtain ⟨t, ht⟩ := List.isPrefixOf_iff_prefix.1 hm
      rw [← ht] at h ⊢
      have := EncT.enc (c := 175) (by decide) t
      rw [enc_minus] at this
      rw [this] at h
      exact h
    · exact h
  unfold numLeft
  unfold numDigs at hb hd
  generalize digLen (numBody l) = k at *
  have hk : 0 < k := by
    rcases Nat.eq_zero_or_pos k with rfl | h
    · simp at hb
    · exact h
  rcases Nat.lt_or_ge (numBody l).length k with h1 | h1
  · rw [List.drop_eq_nil_of_le (by omega)]; rfl
  · refine valid_drop hk h1 (fun c hc => digB_ascii (hd c ?_)) hbody
    obtain ⟨h2, rfl⟩ := List.getElem?_eq_some_iff.1 hc
    rw [List.mem_take_iff_getElem]
    exact ⟨k - 1, by omega, rfl⟩

theorem valid_nums (f : Nat) (l : List UInt8) (h : validD l = true) : validD (numsFrom f l).2.1 = true := by
  induction f generalizing l with
  | zero => exact h
  | succ f ih =>
    rw [numsFrom]
    split
    · rename_i hn
      exact ih _ (by rw [valid_trim]; exact valid_numLeft hn h)
    · exact h

theorem quoted_part (n : Nat) : ∀ (r rest : List UInt8), r.length ≤ n → (quoted r).2 = some rest → ∃ a, r = a ++ 39 :: rest := by
  induction n with
  | zero =>
    intro r rest hn h
    have : r = [] := List.eq_nil_of_length_eq_zero (by omega)
    subst this
    rw [quoted_nil] at h; cases h
  | succ n ih =>
    intro r rest hn h
    cases r with
    | nil => rw [quoted_nil] at h; cases h
    | cons c r =>
      rw [quoted_cons] at h
      by_cases hc : c = 39
      · rw [if_pos hc] at h
        subst hc
        cases r with
        | nil => cases h; exact ⟨[], rfl⟩
        | cons d r' =>
          simp only at h
          by_cases hd : d = 39
          · rw [if_pos hd] at h
            obtain ⟨a, ha⟩ := ih r' rest (by simp at hn; omega) h
            exact ⟨39 :: d :: a, by rw [ha]; rfl⟩
          · rw [if_neg hd] at h; cases h; exact ⟨[], rfl⟩
      · rw [if_neg hc] at h
        obtain ⟨a, ha⟩ := ih r rest (by simp at hn; omega) h
        exact ⟨c :: a, by rw [ha]; rfl⟩

theorem readTok_num {L : List UInt8} (h : numB L = true) : readTok L = (⟨1, [], numsArr (numsFrom L.length L).1⟩, (numsFrom L.length L).2.1, (numsFrom L.length L).2.2) := by
  unfold readTok; rw [if_pos h]
theorem readTok_name {c : UInt8} {r : List UInt8} (h : numB (c :: r) = false) (h39 : c ≠ 39) (hl : letB c = true) :
    readTok (c :: r) = (⟨2, (c :: r).take (nameLen (c :: r)), noArr⟩, (c :: r).drop (nameLen (c :: r)), decide (12 < nameLen (c :: r))) := by
  unfold readTok; rw [if_neg (by rw [h]; simp)]; simp only [if_neg h39, if_pos hl]
theorem readTok_gly {c : UInt8} {r : List UInt8} (h : numB (c :: r) = false) (h39 : c ≠ 39) (hl : letB c = false) :
    readTok (c :: r) = (⟨3, glyTxt (c :: r), noArr⟩, (c :: r).drop (chLen (c :: r)), !Lib.contains glyphsL (glyTxt (c :: r))) := by
  unfold readTok; rw [if_neg (by rw [h]; simp)]; simp only [if_neg h39, hl, Bool.false_eq_true, if_false]
theorem chLen_L (L : List UInt8) (h : L ≠ []) : chLen L = (Lib.decodeL L).2 := by
  unfold chLen Lib.decodeGo
  rw [if_neg (by rw [bs_size]; have := List.length_pos_iff.2 h; omega), decode_drop, List.drop_zero]

theorem nameLen_facts {c : UInt8} {r : List UInt8} (hl : letB c = true) : 0 < nameLen (c :: r) ∧ nameLen (c :: r) ≤ (c :: r).length ∧ ∀ x ∈ (c :: r).take (nameLen (c :: r)), innB x = true := by
  have e : (c :: r).take (nameLen (c :: r)) = (c :: r).takeWhile innB := by
    unfold nameLen
    conv => lhs; rw [← List.takeWhile_append_dropWhile (p := innB) (l := c :: r)]
    rw [List.take_left']
    rw [List.takeWhile_append_dropWhile]
  refine ⟨?_, ?_, fun x hx => by rw [e] at hx; exact tw_all innB _ _ hx⟩
  · unfold nameLen; rw [List.takeWhile_cons, if_pos (by unfold innB; rw [hl]; rfl)]; simp
  · unfold nameLen; exact (List.takeWhile_sublist _).length_le

/-- What is left behind a token is UTF-8. -/
theorem valid_left {L : List UInt8} (hne : L ≠ []) (h : validD L = true) (hb : (readTok L).2.2 = false) : validD (readTok L).2.1 = true := by
  by_cases hn : numB L = true
  · rw [readTok_num hn]; exact valid_nums _ _ h
  · have hn : numB L = false := by simpa using hn
    obtain ⟨c, r, rfl⟩ := List.exists_cons_of_ne_nil hne
    by_cases h39 : c = 39
    · subst h39
      rw [readTok_39] at hb ⊢
      simp only at hb ⊢
      cases hq : (quoted r).2 with
      | none => rw [hq] at hb; cases hb
      | some rest =>
        obtain ⟨a, ha⟩ := quoted_part r.length r rest (Nat.le_refl _) hq
        rw [ha] at h
        exact valid_behind (a := 39 :: a) (c := 39) (by decide) h
    · cases hl : letB c with
      | true =>
        rw [readTok_name hn h39 hl]
        obtain ⟨n1, n2, n3⟩ := nameLen_facts (r := r) hl
        refine valid_drop n1 n2 (fun x hx => innB_ascii (n3 x ?_)) h
        obtain ⟨h2, rfl⟩ := List.getElem?_eq_some_iff.1 hx
        rw [List.mem_take_iff_getElem]
        exact ⟨nameLen (c :: r) - 1, by omega, rfl⟩
      | false =>
        rw [readTok_gly hn h39 hl]
        simp only
        rw [chLen_L _ hne]
        have hs := Lib.validD_step _ hne
        rw [h] at hs
        split at hs
        · cases hs
        · exact hs.symm
end Go.Proofs.YthlingdlehdlhaaDoor

namespace Go.Proofs.YthlingdlehdlhaaDoor
open Go.RowKit Go.Shelf
open Go.Lib (decodeL decodeN encodeRune decDigits trimLeftB validD)
set_option linter.unusedVariables false
set_option linter.unusedSimpArgs false

theorem count_len (n : Nat) (h : n ≤ 4096) : count (if n = 1 then [] else [(n : Int)]) = some (n : Int) := by
  by_cases h1 : n = 1
  · rw [if_pos h1, h1]; rfl
  · rw [if_neg h1, count_one, if_neg (by omega)]

theorem nums_canV {xs : List Int} (hne : xs ≠ []) (h : xs.length ≤ 4096) : canV (numsArr xs) = true := by
  have h0 : 0 < xs.length := List.length_pos_iff.2 hne
  unfold canV okArr numsArr
  simp only
  rw [count_len _ h]
  by_cases h1 : xs.length = 1
  · simp [h1]
  · rw [if_neg h1]
    simp [h1]; omega
theorem chrs_canV {xs : List Int} (hc : ∀ c ∈ xs, isChar c = true) (h : xs.length ≤ 4096) : canV (chrsArr xs) = true := by
  unfold canV okArr chrsArr
  simp only
  rw [count_len _ h]
  have ho : hasOdd xs = false := by unfold hasOdd; rw [List.any_eq_false]; intro c hc'; rw [hc c hc']; simp
  by_cases h1 : xs.length = 1
  · simp [h1, ho]
  · rw [if_neg h1]
    simp [h1, ho]

theorem runesL_char (f : Nat) (l : List UInt8) : ∀ c ∈ runesL f l, isChar c = true := by
  induction f generalizing l with
  | zero => intro c hc; cases hc
  | succ f ih =>
    rw [runesL]
    split
    · intro c hc; cases hc
    · intro c hc
      rcases List.mem_cons.1 hc with rfl | hc
      · exact decode_char l
      · exact ih _ c hc
theorem isChar_rng {c : Int} (h : isChar c = true) : -9223372036854775808 ≤ c ∧ c ≤ 9223372036854775807 := by
  have := isChar_cases h; omega
theorem rng_of {xs : List Int} (h : ∀ x ∈ xs, -9223372036854775808 ≤ x ∧ x ≤ 9223372036854775807) : Rng xs := by
  intro i hi
  rw [List.getElem?_eq_getElem hi]
  exact h _ (List.getElem_mem hi)

theorem numVal_rngL {l : List UInt8} (hn : numB l = true) (h : numBad l = false) : -9223372036854775808 ≤ numVal l ∧ numVal l ≤ 9223372036854775807 := by
  rw [(num_same hn).2 h]
  unfold refVal
  split <;> unfold wrap64 <;> omega
theorem nums_facts (f : Nat) (l : List UInt8) (h : (numsFrom f l).2.2 = false) (hf : l.length ≤ f) : (∀ x ∈ (numsFrom f l).1, -9223372036854775808 ≤ x ∧ x ≤ 9223372036854775807) ∧ numB (numsFrom f l).2.1 = false := by
  induction f generalizing l with
  | zero =>
    have : l = [] := List.eq_nil_of_length_eq_zero (by omega)
    subst this
    exact ⟨fun x hx => (by cases hx), rfl⟩
  | succ f ih =>
    rw [numsFrom] at h ⊢
    split at h
    · rename_i hn
      rw [if_pos hn]
      simp only [Bool.or_eq_false_iff] at h
      have h1 := numLeft_lt hn
      have h2 := trimLeft_len (numLeft l) 32
      obtain ⟨i1, i2⟩ := ih _ h.2 (by omega)
      refine ⟨fun x hx => ?_, i2⟩
      rcases List.mem_cons.1 hx with rfl | hx
      · exact numVal_rngL hn h.1
      · exact i1 x hx
    · rename_i hn
      rw [if_neg hn]
      exact ⟨fun x hx => (by cases hx), by simpa using hn⟩
theorem nums_trimmed (f : Nat) (l : List UInt8) (h : trimLeftB l 32 = l) : trimLeftB (numsFrom f l).2.1 32 = (numsFrom f l).2.1 := by
  induction f generalizing l with
  | zero => exact h
  | succ f ih =>
    rw [numsFrom]
    split
    · exact ih _ (trimLeft_idem _)
    · exact h

theorem name_good {c : UInt8} {r : List UInt8} (hl : letB c = true) (h12 : nameLen (c :: r) ≤ 12) : namB (bs ((c :: r).take (nameLen (c :: r)))) = true := by
  obtain ⟨n1, n2, n3⟩ := nameLen_facts (r := r) hl
  generalize nameLen (c :: r) = n at *
  obtain ⟨n, rfl⟩ : ∃ k, n = k + 1 := ⟨n - 1, by omega⟩
  have hlen : ((c :: r).take (n + 1)).length = n + 1 := by rw [List.length_take]; omega
  have htw : ((c :: r).take (n + 1)).takeWhile innB = (c :: r).take (n + 1) := by
    have := tw_pre (p := innB) (a := (c :: r).take (n + 1)) (r := []) n3 (fun c s e => by cases e)
    rw [List.append_nil] at this; exact this
  unfold namB frontOf
  rw [bs_size, bs_list, htw, hlen]
  have hb : bt (bs ((c :: r).take (n + 1))) 0 = c := by unfold bt; rw [bs_list]; rfl
  rw [hb, hl]
  simp; omega

/-- A token that is told is good. -/
theorem told_good {L : List UInt8} (hne : L ≠ []) (hv : validD L = true) (hb : (readTok L).2.2 = false) (h4 : decide (4096 < (readTok L).1.val.elems.length) = false) : Good (readTok L).1 := by
  by_cases hn : numB L = true
  · rw [readTok_num hn] at hb h4 ⊢
    have h4' : (numsFrom L.length L).1.length ≤ 4096 := Nat.le_of_not_lt (of_decide_eq_false h4)
    obtain ⟨i1, i2⟩ := nums_facts _ _ hb (Nat.le_refl _)
    refine .inl ⟨rfl, rfl, nums_canV ?_ h4', rng_of i1⟩
    cases L with
    | nil => exact absurd rfl hne
    | cons c r => rw [show (c :: r).length = r.length + 1 from rfl, numsFrom, if_pos hn]; simp
  · have hn : numB L = false := by simpa using hn
    obtain ⟨c, r, rfl⟩ := List.exists_cons_of_ne_nil hne
    by_cases h39 : c = 39
    · subst h39
      rw [readTok_39] at h4 ⊢
      have h4' : (runesOf (bs (quoted r).1)).length ≤ 4096 := Nat.le_of_not_lt (of_decide_eq_false h4)
      rw [runesOf_list] at h4' ⊢
      have hc := runesL_char (quoted r).1.length (quoted r).1
      exact .inl ⟨rfl, rfl, chrs_canV hc h4', rng_of fun x hx => isChar_rng (hc x hx)⟩
    · cases hl : letB c with
      | true =>
        rw [readTok_name hn h39 hl] at hb ⊢
        simp only [decide_eq_false_iff_not] at hb
        exact .inr (.inl ⟨rfl, name_good hl (by omega), rfl⟩)
      | false =>
        rw [readTok_gly hn h39 hl] at hb ⊢
        simp only [Bool.not_eq_false'] at hb
        refine .inr (.inr ⟨rfl, ?_, rfl⟩)
        have hs := Lib.validD_step _ hne
        rw [hv] at hs
        have hok : ¬ ((decodeL (c :: r)).1 = 65533 ∧ (decodeL (c :: r)).2 = 1) := fun h => by rw [if_pos h] at hs; cases hs
        have hch := char_decoded _ hne hok
        unfold glyTxt at hb ⊢
        rw [chLen_L _ hne] at hb ⊢
        simp only
        split at hb
        · rename_i h; simp only [h, if_true]; decide
        · rename_i h
          simp only [h, if_false]
          rw [contains_glyphs hch, decide_eq_true_eq] at hb
          exact hb

/-- Behind a token that is a list of numbers no number stands. -/
theorem told_next {L : List UInt8} (hb : (readTok L).2.2 = false) (hk : isNumT (readTok L).1 = true) (ht : trimLeftB L 32 = L) : numB (trimLeftB (readTok L).2.1 32) = false := by
  by_cases hn : numB L = true
  · rw [readTok_num hn] at hb ⊢
    simp only at hb ⊢
    rw [nums_trimmed _ _ ht]
    exact (nums_facts _ _ hb (Nat.le_refl _)).2
  · exfalso
    have hn : numB L = false := by simpa using hn
    cases L with
    | nil => unfold readTok at hb; rw [if_neg (by rw [hn]; simp)] at hb; cases hb
    | cons c r =>
      by_cases h39 : c = 39
      · subst h39; rw [readTok_39] at hk; cases hk
      · cases hl : letB c with
        | true => rw [readTok_name hn h39 hl] at hk; cases hk
        | false => rw [readTok_gly hn h39 hl] at hk; cases hk

theorem told_notNum {L : List UInt8} (hn : numB L = false) : isNumT (readTok L).1 = false := by
  cases L with
  | nil => unfold readTok; rw [if_neg (by rw [hn]; simp)]; rfl
  | cons c r =>
    by_cases h39 : c = 39
    · subst h39; rw [readTok_39]; rfl
    · cases hl : letB c with
      | true => rw [readTok_name hn h39 hl]; rfl
      | false => rw [readTok_gly hn h39 hl]; rfl

/-- WHAT IS TOLD CAN BE SHOWN. -/
theorem toks_chain (f : Nat) : ∀ (l : List UInt8), l.length < f → validD l = true → (toksFrom f l).2.1 = false → (toksFrom f l).2.2 = false → Chain (toksFrom f l).1 ∧ ∀ u s, (toksFrom f l).1 = u :: s → numB (trimLeftB l 32) = false → isNumT u = false := by
  induction f with
  | zero => intro l h; omega
  | succ f ih =>
    intro l hf hv h1 h2
    rw [toksFrom] at h1 h2 ⊢
    by_cases he : trimLeftB l 32 = []
    · rw [if_pos he]; exact ⟨trivial, fun u s e => by cases e⟩
    · rw [if_neg he] at h1 h2 ⊢
      have hvt : validD (trimLeftB l 32) = true := by rw [valid_trim]; exact hv
      have hlt := trimLeft_len l 32
      have hrl : (readTok (trimLeftB l 32)).2.1.length < (trimLeftB l 32).length := by
        cases h : trimLeftB l 32 with
        | nil => exact absurd h he
        | cons c r => exact readTok_lt
      by_cases hb : (readTok (trimLeftB l 32)).2.2 = true
      · simp only [hb, if_true] at h1; cases h1
      · have hb : (readTok (trimLeftB l 32)).2.2 = false := by simpa using hb
        simp only [hb, Bool.false_eq_true, if_false, Bool.or_eq_false_iff] at h1 h2 ⊢
        obtain ⟨c1, c2⟩ := ih _ (by omega) (valid_left he hvt hb) h1 h2.2
        refine ⟨⟨told_good he hvt hb h2.1, fun u s e hk => c2 u s e (told_next hb hk (trimLeft_idem l)), c1⟩, fun u s e hn => ?_⟩
        cases e
        exact told_notNum hn

theorem tokens_chain {l : List UInt8} (h : (tokensOf l).2 = 0) : Chain (tokensOf l).1 ∧ (tokensOf l).1.length ≤ 4000 := by
  unfold tokensOf at h ⊢
  by_cases hv : validD l = false
  · rw [if_pos hv] at h; cases h
  · rw [if_neg hv] at h ⊢
    have hv : validD l = true := by simpa using hv
    have hc := toks_chain (l.length + 1) l (by omega) hv
    generalize toksFrom (l.length + 1) l = T at *
    obtain ⟨T, b, m⟩ := T
    simp only at h hc ⊢
    cases b with
    | true => cases h
    | false =>
      rw [if_neg (by simp)] at h ⊢
      by_cases hm : m = true ∨ 4000 < T.length
      · rw [if_pos hm] at h; cases h
      · rw [if_neg hm] at h ⊢
        simp only [not_or, Bool.not_eq_true] at hm
        exact ⟨(hc rfl hm.1).1, by simp only; omega⟩
theorem tokens_err {l : List UInt8} (h : (tokensOf l).2 ≠ 0) : (tokensOf l).1 = [] := by
  unfold tokensOf at h ⊢
  split
  · rfl
  · rename_i hv
    rw [if_neg hv] at h
    simp only at h ⊢
    split
    · rfl
    · rename_i hb
      rw [if_neg hb] at h
      split
      · rfl
      · rename_i hm; rw [if_neg hm] at h; exact absurd rfl h

/-- What is told of a statement, shown, is told again as it was. -/
theorem tokens_back {l : List UInt8} (h : (tokensOf l).2 = 0) : tokensOf (shText (tokensOf l).1) = ((tokensOf l).1, 0) :=
  tokens_shown (tokens_chain h).1 (tokens_chain h).2
end Go.Proofs.YthlingdlehdlhaaDoor

namespace Go.Proofs.YthlingdlehdlhaaDoor
open Go.RowKit Go.Shelf
open Go.Lib (decodeL decodeN encodeRune decDigits trimLeftB validD)
set_option linter.unusedVariables false
set_option linter.unusedSimpArgs false

def blks (n : Nat) : List UInt8 := List.replicate n 32
theorem blks_end (n : Nat) : blankEnd (blks n) := by
  intro c s e
  have : c ∈ blks n := by rw [e]; simp
  exact List.eq_of_mem_replicate this
theorem trim_blks (n : Nat) (l : List UInt8) : trimLeftB (blks n ++ l) 32 = trimLeftB l 32 := by
  induction n with
  | zero => rfl
  | succ n ih =>
    have : blks (n + 1) ++ l = 32 :: (blks n ++ l) := rfl
    rw [this, trim_cons32, ih]
theorem trim_behind (l : List UInt8) (n : Nat) : trimLeftB (l ++ blks n) 32 = if trimLeftB l 32 = [] then [] else trimLeftB l 32 ++ blks n := by
  induction l with
  | nil => rw [List.nil_append, ← List.append_nil (blks n), trim_blks]; rfl
  | cons c r ih =>
    by_cases h : c = 32
    · subst h; rw [List.cons_append, trim_cons32, trim_cons32, ih]
    · rw [trim_ne r h, List.cons_append, trim_ne _ h, if_neg (by simp)]
theorem valid_blks (n : Nat) (l : List UInt8) : validD (blks n ++ l) = validD l := by
  induction n with
  | zero => rfl
  | succ n ih =>
    have : blks (n + 1) ++ l = 32 :: (blks n ++ l) := rfl
    rw [this, Lib.validD_cons _ _ (by decide), ih]

/-- UTF-8 and what stands behind it. -/
theorem valid_enc (n : Nat) : ∀ (a : List UInt8), a.length ≤ n → validD a = true → ∀ b, validD (a ++ b) = validD b := by
  induction n with
  | zero =>
    intro a hn hv b
    have : a = [] := List.eq_nil_of_length_eq_zero (by omega)
    subst this; rfl
  | succ n ih =>
    intro a hn hv b
    by_cases hne : a = []
    · subst hne; rfl
    · have hs := Lib.validD_step _ hne
      rw [hv] at hs
      have hok : ¬ ((decodeL a).1 = 65533 ∧ (decodeL a).2 = 1) := fun h => by rw [if_pos h] at hs; cases hs
      rw [if_neg hok] at hs
      have henc := Lib.encode_decode _ hne hok
      have hch := decode_char a
      have hw := Lib.decodeL_width a
      have h0 : 0 < a.length := List.length_pos_iff.2 hne
      have e : a = encodeRune ((decodeL a).1 : Int) ++ a.drop (decodeL a).2 := by rw [henc, List.take_append_drop]
      have hl : (a.drop (decodeL a).2).length ≤ n := by
        rw [List.length_drop]
        have h1 : 0 < (encodeRune ((decodeL a).1 : Int)).length := List.length_pos_iff.2 (enc_ne _)
        rw [henc, List.length_take] at h1
        omega
      have := ih _ hl hs.symm b
      conv => lhs; rw [e]
      rw [List.append_assoc, EncT.enc hch, this]
theorem valid_append {a : List UInt8} (h : validD a = true) (b : List UInt8) : validD (a ++ b) = validD b := valid_enc a.length a (Nat.le_refl _) h b
theorem valid_behindB (l : List UInt8) (n : Nat) : validD (l ++ blks n) = validD l := by
  cases h : validD l with
  | true => rw [valid_append h, ← List.append_nil (blks n), valid_blks]; rfl
  | false =>
    cases n with
    | zero => rw [show blks 0 = [] from rfl, List.append_nil, h]
    | succ n =>
      cases h2 : validD (l ++ blks (n + 1)) with
      | false => rfl
      | true =>
        have := valid_ahead (a := l) (b := blks n) (c := 32) (by decide) h2
        rw [h] at this; cases this

theorem decode_behind {l : List UInt8} (hne : l ≠ []) (hv : validD l = true) (b : List UInt8) : decodeL (l ++ b) = decodeL l := by
  have hs := Lib.validD_step _ hne
  rw [hv] at hs
  have hok : ¬ ((decodeL l).1 = 65533 ∧ (decodeL l).2 = 1) := fun h => by rw [if_pos h] at hs; cases hs
  have henc := Lib.encode_decode _ hne hok
  have hch := decode_char l
  have e : l = encodeRune ((decodeL l).1 : Int) ++ l.drop (decodeL l).2 := by rw [henc, List.take_append_drop]
  have h1 := decode_enc hch (l.drop (decodeL l).2)
  have h2 := decode_enc hch (l.drop (decodeL l).2 ++ b)
  rw [← List.append_assoc, ← e] at h2
  rw [← e] at h1
  rw [h1, h2]

theorem tw_behind (p : UInt8 → Bool) (l b : List UInt8) (hb : ∀ c s, b = c :: s → p c = false) : (l ++ b).takeWhile p = l.takeWhile p := by
  induction l with
  | nil => exact tw_pre (a := []) (fun c h => by cases h) hb
  | cons c r ih =>
    rw [List.cons_append, List.takeWhile_cons, List.takeWhile_cons]
    split
    · rw [ih]
    · rfl

theorem minus_behind (l : List UInt8) (n : Nat) : minusB (l ++ blks n) = minusB l := by
  unfold minusB Lib.hasPrefix
  rcases l with _ | ⟨a, _ | ⟨b, r⟩⟩
  · cases n with
    | zero => rfl
    | succ n => rfl
  · cases n with
    | zero => rfl
    | succ n =>
      show ([194, 175] : List UInt8).isPrefixOf (a :: 32 :: blks n) = ([194, 175] : List UInt8).isPrefixOf [a]
      simp [List.isPrefixOf]
  · simp [List.isPrefixOf]
theorem body_behind {l : List UInt8} (n : Nat) : numBody (l ++ blks n) = numBody l ++ blks n := by
  unfold numBody
  rw [minus_behind]
  split
  · rename_i h
    unfold minusB Lib.hasPrefix at h
    obtain ⟨t, ht⟩ := List.isPrefixOf_iff_prefix.1 h
    rw [← ht]; rfl
  · rfl
theorem digs_behind (l : List UInt8) (n : Nat) : numDigs (l ++ blks n) = numDigs l := by
  rw [numDigs_eq, numDigs_eq, body_behind, tw_behind]
  intro c s e; rw [blks_end n c s e]; decide
theorem numB_bodyL (l : List UInt8) : numB l = match numBody l with | [] => false | c :: _ => digB c := by
  unfold numB Lib.trimPrefix numBody minusB
  rfl
theorem numB_behind (l : List UInt8) (n : Nat) : numB (l ++ blks n) = numB l := by
  rw [numB_bodyL, numB_bodyL, body_behind]
  cases numBody l with
  | cons c r => rfl
  | nil =>
    cases n with
    | zero => rfl
    | succ n => rfl
theorem numTxt_behind (l : List UInt8) (n : Nat) : numTxt (l ++ blks n) = numTxt l := by
  have h1 : numTxt l = (if minusB l = true then [45] else []) ++ numDigs l := rfl
  have h2 : numTxt (l ++ blks n) = (if minusB (l ++ blks n) = true then [45] else []) ++ numDigs (l ++ blks n) := rfl
  rw [h1, h2, minus_behind, digs_behind]
theorem numLeft_behind (l : List UInt8) (n : Nat) : numLeft (l ++ blks n) = numLeft l ++ blks n := by
  unfold numLeft digLen
  rw [body_behind, tw_behind _ _ _ (fun c s e => by rw [blks_end n c s e]; decide), List.drop_append_of_le_length (List.takeWhile_sublist _).length_le]

theorem nums_behind (n : Nat) (f : Nat) : ∀ (g : Nat) (l : List UInt8), l.length ≤ f → (l ++ blks n).length ≤ g → (numsFrom g (l ++ blks n)).1 = (numsFrom f l).1 ∧ (numsFrom g (l ++ blks n)).2.2 = (numsFrom f l).2.2 ∧ trimLeftB (numsFrom g (l ++ blks n)).2.1 32 = trimLeftB ((numsFrom f l).2.1 ++ blks n) 32 := by
  induction f with
  | zero =>
    intro g l hf hg
    have : l = [] := List.eq_nil_of_length_eq_zero (by omega)
    subst this
    have hn : numB ([] ++ blks n) = false := by rw [numB_behind]; rfl
    cases g with
    | zero => exact ⟨rfl, rfl, rfl⟩
    | succ g =>
      have e : numsFrom (g + 1) ([] ++ blks n) = ([], [] ++ blks n, false) := by rw [numsFrom, if_neg (by rw [hn]; simp)]
      rw [e]; exact ⟨rfl, rfl, rfl⟩
  | succ f ih =>
    intro g l hf hg
    cases g with
    | zero =>
      have h0 : (l ++ blks n).length = 0 := by omega
      rw [List.length_append] at h0
      have : l = [] := List.eq_nil_of_length_eq_zero (by omega)
      subst this
      exact ⟨rfl, rfl, rfl⟩
    | succ g =>
      rw [numsFrom, numsFrom, numB_behind]
      by_cases hn : numB l = true
      · rw [if_pos hn, if_pos hn]
        simp only
        have h1 := numLeft_lt hn
        have h2 := trimLeft_len (numLeft l) 32
        have hlen : (l ++ blks n).length = l.length + n := by rw [List.length_append]; simp [blks]
        rw [numLeft_behind, trim_behind]
        have hv : numVal (l ++ blks n) = numVal l := by unfold numVal; rw [numTxt_behind]
        have hb : numBad (l ++ blks n) = numBad l := by unfold numBad; rw [numTxt_behind]
        rw [hv, hb]
        split
        · rename_i he
          rw [he]
          have e1 : ∀ k, numsFrom k [] = ([], [], false) := fun k => by cases k <;> rfl
          rw [e1, e1, List.nil_append, ← List.append_nil (blks n), trim_blks]
          exact ⟨rfl, rfl, rfl⟩
        · obtain ⟨i1, i2, i3⟩ := ih g (trimLeftB (numLeft l) 32) (by omega) (by rw [List.length_append]; simp [blks]; omega)
          rw [i1, i2]
          exact ⟨rfl, rfl, i3⟩
      · rw [if_neg hn, if_neg hn]
        exact ⟨rfl, rfl, rfl⟩

theorem quotedQ_none {b : List UInt8} (hb : (39 : UInt8) ∉ b) : (quotedQ false b).2 = none := by
  induction b with
  | nil => rfl
  | cons c r ih =>
    rw [quotedQ, if_neg (fun e => hb (by simp [e]))]
    exact ih fun h => hb (by simp [h])
theorem quotedQ_behind {b : List UInt8} (hb : (39 : UInt8) ∉ b) (r : List UInt8) : ∀ q : Bool, ((quotedQ q (r ++ b)).2.isNone = (quotedQ q r).2.isNone) ∧ ((quotedQ q r).2.isNone = false → (quotedQ q (r ++ b)).1 = (quotedQ q r).1 ∧ (quotedQ q (r ++ b)).2.getD [] = (quotedQ q r).2.getD [] ++ b) := by
  induction r with
  | nil =>
    intro q
    rw [List.nil_append]
    cases q with
    | false => rw [quotedQ_none hb]; exact ⟨rfl, fun h => by cases h⟩
    | true =>
      cases b with
      | nil => exact ⟨rfl, fun _ => ⟨rfl, rfl⟩⟩
      | cons c s =>
        have e : quotedQ true (c :: s) = ([], some (c :: s)) := by rw [quotedQ, if_neg (fun e => hb (by simp [e]))]
        rw [e]
        exact ⟨rfl, fun _ => ⟨rfl, rfl⟩⟩
  | cons c r ih =>
    intro q
    rw [List.cons_append]
    cases q with
    | false =>
      rw [quotedQ, quotedQ]
      split
      · exact ih true
      · obtain ⟨h1, h2⟩ := ih false
        exact ⟨h1, fun h => ⟨by rw [(h2 h).1], (h2 h).2⟩⟩
    | true =>
      rw [quotedQ, quotedQ]
      split
      · obtain ⟨h1, h2⟩ := ih false
        exact ⟨h1, fun h => ⟨by rw [(h2 h).1], (h2 h).2⟩⟩
      · exact ⟨rfl, fun _ => ⟨rfl, rfl⟩⟩
theorem blks_no (n : Nat) : (39 : UInt8) ∉ blks n := fun h => by
  have := List.eq_of_mem_replicate h; cases this

theorem nameLen_behind (l : List UInt8) (n : Nat) : nameLen (l ++ blks n) = nameLen l := by
  unfold nameLen
  rw [tw_behind]
  intro c s e; rw [blks_end n c s e]; decide

/-- A token, and blanks behind it. -/
theorem read_behind {l : List UInt8} (hne : l ≠ []) (hv : validD l = true) (n : Nat) :
    (readTok (l ++ blks n)).2.2 = (readTok l).2.2 ∧ ((readTok l).2.2 = false → (readTok (l ++ blks n)).1 = (readTok l).1 ∧ trimLeftB (readTok (l ++ blks n)).2.1 32 = trimLeftB ((readTok l).2.1 ++ blks n) 32) := by
  by_cases hn : numB l = true
  · rw [readTok_num hn, readTok_num (by rw [numB_behind]; exact hn)]
    obtain ⟨i1, i2, i3⟩ := nums_behind n l.length (l ++ blks n).length l (Nat.le_refl _) (Nat.le_refl _)
    exact ⟨i2, fun _ => ⟨by rw [i1], i3⟩⟩
  · have hn : numB l = false := by simpa using hn
    obtain ⟨c, r, rfl⟩ := List.exists_cons_of_ne_nil hne
    have hnb : numB (c :: (r ++ blks n)) = false := by have := numB_behind (c :: r) n; rw [hn] at this; exact this
    by_cases h39 : c = 39
    · subst h39
      rw [List.cons_append, readTok_39, readTok_39]
      obtain ⟨h1, h2⟩ := quotedQ_behind (blks_no n) r false
      refine ⟨h1, fun h => ?_⟩
      obtain ⟨h3, h4⟩ := h2 h
      refine ⟨?_, ?_⟩
      · simp only
        rw [show (quoted (r ++ blks n)).1 = (quoted r).1 from h3]
      · simp only
        rw [show (quoted (r ++ blks n)).2.getD [] = (quoted r).2.getD [] ++ blks n from h4]
    · cases hl : letB c with
      | true =>
        rw [List.cons_append, readTok_name hn h39 hl, readTok_name hnb h39 hl, ← List.cons_append, nameLen_behind]
        obtain ⟨n1, n2, n3⟩ := nameLen_facts (r := r) hl
        refine ⟨rfl, fun _ => ⟨?_, ?_⟩⟩
        · simp only
          rw [List.take_append_of_le_length n2]
        · simp only
          rw [List.drop_append_of_le_length n2]
      | false =>
        have hch : chLen (c :: r ++ blks n) = chLen (c :: r) := by rw [chLen_L _ (by simp), chLen_L _ (by simp), decode_behind (by simp) hv]
        have hle : chLen (c :: r) ≤ (c :: r).length := by
          rw [chLen_L _ (by simp)]
          have hs := Lib.validD_step (c :: r) (by simp)
          rw [hv] at hs
          have hok : ¬ ((decodeL (c :: r)).1 = 65533 ∧ (decodeL (c :: r)).2 = 1) := fun h => by rw [if_pos h] at hs; cases hs
          have henc := Lib.encode_decode (c :: r) (by simp) hok
          have h1 := decode_enc (decode_char (c :: r)) ((c :: r).drop (decodeL (c :: r)).2)
          rw [henc, List.take_append_drop] at h1
          have h2 := congrArg Prod.snd h1
          simp only at h2
          have h3 : ((c :: r).take (decodeL (c :: r)).2).length ≤ (c :: r).length := List.length_take_le' _ _
          omega
        have hgt : glyTxt (c :: r ++ blks n) = glyTxt (c :: r) := by
          unfold glyTxt; rw [hch, List.take_append_of_le_length hle]
        rw [readTok_gly hn h39 hl, List.cons_append, readTok_gly hnb h39 hl, ← List.cons_append, hgt, hch]
        refine ⟨rfl, fun _ => ⟨rfl, ?_⟩⟩
        simp only
        rw [List.drop_append_of_le_length hle]

/-- A text's tokens, and blanks behind it: the same, if none is wrong; else wrong as well. -/
theorem toks_behind (n f : Nat) : ∀ (g : Nat) (l : List UInt8), l.length < f → (l ++ blks n).length < g → validD l = true →
    (toksFrom g (l ++ blks n)).2.1 = (toksFrom f l).2.1 ∧ ((toksFrom f l).2.1 = false → toksFrom g (l ++ blks n) = toksFrom f l) := by
  induction f with
  | zero => intro g l h; omega
  | succ f ih =>
    intro g l hf hg hv
    cases g with
    | zero => omega
    | succ g =>
      by_cases he : trimLeftB l 32 = []
      · have e1 : toksFrom (g + 1) (l ++ blks n) = ([], false, false) := by rw [toksFrom, trim_behind, if_pos he, if_pos rfl]
        have e2 : toksFrom (f + 1) l = ([], false, false) := by rw [toksFrom, if_pos he]
        rw [e1, e2]; exact ⟨rfl, fun _ => rfl⟩
      · rw [toksFrom, toksFrom, trim_behind]
        have hvt : validD (trimLeftB l 32) = true := by rw [valid_trim]; exact hv
        have hlt := trimLeft_len l 32
        rw [if_neg he, if_neg (by simp [he]), if_neg he]
        obtain ⟨r1, r2⟩ := read_behind he hvt n
        have hrl : (readTok (trimLeftB l 32)).2.1.length < (trimLeftB l 32).length := by
          cases h : trimLeftB l 32 with
          | nil => exact absurd h he
          | cons c r => exact readTok_lt
        have hrl2 : (readTok (trimLeftB l 32 ++ blks n)).2.1.length < (trimLeftB l 32 ++ blks n).length := by
          cases h : trimLeftB l 32 with
          | nil => exact absurd h he
          | cons c r => exact readTok_lt
        by_cases hb : (readTok (trimLeftB l 32)).2.2 = true
        · rw [hb] at r1
          simp only [r1, hb, if_true]
          exact ⟨trivial, fun h => by cases h⟩
        · have hb : (readTok (trimLeftB l 32)).2.2 = false := by simpa using hb
          obtain ⟨r3, r4⟩ := r2 hb
          rw [hb] at r1
          have hvl := valid_left he hvt hb
          have hlen : ∀ l : List UInt8, (l ++ blks n).length = l.length + n := fun l => by rw [List.length_append]; simp [blks]
          simp only [r1, hb, Bool.false_eq_true, if_false, r3]
          have hge : ∀ k, (readTok (trimLeftB l 32 ++ blks n)).2.1.length < k → ((readTok (trimLeftB l 32)).2.1 ++ blks n).length < k → toksFrom k (readTok (trimLeftB l 32 ++ blks n)).2.1 = toksFrom k ((readTok (trimLeftB l 32)).2.1 ++ blks n) := by
            intro k h1 h2
            rw [← toksFrom_trim, r4, toksFrom_trim]
          have hl1 := hlen l
          have hl2 := hlen (readTok (trimLeftB l 32)).2.1
          have hl3 := hlen (trimLeftB l 32)
          rw [hge g (by omega) (by omega)]
          obtain ⟨i1, i2⟩ := ih g (readTok (trimLeftB l 32)).2.1 (by omega) (by omega) hvl
          exact ⟨i1, fun h => by rw [i2 h]⟩

/-- BLANKS AHEAD OF A STATEMENT, AND BEHIND IT, MAKE NO DIFFERENCE. -/
theorem tokens_blanks (n : Nat) (l : List UInt8) : tokensOf (blks n ++ l ++ blks n) = tokensOf l := by
  have hvv : validD (blks n ++ l ++ blks n) = validD l := by rw [valid_behindB, valid_blks]
  unfold tokensOf
  rw [hvv]
  split
  · rfl
  · rename_i hv
    have hv : validD l = true := by simpa using hv
    have e1 : toksFrom ((blks n ++ l ++ blks n).length + 1) (blks n ++ l ++ blks n) = toksFrom ((blks n ++ l ++ blks n).length + 1) (l ++ blks n) := by
      rw [← toksFrom_trim, List.append_assoc, trim_blks, toksFrom_trim]
    have hlen : (blks n ++ l ++ blks n).length = n + l.length + n := by rw [List.length_append, List.length_append]; simp [blks]
    obtain ⟨i1, i2⟩ := toks_behind n (l.length + 1) ((blks n ++ l ++ blks n).length + 1) l (by omega) (by rw [hlen, List.length_append]; simp [blks]; omega) hv
    simp only [e1]
    cases hb : (toksFrom (l.length + 1) l).2.1 with
    | true => rw [hb] at i1; rw [i1]; rfl
    | false => rw [i2 hb, hb]
end Go.Proofs.YthlingdlehdlhaaDoor

namespace Go.Proofs.YthlingdlehdlhaaDoor
open Go.RowKit Go.Shelf
set_option linter.unusedVariables false
set_option linter.unusedSimpArgs false

/-- A cut stands here. -/
def cutL (q : Bool) (d : Nat) (l : List UInt8) : Nat :=
  if q = true ∨ d ≠ 0 then 0 else if l.head? = some 10 then 1 else if Lib.hasPrefix l dia = true then 3 else 0
/-- Pieces, from a state, some bytes passed over, behind the first bytes of a piece. -/
def pcs : Bool → Nat → Nat → List UInt8 → List UInt8 → List (List UInt8)
  | q, d, k, cur, [] => [cur]
  | q, d, k + 1, cur, c :: r => pcs q d k cur r
  | q, d, 0, cur, c :: r => if cutL q d (c :: r) = 0 then pcs (stepSt c q d).1 (stepSt c q d).2 0 (cur ++ [c]) r else cur :: pcs q d (cutL q d (c :: r) - 1) [] r
def nbl (x : List UInt8) : Bool := !x.all (· == 32)
def piecesOf (l : List UInt8) : List (List UInt8) := (pcs false 0 0 [] l).filter nbl

theorem bt_bs (l : List UInt8) (i : Nat) : bt (bs l) i = l[i]?.getD 0 := by unfold bt; rw [bs_list]
theorem cut_list (l : List UInt8) (i : Nat) (h : i < l.length) : cutAt (bs l) i = cutL (stAt (bs l) i).1 (stAt (bs l) i).2 (l.drop i) := by
  unfold cutAt cutL diaAt
  have h1 : (l.drop i).head? = some (bt (bs l) i) := by
    rw [bt_bs, List.head?_drop, List.getElem?_eq_getElem h]; rfl
  rw [h1, bs_list]
  simp only [Option.some.injEq]

def seg (l : List UInt8) (f i : Nat) : List UInt8 := (l.take i).drop f
theorem seg_extract (l : List UInt8) (f i : Nat) : (bs l).extract f i = bs (seg l f i) := by
  apply ByteArray.ext
  simp [bs, seg, List.extract_eq_take_drop, List.drop_take]
theorem seg_snoc (l : List UInt8) (f i : Nat) (hf : f ≤ i) (hi : i < l.length) : seg l f (i + 1) = seg l f i ++ [l[i]] := by
  unfold seg
  rw [List.take_add_one, List.getElem?_eq_getElem hi, List.drop_append_of_le_length (by rw [List.length_take]; omega)]
  rfl
theorem seg_none (l : List UInt8) (f i : Nat) (hf : i ≤ f) : seg l f i = [] := List.drop_eq_nil_of_le (by rw [List.length_take]; omega)
theorem blank_seg (x : List UInt8) : blankB (bs x) = !nbl x := by unfold blankB nbl; rw [bs_list, Bool.not_not]

theorem pieces_from (l : List UInt8) (n : Nat) : ∀ i, i + n = l.length →
    outOf (bs l) (allCuts (bs l)) 0 = outOf (bs l) (cutsTo (bs l) i) 0 ++ ((pcs (stAt (bs l) i).1 (stAt (bs l) i).2 (endOf (cutsTo (bs l) i) - i) (seg l (endOf (cutsTo (bs l) i)) i) (l.drop i)).filter nbl).map bs := by
  induction n with
  | zero =>
    intro i hi
    obtain rfl : i = l.length := by omega
    unfold allCuts
    rw [bs_size, outOf_snoc', List.drop_eq_nil_of_le (Nat.le_refl _), pcs, seg_extract, blank_seg]
    cases h : nbl (seg l (endOf (cutsTo (bs l) l.length)) l.length) <;> simp [h]
  | succ n ih =>
    intro i hi
    have hil : i < l.length := by omega
    rw [ih (i + 1) (by omega)]
    have hdr : l.drop i = l[i] :: l.drop (i + 1) := List.drop_eq_getElem_cons hil
    have hbt : bt (bs l) i = l[i] := by rw [bt_bs, List.getElem?_eq_getElem hil]; rfl
    have hcl := cut_list l i hil
    rw [hdr] at hcl ⊢
    rcases end_le (bs l) i with h1 | h1
    · rw [show endOf (cutsTo (bs l) i) - i = 0 from by omega]
      rw [pcs]
      by_cases h0 : cutAt (bs l) i = 0
      · rw [if_pos (by rw [← hcl]; exact h0), cuts_stay _ _ h0, ← seg_snoc l _ i h1 hil]
        rw [show endOf (cutsTo (bs l) i) - (i + 1) = 0 from by omega]
        have hst : stAt (bs l) (i + 1) = stepSt l[i] (stAt (bs l) i).1 (stAt (bs l) i).2 := by rw [stAt, hbt]
        rw [hst]
      · rw [if_neg (by rw [← hcl]; exact h0), ← hcl]
        have hct : cutsTo (bs l) (i + 1) = cutsTo (bs l) i ++ [(i, i + cutAt (bs l) i)] := by rw [cutsTo, if_neg h0]
        have hst : stAt (bs l) (i + 1) = stAt (bs l) i := by
          rw [stAt]
          rw [stepSt_plain]
          have := cut_cases (bs l) i
          rcases this with e | e | e
          · exact absurd e h0
          · unfold cutAt at e
            split at e
            · omega
            · split at e
              · rename_i h10; rw [h10]; decide
              · split at e <;> omega
          · rw [(dia_bytes _ _ (cut_three _ _ e)).2.1]; decide
        rw [hct, endOf_snoc, outOf_snoc', hst, seg_extract, blank_seg]
        simp only
        rw [seg_none _ _ _ (show i + 1 ≤ i + cutAt (bs l) i by omega), show i + cutAt (bs l) i - (i + 1) = cutAt (bs l) i - 1 from by omega]
        cases h : nbl (seg l (endOf (cutsTo (bs l) i)) i) <;> simp [h]
    · obtain ⟨k, hk, hz, hb⟩ : ∃ k, endOf (cutsTo (bs l) i) = i + 1 + k ∧ cutAt (bs l) i = 0 ∧ (bt (bs l) i = 139 ∨ bt (bs l) i = 132) := by
        rcases h1 with ⟨a, b, _⟩ | ⟨a, b, _⟩
        · exact ⟨0, by omega, cut_zero_of _ _ (.inr b), .inr b⟩
        · exact ⟨1, by omega, cut_zero_of _ _ (.inl b), .inl b⟩
      have hst : stAt (bs l) (i + 1) = stAt (bs l) i := by
        rw [stAt, stepSt_plain]
        rcases hb with e | e <;> rw [e] <;> decide
      rw [cuts_stay _ _ hz, hst, hk, show i + 1 + k - i = k + 1 from by omega, show i + 1 + k - (i + 1) = k from by omega, pcs, seg_none _ _ _ (by omega), seg_none _ _ _ (by omega)]

theorem split_pieces (l : List UInt8) : splitOf (bs l) = (piecesOf l).map bs := by
  have := pieces_from l l.length 0 (by omega)
  unfold splitOf
  rw [this]
  rfl

/-- Read from a state without a cut: the state behind it. -/
def runs : Bool → Nat → List UInt8 → Option (Bool × Nat)
  | q, d, [] => some (q, d)
  | q, d, c :: r => if cutL q d (c :: r) = 0 then runs (stepSt c q d).1 (stepSt c q d).2 r else none

theorem runs_one (l : List UInt8) : ∀ (q : Bool) (d : Nat) (st : Bool × Nat) (cur : List UInt8), runs q d l = some st → pcs q d 0 cur l = [cur ++ l] := by
  induction l with
  | nil => intro q d st cur h; rw [pcs, List.append_nil]
  | cons c r ih =>
    intro q d st cur h
    rw [runs] at h
    split at h
    · rename_i h0
      rw [pcs, if_pos h0, ih _ _ st _ h, List.append_assoc]; rfl
    · cases h

theorem dia_more (l : List UInt8) (x : UInt8) (b : List UInt8) (hx : x = 10 ∨ x = 226) (hne : l ≠ []) : Lib.hasPrefix (l ++ x :: b) dia = Lib.hasPrefix l dia := by
  unfold Lib.hasPrefix dia
  rcases l with _ | ⟨a, _ | ⟨b', _ | ⟨c, r⟩⟩⟩
  · exact absurd rfl hne
  · rcases hx with rfl | rfl <;> simp [List.isPrefixOf]
  · rcases hx with rfl | rfl <;> simp [List.isPrefixOf]
  · simp [List.isPrefixOf]
theorem cutL_more (q : Bool) (d : Nat) (l : List UInt8) (x : UInt8) (b : List UInt8) (hx : x = 10 ∨ x = 226) (hne : l ≠ []) : cutL q d (l ++ x :: b) = cutL q d l := by
  unfold cutL
  rw [dia_more l x b hx hne]
  cases l with
  | nil => exact absurd rfl hne
  | cons c r => rfl

theorem runs_sep (l : List UInt8) (x : UInt8) (b : List UInt8) (hx : x = 10 ∨ x = 226) : ∀ (q : Bool) (d : Nat) (st : Bool × Nat) (cur : List UInt8), runs q d l = some st → pcs q d 0 cur (l ++ x :: b) = pcs st.1 st.2 0 (cur ++ l) (x :: b) := by
  induction l with
  | nil => intro q d st cur h; cases h; rw [List.append_nil]; rfl
  | cons c r ih =>
    intro q d st cur h
    rw [runs] at h
    split at h
    · rename_i h0
      have h0' : cutL q d (c :: (r ++ x :: b)) = 0 := by have := cutL_more q d (c :: r) x b hx (by simp); rw [h0] at this; exact this
      rw [List.cons_append, pcs, if_pos h0', ih _ _ st _ h, List.append_assoc]; rfl
    · cases h

theorem pcs_nl (cur b : List UInt8) : pcs false 0 0 cur (10 :: b) = cur :: pcs false 0 0 [] b := by
  have h : cutL false 0 (10 :: b) = 1 := by unfold cutL; simp
  rw [pcs, h]; rfl
theorem pcs_dia (cur b : List UInt8) : pcs false 0 0 cur (dia ++ b) = cur :: pcs false 0 0 [] b := by
  have e : dia ++ b = 226 :: 139 :: 132 :: b := rfl
  have h : cutL false 0 (226 :: 139 :: 132 :: b) = 3 := by unfold cutL Lib.hasPrefix dia; simp [List.isPrefixOf]
  rw [e, pcs, h]
  simp [pcs]

/-- Pieces one behind the other: each but the last one closed. -/
def Pcs : List (List UInt8) → Prop
  | [] => True
  | x :: t => (∃ st, runs false 0 x = some st ∧ (t ≠ [] → st = (false, 0))) ∧ Pcs t
theorem Pcs.filter {t : List (List UInt8)} (h : Pcs t) (p : List UInt8 → Bool) : Pcs (t.filter p) := by
  induction t with
  | nil => trivial
  | cons x t ih =>
    obtain ⟨⟨st, h1, h2⟩, h3⟩ := h
    rw [List.filter_cons]
    split
    · exact ⟨⟨st, h1, fun hne => h2 (fun e => hne (by rw [e]; rfl))⟩, ih h3⟩
    · exact ih h3

theorem pcs_skip (q : Bool) (d : Nat) (cur : List UInt8) (k : Nat) : ∀ l, pcs q d k cur l = pcs q d 0 cur (l.drop k) := by
  induction k with
  | zero => intro l; rfl
  | succ k ih =>
    intro l
    cases l with
    | nil => rw [pcs, List.drop_nil, pcs]
    | cons c r => rw [pcs, ih r]; rfl
theorem cutL_state {q : Bool} {d : Nat} {l : List UInt8} (h : cutL q d l ≠ 0) : q = false ∧ d = 0 := by
  unfold cutL at h
  split at h
  · exact absurd rfl h
  · rename_i h1
    simp only [not_or, Bool.not_eq_true, Decidable.not_not] at h1
    exact h1
theorem cutL_prefix {q : Bool} {d : Nat} {c : UInt8} {h r : List UInt8} (h0 : cutL q d (c :: (h ++ r)) = 0) : cutL q d (c :: h) = 0 := by
  unfold cutL at h0 ⊢
  split at h0
  · rename_i h1; rw [if_pos h1]
  · rename_i h1
    rw [if_neg h1]
    by_cases h2 : c = 10
    · rw [if_pos (show (c :: (h ++ r)).head? = some 10 by rw [h2]; rfl)] at h0; omega
    · have h2' : ¬ some c = some (10 : UInt8) := fun e => h2 (Option.some.inj e)
      rw [if_neg (show ¬ (c :: (h ++ r)).head? = some 10 from h2')] at h0
      rw [if_neg (show ¬ (c :: h).head? = some 10 from h2')]
      by_cases h3 : Lib.hasPrefix (c :: (h ++ r)) dia = true
      · rw [if_pos h3] at h0; omega
      · rw [if_neg]
        intro hp
        apply h3
        unfold Lib.hasPrefix at hp ⊢
        rw [List.isPrefixOf_iff_prefix] at hp ⊢
        exact hp.trans ⟨r, rfl⟩

theorem pcs_told (n : Nat) : ∀ (l : List UInt8) (q : Bool) (d : Nat), l.length ≤ n → ∃ h t, (∀ cur, pcs q d 0 cur l = (cur ++ h) :: t) ∧ (∃ r, l = h ++ r) ∧ (∃ st, runs q d h = some st ∧ (t ≠ [] → st = (false, 0))) ∧ Pcs t := by
  induction n with
  | zero =>
    intro l q d hl
    have : l = [] := List.eq_nil_of_length_eq_zero (by omega)
    subst this
    exact ⟨[], [], fun cur => by rw [pcs, List.append_nil], ⟨[], rfl⟩, ⟨(q, d), rfl, fun h => absurd rfl h⟩, trivial⟩
  | succ n ih =>
    intro l q d hl
    cases l with
    | nil => exact ⟨[], [], fun cur => by rw [pcs, List.append_nil], ⟨[], rfl⟩, ⟨(q, d), rfl, fun h => absurd rfl h⟩, trivial⟩
    | cons c r =>
      by_cases h0 : cutL q d (c :: r) = 0
      · obtain ⟨h, t, i1, ⟨r', i2⟩, ⟨st, i3, i4⟩, i5⟩ := ih r (stepSt c q d).1 (stepSt c q d).2 (by simp at hl; omega)
        refine ⟨c :: h, t, fun cur => by rw [pcs, if_pos h0, i1]; simp, ⟨r', by rw [i2]; rfl⟩, ⟨st, ?_, i4⟩, i5⟩
        rw [runs, if_pos (by rw [i2] at h0; exact cutL_prefix h0)]
        exact i3
      · obtain ⟨rfl, rfl⟩ := cutL_state h0
        obtain ⟨h, t, i1, i2, ⟨st, i3, i4⟩, i5⟩ := ih (r.drop (cutL false 0 (c :: r) - 1)) false 0 (by rw [List.length_drop]; simp at hl; omega)
        refine ⟨[], h :: t, fun cur => by rw [pcs, if_neg h0, pcs_skip, i1, List.append_nil]; rfl, ⟨c :: r, rfl⟩, ⟨(false, 0), rfl, fun _ => rfl⟩, ⟨st, i3, i4⟩, i5⟩

theorem pieces_told (l : List UInt8) : Pcs (piecesOf l) := by
  obtain ⟨h, t, i1, -, i3, i4⟩ := pcs_told l.length l false 0 (Nat.le_refl _)
  unfold piecesOf
  rw [i1 []]
  exact Pcs.filter (t := h :: t) ⟨i3, i4⟩ nbl
theorem pieces_nbl (l : List UInt8) : ∀ x ∈ piecesOf l, nbl x = true := fun x hx => (List.mem_filter.1 hx).2

theorem join_pieces (sep : List UInt8) (hs : sep = [10] ∨ sep = dia) (t : List (List UInt8)) (hne : t ≠ []) (h : Pcs t) : pcs false 0 0 [] (Lib.join t sep) = t := by
  induction t with
  | nil => exact absurd rfl hne
  | cons x t ih =>
    obtain ⟨⟨st, h1, h2⟩, h3⟩ := h
    cases t with
    | nil => rw [Lib.join_one, runs_one x _ _ st _ h1]; rfl
    | cons y t =>
      have hst := h2 (by simp)
      subst hst
      have e : Lib.join (x :: y :: t) sep = x ++ (sep ++ Lib.join (y :: t) sep) := by
        rw [Lib.join_cons, Lib.join_cons]
        show x ++ ((sep ++ y) ++ Lib.joinTail sep t) = _
        rw [List.append_assoc]
      rw [e]
      have := ih (by simp) h3
      rcases hs with rfl | rfl
      · rw [show x ++ ([10] ++ Lib.join (y :: t) [10]) = x ++ 10 :: Lib.join (y :: t) [10] from rfl, runs_sep x 10 _ (.inl rfl) _ _ _ _ h1, pcs_nl, this]; rfl
      · rw [show x ++ (dia ++ Lib.join (y :: t) dia) = x ++ 226 :: (139 :: 132 :: Lib.join (y :: t) dia) from rfl, runs_sep x 226 _ (.inr rfl) _ _ _ _ h1]
        have := pcs_dia ([] ++ x) (Lib.join (y :: t) dia)
        rename_i hh
        rw [hh] at this
        exact this

/-- Put together, and split: the same. -/
theorem pieces_join (sep : List UInt8) (hs : sep = [10] ∨ sep = dia) (l : List UInt8) : piecesOf (Lib.join (piecesOf l) sep) = piecesOf l := by
  by_cases hne : piecesOf l = []
  · rw [hne]; rfl
  · have := join_pieces sep hs (piecesOf l) hne (pieces_told l)
    show (pcs false 0 0 [] (Lib.join (piecesOf l) sep)).filter nbl = _
    rw [this]
    exact List.filter_eq_self.2 (pieces_nbl l)

theorem pieces_single (l x : List UInt8) (hx : x ∈ piecesOf l) : piecesOf x = [x] := by
  have h := pieces_told l
  have hn := pieces_nbl l x hx
  have key : ∀ t, Pcs t → x ∈ t → ∃ st, runs false 0 x = some st := by
    intro t ht hm
    induction t with
    | nil => cases hm
    | cons y t ih =>
      rcases List.mem_cons.1 hm with rfl | hm
      · exact ⟨_, ht.1.choose_spec.1⟩
      · exact ih ht.2 hm
  obtain ⟨st, hst⟩ := key _ h hx
  unfold piecesOf
  rw [runs_one x _ _ st _ hst, List.nil_append, List.filter_cons, if_pos hn, List.filter_nil]

theorem out_infix (s : ByteArray) (c : List (Nat × Nat)) : ∀ f, ∀ p ∈ outOf s c f, ∃ a b, p = s.extract a b := by
  induction c with
  | nil => intro f p hp; cases hp
  | cons x r ih =>
    intro f p hp
    obtain ⟨u, v⟩ := x
    rw [outOf] at hp
    rcases List.mem_append.1 hp with hp | hp
    · split at hp
      · cases hp
      · rw [List.mem_singleton] at hp; exact ⟨_, _, hp⟩
    · exact ih _ p hp
theorem contains_self (x b : List UInt8) : Lib.contains (x ++ b) x = true := by
  cases h : x ++ b with
  | nil =>
    have : x = [] := by cases x with
      | nil => rfl
      | cons => cases h
    subst this; rfl
  | cons c r =>
    rw [contains_cons, ← h]
    have : x.isPrefixOf (x ++ b) = true := List.isPrefixOf_iff_prefix.2 (List.prefix_append _ _)
    rw [this]; rfl
theorem contains_infix (a x b : List UInt8) : Lib.contains (a ++ (x ++ b)) x = true := by
  induction a with
  | nil => exact contains_self x b
  | cons c r ih => rw [List.cons_append, contains_cons, ih, Bool.or_true]
theorem pieces_infix (l x : List UInt8) (hx : x ∈ piecesOf l) : Lib.contains l x = true := by
  have h1 : bs x ∈ splitOf (bs l) := by rw [split_pieces]; exact List.mem_map_of_mem hx
  obtain ⟨a, b, e⟩ := out_infix _ _ _ _ h1
  rw [seg_extract] at e
  have e2 : x = seg l a b := by have := congrArg (fun s => s.data.toList) e; simpa [bs_list] using this
  have e3 : l = (l.take b).take a ++ (x ++ l.drop b) := by
    rw [e2]; unfold seg
    rw [← List.append_assoc, List.take_append_drop, List.take_append_drop]
  rw [e3]
  exact contains_infix _ _ _
end Go.Proofs.YthlingdlehdlhaaDoor
