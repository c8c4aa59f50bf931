/- Tokens, shown, are told again: characters, quotes, numbers. Plain.
   Tokens, shown, are told again: a token, whatever stands behind a blank. Plain.
   Tokens, shown, are told again: lists; what is told can be shown. Plain.
   UTF-8 is split at a byte below 128; what is left behind a token is UTF-8. Plain.
   What is told can be shown: tokens that are told are Good, and a Chain. Plain.
   Blanks ahead of a statement, and behind it, make no difference. Plain.
   A program's statements, put together, are split into the same. Plain. -/
import Derived.Test.YtijfnnjgcgmnaaaGreatDoorTok
import Derived.Test.YtijfnnjgcgmnaaaGreatDoorTextA
import Derived.Lib.MapLaws
import Derived.Lib.ValidLaws
import Derived.Test.YtijfnnjgcgmnaaaGreatDoorBase
namespace Go.Proofs.YtijfnnjgcgmnaaaGreatDoor
open Go.RowKit Go.Shelf
open Go.Lib (decodeL decodeN encodeRune decDigits)
set_option linter.unusedVariables false
set_option linter.unusedSimpArgs false

theorem getD_drop (l : List UInt8) (p i : Nat) : (l.drop p).getD i 0 = l.getD (p + i) 0 := by
  rw [List.getD_eq_getElem?_getD, List.getD_eq_getElem?_getD, List.getElem?_drop]

theorem decode_drop (l : List UInt8) (p : Nat) : Utf8.decode (bs l) p = decodeL (l.drop p) := by
  rw [Lib.decodeL_N, Lib.decode_N, bs_list, List.length_drop, getD_drop, getD_drop, getD_drop, getD_drop]; rfl

theorem u8v {z : Int} (h : 0 ≤ z ∧ z < 256) : z.toNat.toUInt8.toNat = z.toNat := by
  simp only [Nat.toUInt8, UInt8.toNat_ofNat']
  omega

theorem decode_enc {c : Int} (h : isChar c = true) (r : List UInt8) : decodeL (encodeRune c ++ r) = (c.toNat, (encodeRune c).length) := by
  obtain ⟨h0, h1, h2⟩ := isChar_cases h
  rw [Lib.decodeL_N]
  unfold encodeRune
  rcases enc_forms h with ⟨a1, a2, a3⟩ | ⟨a1, a2, a3⟩ | ⟨a1, a2, a3⟩ | ⟨a1, a2, a3⟩
  · rw [a3]
    simp only [List.map_cons, List.map_nil, List.cons_append, List.nil_append, List.getD_cons_zero, List.getD_cons_succ, List.length_cons, List.length_nil]
    rw [u8v (by omega)]
    exact Lib.decodeN_ascii _ _ _ _ _ (by omega)
  · rw [a3]
    simp only [List.map_cons, List.map_nil, List.cons_append, List.nil_append, List.getD_cons_zero, List.getD_cons_succ, List.length_cons, List.length_nil]
    rw [u8v (by omega), u8v (by omega)]
    unfold decodeN
    rw [if_neg (by omega), if_pos (by omega), if_pos (by omega)]
    apply Prod.ext <;> simp only <;> omega
  · rw [a3]
    simp only [List.map_cons, List.map_nil, List.cons_append, List.nil_append, List.getD_cons_zero, List.getD_cons_succ, List.length_cons, List.length_nil]
    rw [u8v (by omega), u8v (by omega), u8v (by omega)]
    unfold decodeN
    rw [if_neg (by omega), if_neg (by omega), if_pos (by omega), if_pos (by omega)]
    apply Prod.ext <;> simp only <;> omega
  · rw [a3]
    simp only [List.map_cons, List.map_nil, List.cons_append, List.nil_append, List.getD_cons_zero, List.getD_cons_succ, List.length_cons, List.length_nil]
    rw [u8v (by omega), u8v (by omega), u8v (by omega), u8v (by omega)]
    unfold decodeN
    rw [if_neg (by omega), if_neg (by omega), if_neg (by omega), if_pos (by omega), if_pos (by omega)]
    apply Prod.ext <;> simp only <;> omega

/-- A text's characters, from its list. -/
def runesL : Nat → List UInt8 → List Int
  | 0, _ => []
  | f + 1, l => if l = [] then [] else ((decodeL l).1 : Int) :: runesL f (l.drop (decodeL l).2)
theorem runesFrom_list (l : List UInt8) (f p : Nat) : runesFrom (bs l) f p = runesL f (l.drop p) := by
  induction f generalizing p with
  | zero => rfl
  | succ f ih =>
    rw [runesFrom, runesL, bs_size]
    by_cases h : p < l.length
    · rw [if_pos h, if_neg (by intro e; have := congrArg List.length e; simp at this; omega), decode_drop, ih, List.drop_drop]
    · rw [if_neg h, if_pos (List.drop_eq_nil_of_le (by omega))]
theorem runesOf_list (l : List UInt8) : runesOf (bs l) = runesL l.length l := by
  unfold runesOf
  rw [runesFrom_list, bs_size]; rfl

theorem encs_cons (x : Int) (r : List Int) : encs (x :: r) = encodeRune x ++ encs r := by simp [encs]
theorem runesL_encs (xs : List Int) (h : ∀ x ∈ xs, isChar x = true) (f : Nat) (hf : (encs xs).length ≤ f) : runesL f (encs xs) = xs := by
  induction xs generalizing f with
  | nil => cases f <;> rfl
  | cons x r ih =>
    rw [encs_cons] at hf ⊢
    have hx := h x (by simp)
    have hne := enc_ne x
    have hl : 0 < (encodeRune x).length := List.length_pos_iff.2 hne
    rw [List.length_append] at hf
    obtain ⟨f, rfl⟩ : ∃ g, f = g + 1 := ⟨f - 1, by omega⟩
    rw [runesL, if_neg (by simp [hne]), decode_enc hx]
    simp only
    rw [List.drop_left, ih (fun y hy => h y (by simp [hy])) f (by omega)]
    have := (isChar_cases hx).1
    congr 1
    omega
theorem runes_encs {xs : List Int} (h : ∀ x ∈ xs, isChar x = true) : runesOf (bs (encs xs)) = xs := by
  rw [runesOf_list]; exact runesL_encs xs h _ (Nat.le_refl _)

theorem quoted_text (t rest : List UInt8) (h : ∀ r, rest ≠ 39 :: r) : quoted (subst 39 [39, 39] t ++ 39 :: rest) = (t, some rest) := by
  induction t with
  | nil =>
    show quoted (39 :: rest) = _
    rw [quoted_cons, if_pos rfl]
    cases rest with
    | nil => rfl
    | cons d r =>
      have : d ≠ 39 := fun e => h r (by rw [e])
      simp only [if_neg this]
  | cons c t ih =>
    by_cases hc : c = 39
    · subst hc
      have e : subst 39 [39, 39] (39 :: t) = 39 :: 39 :: subst 39 [39, 39] t := by simp [subst]
      rw [e, List.cons_append, List.cons_append, quoted_cons, if_pos rfl]
      simp only [if_true, ih]
    · have e : subst 39 [39, 39] (c :: t) = c :: subst 39 [39, 39] t := by simp [subst, hc]
      rw [e, List.cons_append, quoted_cons, if_neg hc, ih]

theorem valFrom_append (a : Nat) (xs ys : List UInt8) : valFrom a (xs ++ ys) = valFrom (valFrom a xs) ys := by
  induction xs generalizing a with
  | nil => rfl
  | cons c r ih => exact ih _
theorem valFrom_dec (u : Nat) : valFrom 0 (decDigits u) = u := by
  induction u using Nat.strongRecOn with
  | _ u ih =>
    rw [Lib.decDigits]
    split
    · show 0 * 10 + ((UInt8.ofNat _).toNat - 48) = u
      rw [UInt8.toNat_ofNat']; omega
    · rw [valFrom_append, ih (u / 10) (by omega)]
      show u / 10 * 10 + ((UInt8.ofNat _).toNat - 48) = u
      rw [UInt8.toNat_ofNat']; omega
theorem dec_digB (u : Nat) : ∀ c ∈ decDigits u, digB c = true := by
  intro c hc
  have := dec_digit u c hc
  unfold digB
  rw [Bool.and_eq_true, decide_eq_true_eq, decide_eq_true_eq]
  exact this

theorem tw_pre {p : UInt8 → Bool} {a r : List UInt8} (ha : ∀ c ∈ a, p c = true) (hr : ∀ c s, r = c :: s → p c = false) : (a ++ r).takeWhile p = a := by
  induction a with
  | nil =>
    cases r with
    | nil => rfl
    | cons c s => rw [List.nil_append, List.takeWhile_cons, if_neg (by rw [hr c s rfl]; simp)]
  | cons c a ih => rw [List.cons_append, List.takeWhile_cons, if_pos (ha c (by simp)), ih (fun x hx => ha x (by simp [hx]))]

/-- No digit stands here. -/
def noDig (r : List UInt8) : Prop := ∀ c s, r = c :: s → digB c = false

theorem dig_body (n : Int) (r : List UInt8) : minusB (dig n ++ r) = decide (n < 0) ∧ numBody (dig n ++ r) = decDigits n.natAbs ++ r := by
  unfold numBody minusB dig Lib.hasPrefix
  by_cases h : n < 0
  · rw [if_pos h, decide_eq_true h]
    have : ([194, 175] : List UInt8).isPrefixOf (194 :: 175 :: decDigits n.natAbs ++ r) = true := by simp [List.isPrefixOf]
    rw [this]; exact ⟨rfl, rfl⟩
  · rw [if_neg h, decide_eq_false h]
    have hne := dec_ne n.toNat
    have : ([194, 175] : List UInt8).isPrefixOf (decDigits n.toNat ++ r) = false := by
      cases hd : decDigits n.toNat with
      | nil => exact absurd hd hne
      | cons c s =>
        have := dec_head n.toNat c s hd
        have hc : (194 : UInt8) ≠ c := fun e => by subst e; have : (194 : UInt8).toNat = 194 := rfl; omega
        simp [List.isPrefixOf, hc]
    rw [this, if_neg (by simp), show n.natAbs = n.toNat from by omega]
    exact ⟨rfl, rfl⟩

theorem dig_read (n : Int) (r : List UInt8) (hr : noDig r) (h0 : -9223372036854775808 ≤ n) (h1 : n ≤ 9223372036854775807) :
    numB (dig n ++ r) = true ∧ numLeft (dig n ++ r) = r ∧ numVal (dig n ++ r) = n ∧ numBad (dig n ++ r) = false := by
  obtain ⟨e1, e2⟩ := dig_body n r
  have htw : (decDigits n.natAbs ++ r).takeWhile digB = decDigits n.natAbs := tw_pre (dec_digB _) hr
  have hlen : digLen (numBody (dig n ++ r)) = (decDigits n.natAbs).length := by unfold digLen; rw [e2, htw]
  have ht : numTxt (dig n ++ r) = (if n < 0 then [45] else []) ++ decDigits n.natAbs := by
    unfold numTxt
    rw [hlen, e2, e1, List.take_left]
    by_cases h : n < 0 <;> simp [h]
  have hp : Lib.parseIntB 64 (numTxt (dig n ++ r)) = .ok n := by
    rw [ht]
    by_cases h : n < 0
    · rw [if_pos h]
      show Lib.parseIntB 64 (45 :: decDigits n.natAbs) = _
      rw [parse_below (dec_digB _) (dec_ne _), valFrom_dec, if_pos (by omega)]
      congr 1; omega
    · rw [if_neg h, List.nil_append, parse_above (dec_digB _) (dec_ne _), valFrom_dec, if_pos (by omega)]
      congr 1; omega
  refine ⟨?_, ?_, ?_, ?_⟩
  · have hne := dec_ne n.natAbs
    unfold numB Lib.trimPrefix
    have : (if ([194, 175] : List UInt8).isPrefixOf (dig n ++ r) then (dig n ++ r).drop 2 else (dig n ++ r)) = decDigits n.natAbs ++ r := by
      rw [← e2]; rfl
    rw [show Lib.hasPrefix (dig n ++ r) [194, 175] = ([194, 175] : List UInt8).isPrefixOf (dig n ++ r) from rfl] at *
    simp only [List.length_cons, List.length_nil, Nat.zero_add] at *
    rw [this]
    cases hd : decDigits n.natAbs with
    | nil => exact absurd hd hne
    | cons c s => exact dec_digB n.natAbs c (by rw [hd]; simp)
  · unfold numLeft
    rw [hlen, e2, List.drop_left]
  · unfold numVal; rw [hp]
  · unfold numBad; rw [hp]
end Go.Proofs.YtijfnnjgcgmnaaaGreatDoor

namespace Go.Proofs.YtijfnnjgcgmnaaaGreatDoor
open Go.RowKit Go.Shelf
open Go.Lib (decodeL decodeN encodeRune decDigits trimLeftB)
set_option linter.unusedVariables false
set_option linter.unusedSimpArgs false

/-- What stands behind a token that is shown: nothing, or a blank. -/
def blankEnd (r : List UInt8) : Prop := ∀ c s, r = c :: s → c = 32
theorem blankEnd.noDig {r : List UInt8} (h : blankEnd r) : noDig r := by
  intro c s e
  rw [h c s e]; decide
theorem trim_cons32 (r : List UInt8) : trimLeftB (32 :: r) 32 = trimLeftB r 32 := by
  unfold trimLeftB; rw [List.dropWhile_cons_of_pos (by rfl)]
theorem trim_ne {c : UInt8} (r : List UInt8) (h : c ≠ 32) : trimLeftB (c :: r) 32 = c :: r := by
  unfold trimLeftB; rw [List.dropWhile_cons_of_neg (by simpa using h)]

theorem dig_head (n : Int) (r : List UInt8) : ∃ c s, dig n ++ r = c :: s ∧ c ≠ 32 := by
  cases h : dig n with
  | nil => exact absurd h (dig_ne n)
  | cons c s => exact ⟨c, s ++ r, rfl, fun e => dig_no32 n (by rw [h, e]; simp)⟩
theorem trim_dig (n : Int) (r : List UInt8) : trimLeftB (dig n ++ r) 32 = dig n ++ r := by
  obtain ⟨c, s, e, hc⟩ := dig_head n r
  rw [e]; exact trim_ne s hc

/-- Numbers, one behind the other. -/
theorem nums_read (xs : List Int) (hne : xs ≠ []) (hr : Rng xs) (rest : List UInt8) (hb : blankEnd rest) (hn : numB (trimLeftB rest 32) = false) (f : Nat) (hf : xs.length ≤ f) :
    numsFrom f (Lib.join (xs.map dig) [32] ++ rest) = (xs, trimLeftB rest 32, false) := by
  induction xs generalizing f with
  | nil => exact absurd rfl hne
  | cons x r ih =>
    have hx : -9223372036854775808 ≤ x ∧ x ≤ 9223372036854775807 := by simpa using hr 0 (by simp)
    have hrr : Rng r := fun i hi => by have := hr (i + 1) (by simpa using hi); simpa using this
    obtain ⟨f, rfl⟩ : ∃ g, f = g + 1 := ⟨f - 1, by simp at hf; omega⟩
    cases r with
    | nil =>
      rw [List.map_cons, List.map_nil, Lib.join_one]
      obtain ⟨d1, d2, d3, d4⟩ := dig_read x rest hb.noDig hx.1 hx.2
      rw [numsFrom, if_pos d1, d2, d3, d4]
      have e : numsFrom f (trimLeftB rest 32) = ([], trimLeftB rest 32, false) := by
        cases f with
        | zero => rfl
        | succ f => rw [numsFrom, hn]; rfl
      simp only [e, Bool.or_false]
    | cons y r =>
      rw [List.map_cons, List.map_cons, join_cons2, ← List.map_cons, List.append_assoc, List.cons_append]
      obtain ⟨d1, d2, d3, d4⟩ := dig_read x (32 :: (Lib.join ((y :: r).map dig) [32] ++ rest)) (by intro c s e; cases e; decide) hx.1 hx.2
      rw [numsFrom, if_pos d1, d2, d3, d4, trim_cons32]
      have ht : trimLeftB (Lib.join ((y :: r).map dig) [32] ++ rest) 32 = Lib.join ((y :: r).map dig) [32] ++ rest := by
        rw [List.map_cons, Lib.join_cons, List.append_assoc]; exact trim_dig y _
      have e := ih (by simp) hrr f (by simp at hf; simp; omega)
      simp only [ht, e, Bool.or_false]

theorem join_ge (xs : List Int) : xs.length ≤ (Lib.join (xs.map dig) [32]).length := by
  induction xs with
  | nil => simp
  | cons x r ih =>
    have h0 : 0 < (dig x).length := List.length_pos_iff.2 (dig_ne x)
    cases r with
    | nil => rw [List.map_cons, List.map_nil, Lib.join_one]; simp; omega
    | cons y r =>
      rw [List.map_cons, List.map_cons, join_cons2, ← List.map_cons, List.length_append, List.length_cons]
      simp only [List.length_cons] at ih ⊢
      omega

/-- A value that a token can be: what 'Show' shows. -/
def canV (x : Arr) : Bool := okArr x && (decide (x.shape.length = 0) || (decide (x.shape.length = 1) && (!decide (x.elems.length = 1) && !(decide (x.elems.length = 0) && decide (x.kind = 1)))))
theorem canV_parts {x : Arr} (h : canV x = true) : okArr x = true ∧ bare x = true ∧ textOf x = elemText x ∧
    ((x = numsArr x.elems ∧ x.elems ≠ [] ∧ x.kind = 1) ∨ (x = chrsArr x.elems ∧ (∀ c ∈ x.elems, isChar c = true) ∧ x.kind = 2)) ∧ x.elems.length ≤ 4096 := by
  unfold canV at h
  rw [Bool.and_eq_true, Bool.or_eq_true] at h
  obtain ⟨ho, hs⟩ := h
  obtain ⟨hc, hk⟩ := okArr_parts ho
  have hle : x.elems.length ≤ 4096 := by have := count_le _ _ hc; omega
  have hb : bare x = true ∧ x.shape = (if x.elems.length = 1 then [] else [(x.elems.length : Int)]) ∧ (x.kind = 1 → x.elems ≠ []) := by
    rcases hs with hs | hs
    · have hs' : x.shape = [] := List.eq_nil_of_length_eq_zero (by simpa using hs)
      have h1 : x.elems.length = 1 := by rw [hs'] at hc; have : count [] = some 1 := rfl; rw [this] at hc; simp at hc; omega
      refine ⟨by unfold bare; rw [hs']; rfl, by rw [if_pos h1]; exact hs', fun _ e => by rw [e] at h1; simp at h1⟩
    · rw [Bool.and_eq_true, Bool.and_eq_true, decide_eq_true_eq] at hs
      obtain ⟨s1, s2, s3⟩ := hs
      obtain ⟨n, hn⟩ := List.length_eq_one_iff.1 s1
      have h1 : ¬ x.elems.length = 1 := by simpa using s2
      rw [hn, count_one] at hc
      split at hc
      · cases hc
      · have e : n = x.elems.length := by simpa using hc
        have h3 : ¬ (x.elems.length = 0 ∧ x.kind = 1) := by
          rintro ⟨a, b⟩
          rw [decide_eq_true a, decide_eq_true b] at s3
          cases s3
        refine ⟨?_, by rw [if_neg h1, hn, e], fun hk e => h3 ⟨by rw [e]; rfl, hk⟩⟩
        unfold bare
        rw [s1]
        by_cases h0 : x.elems.length = 0
        · have : x.kind = 2 := by
            rcases hk with hk | hk
            · exact absurd ⟨h0, hk⟩ h3
            · exact hk.1
          simp [h0, this]
        · have : 1 < x.elems.length := by omega
          simp [this]
  refine ⟨ho, hb.1, by unfold textOf; rw [if_pos hb.1], ?_, hle⟩
  rcases hk with hk | ⟨hk, hodd⟩
  · exact .inl ⟨by cases x; simp only at hk; subst hk; unfold numsArr; rw [← hb.2.1], hb.2.2 hk, hk⟩
  · exact .inr ⟨by cases x; simp only at hk; subst hk; unfold chrsArr; rw [← hb.2.1], hasOdd_all hodd, hk⟩

/-- A token that can be told of a text. -/
def Good (t : Tok) : Prop := (t.kind = 1 ∧ t.txt = [] ∧ canV t.val = true ∧ Rng t.val.elems) ∨ (t.kind = 2 ∧ namB (bs t.txt) = true ∧ t.val = noArr) ∨ (t.kind = 3 ∧ t.txt ∈ glyChars ∧ t.val = noArr)
def isNumT (t : Tok) : Bool := decide (t.kind = 1) && decide (t.val.kind = 1)
/-- Such a token's text. -/
def shw (t : Tok) : List UInt8 := if t.kind = 1 then elemText t.val else t.txt

theorem namB_parts {s : List UInt8} (h : namB (bs s) = true) : (∃ c r, s = c :: r ∧ letB c = true) ∧ (∀ c ∈ s, innB c = true) ∧ s.length ≤ 12 := by
  unfold namB at h
  rw [Bool.and_eq_true, Bool.and_eq_true, Bool.and_eq_true, decide_eq_true_eq, decide_eq_true_eq, decide_eq_true_eq, bs_size] at h
  obtain ⟨⟨⟨h0, h1⟩, h2⟩, h3⟩ := h
  cases s with
  | nil => simp at h0
  | cons c r =>
    refine ⟨⟨c, r, rfl, by simpa [bt, bs_list] using h1⟩, fun x hx => ?_, h3⟩
    unfold frontOf at h2
    rw [bs_list] at h2
    have e : (c :: r).takeWhile innB = c :: r := (List.takeWhile_sublist _).eq_of_length h2
    rw [← e] at hx
    exact tw_all innB _ _ hx

def glyRunes : List Int := [43, 45, 215, 247, 124, 8970, 8968, 42, 61, 8800, 60, 8804, 8805, 62, 8743, 8744, 126, 9076, 44, 9021, 9033, 9075, 8802, 9035, 9042, 8593, 8595, 8714, 47, 92, 8728, 46, 8592, 40, 41, 91, 93, 123, 125, 59, 58, 9082, 9077, 8711, 8900]
theorem glyChars_eq : glyChars = glyRunes.map encodeRune := by decide +kernel
theorem glyRunes_all : ∀ c ∈ glyRunes, isChar c = true := by decide +kernel
theorem gly_head : ∀ g ∈ glyChars, (match g with | [] => false | c :: _ => !letB c && (!digB c && (c != 39 && (c != 194 && (c != 32 && c != 10))))) = true := by decide +kernel

theorem letB_not (c : UInt8) (h : letB c = true) : digB c = false ∧ c ≠ 39 ∧ c ≠ 194 ∧ c ≠ 32 := by
  rw [letB_eq] at h
  simp only [Bool.or_eq_true, Bool.and_eq_true, decide_eq_true_eq] at h
  refine ⟨?_, ?_, ?_, ?_⟩
  · unfold digB; rw [Bool.and_eq_false_iff, decide_eq_false_iff_not, decide_eq_false_iff_not]; omega
  · intro e; subst e; have : ((39 : UInt8).toNat : Int) = 39 := rfl; omega
  · intro e; subst e; have : ((194 : UInt8).toNat : Int) = 194 := rfl; omega
  · intro e; subst e; have : ((32 : UInt8).toNat : Int) = 32 := rfl; omega

theorem numB_not {c : UInt8} {r : List UInt8} (h1 : digB c = false) (h2 : c ≠ 194) : numB (c :: r) = false := by
  unfold numB Lib.trimPrefix Lib.hasPrefix
  have : ([194, 175] : List UInt8).isPrefixOf (c :: r) = false := by simp [List.isPrefixOf, Ne.symm h2]
  rw [this]
  exact h1

theorem Good.head {t : Tok} (h : Good t) (r : List UInt8) : ∃ c s, shw t ++ r = c :: s ∧ c ≠ 32 ∧ (isNumT t = false → numB (c :: s) = false) := by
  rcases h with ⟨k, tx, hc, hr⟩ | ⟨k, hn, hv⟩ | ⟨k, hg, hv⟩
  · unfold shw
    rw [if_pos k]
    obtain ⟨-, -, -, hx, -⟩ := canV_parts hc
    unfold elemText
    rcases hx with ⟨hx, hne, hk⟩ | ⟨hx, hch, hk⟩
    · rw [if_neg (by omega), if_neg hne]
      have hnum : isNumT t = true := by unfold isNumT; simp [k, hk]
      cases he : t.val.elems with
      | nil => exact absurd he hne
      | cons x xs =>
        rw [List.map_cons, Lib.join_cons, List.append_assoc]
        obtain ⟨c, s, e, hc⟩ := dig_head x (Lib.joinTail [32] (xs.map dig) ++ r)
        exact ⟨c, s, e, hc, fun h => by rw [hnum] at h; cases h⟩
    · rw [if_pos hk]
      exact ⟨39, _, rfl, by decide, fun _ => numB_not (by decide) (by decide)⟩
  · obtain ⟨⟨c, s, e, hl⟩, -, -⟩ := namB_parts hn
    obtain ⟨l1, l2, l3, l4⟩ := letB_not c hl
    unfold shw
    rw [if_neg (by omega), e]
    exact ⟨c, s ++ r, rfl, l4, fun _ => numB_not l1 l3⟩
  · have hh := gly_head _ hg
    unfold shw
    rw [if_neg (by omega)]
    cases htx : t.txt with
    | nil => rw [htx] at hh; cases hh
    | cons c s =>
      rw [htx] at hh
      simp only [Bool.and_eq_true, Bool.not_eq_true', bne_iff_ne, ne_eq] at hh
      exact ⟨c, s ++ r, rfl, hh.2.2.2.2.1, fun _ => numB_not hh.2.1 hh.2.2.2.1⟩

/-- A token, shown, and what stands behind it, is told as it is. -/
theorem read_shown {t : Tok} (h : Good t) (rest : List UInt8) (hb : blankEnd rest) (hn : isNumT t = true → numB (trimLeftB rest 32) = false) :
    ∃ left, readTok (shw t ++ rest) = (t, left, false) ∧ trimLeftB left 32 = trimLeftB rest 32 := by
  rcases h with ⟨k, tx, hc, hr⟩ | ⟨k, hn1, hv⟩ | ⟨k, hg, hv⟩
  · unfold shw
    rw [if_pos k]
    obtain ⟨-, -, -, hx, -⟩ := canV_parts hc
    unfold elemText
    rcases hx with ⟨hx, hne, hk⟩ | ⟨hx, hch, hk⟩
    · rw [if_neg (by omega), if_neg hne]
      have hnum : isNumT t = true := by unfold isNumT; simp [k, hk]
      have hnb : numB (Lib.join (t.val.elems.map dig) [32] ++ rest) = true := by
        cases he : t.val.elems with
        | nil => exact absurd he hne
        | cons x xs =>
          have hx0 : -9223372036854775808 ≤ x ∧ x ≤ 9223372036854775807 := by have := hr 0 (by rw [he]; simp); rw [he] at this; simpa using this
          rw [List.map_cons, Lib.join_cons, List.append_assoc]
          refine (dig_read x _ ?_ hx0.1 hx0.2).1
          cases xs with
          | nil => simpa [Lib.joinTail] using hb.noDig
          | cons y ys => intro c s e; simp [Lib.joinTail] at e; rw [← e.1]; decide
      have hrd := nums_read t.val.elems hne hr rest hb (hn hnum) (Lib.join (t.val.elems.map dig) [32] ++ rest).length (by rw [List.length_append]; have := join_ge t.val.elems; omega)
      refine ⟨trimLeftB rest 32, ?_, trimLeft_idem rest⟩
      unfold readTok
      rw [if_pos hnb, hrd]
      simp only
      rw [← hx]
      cases t
      simp only at k tx ⊢
      rw [k, tx]
    · rw [if_pos hk]
      rw [List.cons_append, readTok_39, List.append_assoc, List.singleton_append, quoted_text _ rest (fun r e => by have := hb 39 r e; cases this)]
      refine ⟨rest, ?_, rfl⟩
      simp only [Option.getD_some, Option.isNone_some]
      rw [runes_encs hch, ← hx]
      cases t
      simp only at k tx ⊢
      rw [k, tx]
  · obtain ⟨⟨c, s, e, hl⟩, hin, hlen⟩ := namB_parts hn1
    obtain ⟨l1, l2, l3, l4⟩ := letB_not c hl
    have hnl : nameLen (t.txt ++ rest) = t.txt.length := by
      unfold nameLen
      rw [tw_pre hin (fun c s e => by rw [hb c s e]; decide)]
    unfold shw
    rw [if_neg (by omega)]
    refine ⟨rest, ?_, rfl⟩
    have hnn : numB (t.txt ++ rest) = false := by rw [e]; exact numB_not l1 l3
    unfold readTok
    rw [if_neg (by rw [hnn]; simp)]
    have e2 : t.txt ++ rest = c :: (s ++ rest) := by rw [e]; rfl
    rw [e2]
    simp only
    rw [if_neg l2, if_pos hl, ← e2, hnl, List.take_left, List.drop_left, decide_eq_false (by omega)]
    cases t
    simp only at k hv ⊢
    rw [k, hv]
  · have hh := gly_head _ hg
    have hg' := hg
    rw [glyChars_eq] at hg'
    obtain ⟨rn, hrn, he⟩ := List.mem_map.1 hg'
    have hch := glyRunes_all rn hrn
    have hdl : chLen (t.txt ++ rest) = t.txt.length := by
      unfold chLen Lib.decodeGo
      have hne := enc_ne rn
      rw [he] at hne
      have : 0 < t.txt.length := List.length_pos_iff.2 hne
      rw [if_neg (by rw [bs_size, List.length_append]; omega), decode_drop, List.drop_zero, ← he, decode_enc hch]
    unfold shw
    rw [if_neg (by omega)]
    refine ⟨rest, ?_, rfl⟩
    cases htx : t.txt with
    | nil => rw [htx] at hh; cases hh
    | cons c s =>
      rw [htx] at hh
      simp only [Bool.and_eq_true, Bool.not_eq_true', bne_iff_ne, ne_eq] at hh
      have hnn : numB (c :: s ++ rest) = false := numB_not hh.2.1 hh.2.2.2.1
      have hgt : glyTxt (c :: s ++ rest) = c :: s := by
        unfold glyTxt
        rw [← htx, hdl, List.take_left, if_neg (by rw [htx]; intro e; cases e; exact hh.2.2.2.2.2 rfl)]
      have hcon : Lib.contains glyphsL (c :: s) = true := by
        rw [contains_glyphs (List.all_eq_true.1 glyChars_all _ (htx ▸ hg))]
        exact decide_eq_true (htx ▸ hg)
      unfold readTok
      rw [if_neg (by rw [hnn]; simp)]
      rw [List.cons_append] at hgt ⊢
      simp only
      rw [if_neg hh.2.2.1, if_neg (by rw [hh.1]; simp), hgt, hcon]
      have hdl2 : chLen (c :: (s ++ rest)) = (c :: s).length := by rw [← htx, ← hdl, htx]; rfl
      rw [hdl2, ← List.cons_append, List.drop_left]
      cases t
      simp only at k hv htx ⊢
      rw [k, hv, htx]; rfl
end Go.Proofs.YtijfnnjgcgmnaaaGreatDoor

namespace Go.Proofs.YtijfnnjgcgmnaaaGreatDoor
open Go.RowKit Go.Shelf
open Go.Lib (decodeL decodeN encodeRune decDigits trimLeftB validD)
set_option linter.unusedVariables false
set_option linter.unusedSimpArgs false

def shTail : List Tok → List UInt8
  | [] => []
  | t :: r => 32 :: (shw t ++ shTail r)
def shText : List Tok → List UInt8
  | [] => []
  | t :: r => shw t ++ shTail r
theorem joinTail_sh (r : List Tok) : Lib.joinTail [32] (r.map shw) = shTail r := by
  induction r with
  | nil => rfl
  | cons t r ih =>
    show ([32] ++ shw t) ++ Lib.joinTail [32] (r.map shw) = _
    rw [ih]; rfl
theorem join_shText (T : List Tok) : Lib.join (T.map shw) [32] = shText T := by
  cases T with
  | nil => rfl
  | cons t r => rw [List.map_cons, Lib.join_cons, joinTail_sh]; rfl
theorem shTail_blank (r : List Tok) : blankEnd (shTail r) := by
  cases r with
  | nil => intro c s e; cases e
  | cons t r => intro c s e; cases e; rfl

/-- Tokens that can be told one behind the other. -/
def Chain : List Tok → Prop
  | [] => True
  | t :: r => Good t ∧ (∀ u s, r = u :: s → isNumT t = true → isNumT u = false) ∧ Chain r

theorem Good.small {t : Tok} (h : Good t) : decide (4096 < t.val.elems.length) = false := by
  rcases h with ⟨k, tx, hc, hr⟩ | ⟨k, hn, hv⟩ | ⟨k, hg, hv⟩
  · exact decide_eq_false (by have := (canV_parts hc).2.2.2.2; omega)
  · rw [hv]; rfl
  · rw [hv]; rfl

theorem toksFrom_nil (f : Nat) : toksFrom f [] = ([], false, false) := by cases f <;> rfl

theorem toks_shown (r : List Tok) : ∀ (t : Tok), Chain (t :: r) → ∀ f, (shw t ++ shTail r).length < f → toksFrom f (shw t ++ shTail r) = (t :: r, false, false) := by
  induction r with
  | nil =>
    intro t hc f hf
    obtain ⟨f, rfl⟩ : ∃ g, f = g + 1 := ⟨f - 1, by omega⟩
    obtain ⟨c, s, e, h32, -⟩ := hc.1.head (shTail [])
    obtain ⟨left, h1, h2⟩ := read_shown hc.1 (shTail []) (shTail_blank []) (fun _ => rfl)
    have ht : trimLeftB (shw t ++ shTail []) 32 = shw t ++ shTail [] := by rw [e]; exact trim_ne s h32
    rw [toksFrom, ht, if_neg (by rw [e]; simp), h1]
    simp only [Bool.false_eq_true, if_false]
    rw [← toksFrom_trim, h2, hc.1.small]
    show (t :: (toksFrom f []).1, (toksFrom f []).2.1, false || (toksFrom f []).2.2) = _
    rw [toksFrom_nil]; rfl
  | cons u r ih =>
    intro t hc f hf
    obtain ⟨hg, hadj, hcr⟩ := hc
    obtain ⟨f, rfl⟩ : ∃ g, f = g + 1 := ⟨f - 1, by omega⟩
    obtain ⟨c, s, e, h32, -⟩ := hg.head (shTail (u :: r))
    obtain ⟨c', s', e', h32', hnum'⟩ := hcr.1.head (shTail r)
    have htl : trimLeftB (shTail (u :: r)) 32 = shw u ++ shTail r := by
      show trimLeftB (32 :: (shw u ++ shTail r)) 32 = _
      rw [trim_cons32, e']; exact trim_ne s' h32'
    obtain ⟨left, h1, h2⟩ := read_shown hg (shTail (u :: r)) (shTail_blank _) (fun hn => by rw [htl, e']; exact hnum' (hadj u r rfl hn))
    have ht : trimLeftB (shw t ++ shTail (u :: r)) 32 = shw t ++ shTail (u :: r) := by rw [e]; exact trim_ne s h32
    rw [toksFrom, ht, if_neg (by rw [e]; simp), h1]
    simp only [Bool.false_eq_true, if_false]
    rw [← toksFrom_trim, h2, htl, hg.small, ih u hcr f (by
      have : (shw t ++ shTail (u :: r)).length = (shw t).length + (1 + (shw u ++ shTail r).length) := by
        rw [List.length_append]; show _ + (32 :: (shw u ++ shTail r)).length = _; rw [List.length_cons]; omega
      omega)]
    rfl

/-! ### The text is UTF-8 -/
def EncT (l : List UInt8) : Prop := ∀ r, validD (l ++ r) = validD r
theorem EncT.nil : EncT [] := fun r => rfl
theorem EncT.append {a b : List UInt8} (ha : EncT a) (hb : EncT b) : EncT (a ++ b) := fun r => by rw [List.append_assoc, ha, hb]
theorem EncT.ascii {c : UInt8} (h : c.toNat < 128) : EncT [c] := fun r => Lib.validD_cons c r h
theorem EncT.all {l : List UInt8} (h : ∀ c ∈ l, c.toNat < 128) : EncT l := by
  induction l with
  | nil => exact EncT.nil
  | cons c r ih => exact EncT.append (a := [c]) (EncT.ascii (h c (by simp))) (ih fun x hx => h x (by simp [hx]))
theorem enc_len3 (c : Int) (h : c = 65533) : (encodeRune c).length = 3 := by subst h; decide
theorem EncT.enc {c : Int} (h : isChar c = true) : EncT (encodeRune c) := fun r => by
  have hne := enc_ne c
  rw [Lib.validD_step _ (by simp [hne]), decode_enc h]
  simp only
  rw [List.drop_left, if_neg]
  rintro ⟨h1, h2⟩
  have := enc_len3 c (by have := (isChar_cases h).1; omega)
  omega
theorem enc_minus : encodeRune 175 = [194, 175] := by decide
theorem EncT.dig (n : Int) : EncT (dig n) := by
  have hd : ∀ u, EncT (decDigits u) := fun u => EncT.all fun c hc => by have := dec_digit u c hc; omega
  unfold Proofs.YtijfnnjgcgmnaaaGreatDoor.dig
  split
  · exact EncT.append (a := [194, 175]) (by rw [← enc_minus]; exact EncT.enc (by decide)) (hd _)
  · exact hd _
theorem EncT.join {xs : List (List UInt8)} (h : ∀ x ∈ xs, EncT x) : EncT (Lib.join xs [32]) := by
  cases xs with
  | nil => exact EncT.nil
  | cons x r =>
    rw [Lib.join_cons]
    refine (h x (by simp)).append ?_
    have hr := fun y hy => h y (List.mem_cons_of_mem _ hy)
    clear h
    induction r with
    | nil => exact EncT.nil
    | cons y r ih => exact EncT.append (a := [32] ++ y) ((EncT.ascii (by decide)).append (hr y (by simp))) (ih fun z hz => hr z (by simp [hz]))
theorem subst_append (c : UInt8) (new a b : List UInt8) : subst c new (a ++ b) = subst c new a ++ subst c new b := by simp [subst]
theorem enc_no39 {c : Int} (h : isChar c = true) (hc : c ≠ 39) : (39 : UInt8) ∉ encodeRune c := by
  have key : ∀ z : Int, 0 ≤ z ∧ z < 256 → z ≠ 39 → (39 : UInt8) ≠ z.toNat.toUInt8 := fun z h1 h2 e => by
    have := congrArg UInt8.toNat e
    rw [u8v h1] at this
    have e2 : (39 : UInt8).toNat = 39 := rfl
    omega
  unfold encodeRune
  rcases enc_forms h with ⟨a1, a2, a3⟩ | ⟨a1, a2, a3⟩ | ⟨a1, a2, a3⟩ | ⟨a1, a2, a3⟩
  all_goals
    rw [a3]
    simp only [List.map_cons, List.map_nil, List.mem_cons, List.not_mem_nil, or_false, not_or]
  · exact key _ (by omega) (by omega)
  · exact ⟨key _ (by omega) (by omega), key _ (by omega) (by omega)⟩
  · exact ⟨key _ (by omega) (by omega), key _ (by omega) (by omega), key _ (by omega) (by omega)⟩
  · exact ⟨key _ (by omega) (by omega), key _ (by omega) (by omega), key _ (by omega) (by omega), key _ (by omega) (by omega)⟩
theorem subst_id {c : UInt8} {new l : List UInt8} (h : c ∉ l) : subst c new l = l := by
  induction l with
  | nil => rfl
  | cons x r ih =>
    have hx : x ≠ c := fun e => h (by simp [e])
    have : subst c new (x :: r) = x :: subst c new r := by simp [subst, hx]
    rw [this, ih fun e => h (by simp [e])]
theorem EncT.subst {xs : List Int} (h : ∀ c ∈ xs, isChar c = true) : EncT (Proofs.YtijfnnjgcgmnaaaGreatDoor.subst 39 [39, 39] (Proofs.YtijfnnjgcgmnaaaGreatDoor.encs xs)) := by
  induction xs with
  | nil => exact EncT.nil
  | cons x r ih =>
    rw [encs_cons, subst_append]
    refine EncT.append ?_ (ih fun c hc => h c (by simp [hc]))
    by_cases hx : x = 39
    · subst hx
      have : Proofs.YtijfnnjgcgmnaaaGreatDoor.subst 39 [39, 39] (encodeRune 39) = [39, 39] := by decide
      rw [this]; exact EncT.all (fun c hc => by simp at hc; subst hc; decide)
    · rw [subst_id (enc_no39 (h x (by simp)) hx)]
      exact EncT.enc (h x (by simp))

theorem innB_ascii {c : UInt8} (h : innB c = true) : c.toNat < 128 := by
  rw [innB_eq, letB_eq] at h
  unfold digB at h
  simp only [Bool.or_eq_true, Bool.and_eq_true, decide_eq_true_eq, beq_iff_eq] at h
  omega

theorem Good.enc {t : Tok} (h : Good t) : EncT (shw t) := by
  rcases h with ⟨k, tx, hc, hr⟩ | ⟨k, hn, hv⟩ | ⟨k, hg, hv⟩
  · unfold shw
    rw [if_pos k]
    obtain ⟨-, -, -, hx, -⟩ := canV_parts hc
    unfold elemText
    rcases hx with ⟨hx, hne, hk⟩ | ⟨hx, hch, hk⟩
    · rw [if_neg (by omega), if_neg hne]
      exact EncT.join fun x hx => by obtain ⟨n, -, rfl⟩ := List.mem_map.1 hx; exact EncT.dig n
    · rw [if_pos hk]
      exact EncT.append (a := [39]) (EncT.ascii (by decide)) ((EncT.subst hch).append (EncT.ascii (by decide)))
  · unfold shw
    rw [if_neg (by omega)]
    exact EncT.all fun c hc => innB_ascii ((namB_parts hn).2.1 c hc)
  · unfold shw
    rw [if_neg (by omega)]
    rw [glyChars_eq] at hg
    obtain ⟨rn, hrn, he⟩ := List.mem_map.1 hg
    rw [← he]; exact EncT.enc (glyRunes_all rn hrn)

theorem Chain.encTail {r : List Tok} (h : Chain r) : EncT (shTail r) := by
  induction r with
  | nil => exact EncT.nil
  | cons t r ih => exact EncT.append (a := [32]) (EncT.ascii (by decide)) (h.1.enc.append (ih h.2.2))
theorem Chain.valid {T : List Tok} (h : Chain T) : validD (shText T) = true := by
  have : EncT (shText T) := by
    cases T with
    | nil => exact EncT.nil
    | cons t r => exact h.1.enc.append h.2.2.encTail
  have := this []
  rw [List.append_nil] at this
  rw [this]; rfl

/-- WHAT IS SHOWN IS TOLD AGAIN. -/
theorem tokens_shown {T : List Tok} (h : Chain T) (hl : T.length ≤ 4000) : tokensOf (shText T) = (T, 0) := by
  unfold tokensOf
  rw [h.valid, if_neg (by simp)]
  cases T with
  | nil => rfl
  | cons t r =>
    have := toks_shown r t h ((shw t ++ shTail r).length + 1) (by omega)
    rw [show shText (t :: r) = shw t ++ shTail r from rfl]
    simp only [this]
    rw [if_neg (by simp), if_neg (by simp only [List.length_cons] at hl ⊢; simp; omega)]
end Go.Proofs.YtijfnnjgcgmnaaaGreatDoor

namespace Go.Proofs.YtijfnnjgcgmnaaaGreatDoor
open Go.RowKit Go.Shelf
open Go.Lib (decodeL decodeN encodeRune decDigits trimLeftB validD)
set_option linter.unusedVariables false
set_option linter.unusedSimpArgs false

theorem isChar_of {n : Int} (h0 : 0 ≤ n) (h1 : n ≤ 1114111) (h2 : ¬ (55296 ≤ n ∧ n ≤ 57343)) : isChar n = true := by
  unfold isChar Lib.validRune
  simp only [Bool.and_eq_true, decide_eq_true_eq, Bool.or_eq_true]
  omega

theorem decode_char (l : List UInt8) : isChar ((decodeL l).1 : Int) = true := by
  rw [Lib.decodeL_N]
  have h0 : (l.getD 0 0).toNat < 256 := UInt8.toNat_lt _
  rcases Lib.decodeN_shape l.length (l.getD 0 0).toNat (l.getD 1 0).toNat (l.getD 2 0).toNat (l.getD 3 0).toNat with ⟨c, e⟩ | ⟨c1, c2, c3, cv, e⟩ | ⟨c1, c2, c3, c4, cv, cs, e⟩ | ⟨c1, c2, c3, c4, c5, cv, cw, e⟩ | e
  all_goals
    rw [e]
    exact isChar_of (by omega) (by simp only; omega) (by simp only; omega)

theorem getD_at (a b : List UInt8) (c : UInt8) : (a ++ c :: b).getD a.length 0 = c := by
  rw [List.getD_eq_getElem?_getD, List.getElem?_append_right (Nat.le_refl _)]; simp

theorem decode_short (a b : List UInt8) (c : UInt8) (hc : c.toNat < 128) (hne : a ≠ []) (hok : ¬ ((decodeL (a ++ c :: b)).1 = 65533 ∧ (decodeL (a ++ c :: b)).2 = 1)) : (decodeL (a ++ c :: b)).2 ≤ a.length := by
  have hl : 0 < a.length := List.length_pos_iff.2 hne
  have hat := getD_at a b c
  rw [Lib.decodeL_N] at hok ⊢
  have h0 : ((a ++ c :: b).getD 0 0).toNat < 256 := UInt8.toNat_lt _
  rcases decodeN_kind (a ++ c :: b).length ((a ++ c :: b).getD 0 0).toNat ((a ++ c :: b).getD 1 0).toNat ((a ++ c :: b).getD 2 0).toNat ((a ++ c :: b).getD 3 0).toNat h0 with e | ⟨k, e⟩ | ⟨k, k', k2, q1, e⟩ | ⟨k, k', k2, q1, q2, e⟩ | ⟨k, k', k2, q1, q2, q3, e⟩
  · exact absurd (by rw [e]; exact ⟨rfl, rfl⟩) hok
  · omega
  · rw [e]
    rcases Nat.lt_or_ge 1 a.length with h | h
    · exact h
    · have : a.length = 1 := by omega
      rw [this] at hat; rw [hat] at q1; omega
  · rw [e]
    rcases Nat.lt_or_ge 2 a.length with h | h
    · exact h
    · have : a.length = 1 ∨ a.length = 2 := by omega
      rcases this with h1 | h1 <;> rw [h1] at hat
      · rw [hat] at q1; omega
      · rw [hat] at q2; omega
  · rw [e]
    rcases Nat.lt_or_ge 3 a.length with h | h
    · exact h
    · have : a.length = 1 ∨ a.length = 2 ∨ a.length = 3 := by omega
      rcases this with h1 | h1 | h1 <;> rw [h1] at hat
      · rw [hat] at q1; omega
      · rw [hat] at q2; omega
      · rw [hat] at q3; omega

theorem valid_split (n : Nat) : ∀ (a b : List UInt8) (c : UInt8), a.length ≤ n → c.toNat < 128 → validD (a ++ c :: b) = true → validD a = true ∧ validD b = true := by
  induction n with
  | zero =>
    intro a b c hn hc hv
    have : a = [] := List.eq_nil_of_length_eq_zero (by omega)
    subst this
    rw [List.nil_append, Lib.validD_cons c b hc] at hv
    exact ⟨rfl, hv⟩
  | succ n ih =>
    intro a b c hn hc hv
    by_cases hne : a = []
    · subst hne
      rw [List.nil_append, Lib.validD_cons c b hc] at hv
      exact ⟨rfl, hv⟩
    · have hL : a ++ c :: b ≠ [] := by simp
      have hs := Lib.validD_step _ hL
      rw [hv] at hs
      have hok : ¬ ((decodeL (a ++ c :: b)).1 = 65533 ∧ (decodeL (a ++ c :: b)).2 = 1) := fun h => by rw [if_pos h] at hs; cases hs
      rw [if_neg hok] at hs
      have hle := decode_short a b c hc hne hok
      have hw := Lib.decodeL_width (a ++ c :: b)
      have henc := Lib.encode_decode _ hL hok
      have hch := decode_char (a ++ c :: b)
      generalize (decodeL (a ++ c :: b)).2 = k at *
      generalize ((decodeL (a ++ c :: b)).1 : Int) = x at *
      rw [List.drop_append_of_le_length hle] at hs
      rw [List.take_append_of_le_length hle] at henc
      obtain ⟨i1, i2⟩ := ih (a.drop k) b c (by rw [List.length_drop]; omega) hc hs.symm
      refine ⟨?_, i2⟩
      rw [← List.take_append_drop k a, ← henc, EncT.enc hch]
      exact i1
theorem valid_behind {a b : List UInt8} {c : UInt8} (hc : c.toNat < 128) (h : validD (a ++ c :: b) = true) : validD b = true := (valid_split a.length a b c (Nat.le_refl _) hc h).2

theorem valid_trim (l : List UInt8) : validD (trimLeftB l 32) = validD l := by
  unfold trimLeftB
  induction l with
  | nil => rfl
  | cons c r ih =>
    by_cases h : (c == 32) = true
    · rw [List.dropWhile_cons, if_pos h, ih]
      have : c = 32 := by simpa using h
      subst this
      exact (Lib.validD_cons 32 r (by decide)).symm
    · rw [List.dropWhile_cons, if_neg h]

/-- Behind some bytes below 128, one at least. -/
theorem valid_drop {l : List UInt8} {k : Nat} (hk : 0 < k) (hkl : k ≤ l.length) (hlast : ∀ c, l[k - 1]? = some c → c.toNat < 128) (h : validD l = true) : validD (l.drop k) = true := by
  have hlt : k - 1 < l.length := by omega
  have e : l = l.take (k - 1) ++ l[k - 1] :: l.drop k := by
    have h1 := List.drop_eq_getElem_cons hlt
    rw [show k - 1 + 1 = k from by omega] at h1
    rw [← h1, List.take_append_drop]
  rw [e] at h
  exact valid_behind (hlast _ (List.getElem?_eq_getElem hlt)) h

theorem digB_ascii {c : UInt8} (h : digB c = true) : c.toNat < 128 := by have := digB_iff h; omega

theorem valid_numLeft {l : List UInt8} (hn : numB l = true) (h : validD l = true) : validD (numLeft l) = true := by
  have hb := numDigs_ne hn
  have hd := numDigs_all l
  have hbody : validD (numBody l) = true := by
    unfold numBody
    split
    · rename_i hm
      unfold minusB Lib.hasPrefix at hm
      obtain ⟨t, ht⟩ := List.isPrefixOf_iff_prefix.1 hm
      rw [← ht] at h ⊢
      have := EncT.enc (c := 175) (by decide) t
      rw [enc_minus] at this
      rw [this] at h
      exact h
    · exact h
  unfold numLeft
  unfold numDigs at hb hd
  generalize digLen (numBody l) = k at *
  have hk : 0 < k := by
    rcases Nat.eq_zero_or_pos k with rfl | h
    · simp at hb
    · exact h
  rcases Nat.lt_or_ge (numBody l).length k with h1 | h1
  · rw [List.drop_eq_nil_of_le (by omega)]; rfl
  · refine valid_drop hk h1 (fun c hc => digB_ascii (hd c ?_)) hbody
    obtain ⟨h2, rfl⟩ := List.getElem?_eq_some_iff.1 hc
    rw [List.mem_take_iff_getElem]
    exact ⟨k - 1, by omega, rfl⟩

theorem valid_nums (f : Nat) (l : List UInt8) (h : validD l = true) : validD (numsFrom f l).2.1 = true := by
  induction f generalizing l with
  | zero => exact h
  | succ f ih =>
    rw [numsFrom]
    split
    · rename_i hn
      exact ih _ (by rw [valid_trim]; exact valid_numLeft hn h)
    · exact h

theorem quoted_part (n : Nat) : ∀ (r rest : List UInt8), r.length ≤ n → (quoted r).2 = some rest → ∃ a, r = a ++ 39 :: rest := by
  induction n with
  | zero =>
    intro r rest hn h
    have : r = [] := List.eq_nil_of_length_eq_zero (by omega)
    subst this
    rw [quoted_nil] at h; cases h
  | succ n ih =>
    intro r rest hn h
    cases r with
    | nil => rw [quoted_nil] at h; cases h
    | cons c r =>
      rw [quoted_cons] at h
      by_cases hc : c = 39
      · rw [if_pos hc] at h
        subst hc
        cases r with
        | nil => cases h; exact ⟨[], rfl⟩
        | cons d r' =>
          simp only at h
          by_cases hd : d = 39
          · rw [if_pos hd] at h
            obtain ⟨a, ha⟩ := ih r' rest (by simp at hn; omega) h
            exact ⟨39 :: d :: a, by rw [ha]; rfl⟩
          · rw [if_neg hd] at h; cases h; exact ⟨[], rfl⟩
      · rw [if_neg hc] at h
        obtain ⟨a, ha⟩ := ih r rest (by simp at hn; omega) h
        exact ⟨c :: a, by rw [ha]; rfl⟩

theorem readTok_num {L : List UInt8} (h : numB L = true) : readTok L = (⟨1, [], numsArr (numsFrom L.length L).1⟩, (numsFrom L.length L).2.1, (numsFrom L.length L).2.2) := by
  unfold readTok; rw [if_pos h]
theorem readTok_name {c : UInt8} {r : List UInt8} (h : numB (c :: r) = false) (h39 : c ≠ 39) (hl : letB c = true) :
    readTok (c :: r) = (⟨2, (c :: r).take (nameLen (c :: r)), noArr⟩, (c :: r).drop (nameLen (c :: r)), decide (12 < nameLen (c :: r))) := by
  unfold readTok; rw [if_neg (by rw [h]; simp)]; simp only [if_neg h39, if_pos hl]
theorem readTok_gly {c : UInt8} {r : List UInt8} (h : numB (c :: r) = false) (h39 : c ≠ 39) (hl : letB c = false) :
    readTok (c :: r) = (⟨3, glyTxt (c :: r), noArr⟩, (c :: r).drop (chLen (c :: r)), !Lib.contains glyphsL (glyTxt (c :: r))) := by
  unfold readTok; rw [if_neg (by rw [h]; simp)]; simp only [if_neg h39, hl, Bool.false_eq_true, if_false]
theorem chLen_L (L : List UInt8) (h : L ≠ []) : chLen L = (Lib.decodeL L).2 := by
  unfold chLen Lib.decodeGo
  rw [if_neg (by rw [bs_size]; have := List.length_pos_iff.2 h; omega), decode_drop, List.drop_zero]

theorem nameLen_facts {c : UInt8} {r : List UInt8} (hl : letB c = true) : 0 < nameLen (c :: r) ∧ nameLen (c :: r) ≤ (c :: r).length ∧ ∀ x ∈ (c :: r).take (nameLen (c :: r)), innB x = true := by
  have e : (c :: r).take (nameLen (c :: r)) = (c :: r).takeWhile innB := by
    unfold nameLen
    conv => lhs; rw [← List.takeWhile_append_dropWhile (p := innB) (l := c :: r)]
    rw [List.take_left']
    rw [List.takeWhile_append_dropWhile]
  refine ⟨?_, ?_, fun x hx => by rw [e] at hx; exact tw_all innB _ _ hx⟩
  · unfold nameLen; rw [List.takeWhile_cons, if_pos (by unfold innB; rw [hl]; rfl)]; simp
  · unfold nameLen; exact (List.takeWhile_sublist _).length_le

/-- What is left behind a token is UTF-8. -/
theorem valid_left {L : List UInt8} (hne : L ≠ []) (h : validD L = true) (hb : (readTok L).2.2 = false) : validD (readTok L).2.1 = true := by
  by_cases hn : numB L = true
  · rw [readTok_num hn]; exact valid_nums _ _ h
  · have hn : numB L = false := by simpa using hn
    obtain ⟨c, r, rfl⟩ := List.exists_cons_of_ne_nil hne
    by_cases h39 : c = 39
    · subst h39
      rw [readTok_39] at hb ⊢
      simp only at hb ⊢
      cases hq : (quoted r).2 with
      | none => rw [hq] at hb; cases hb
      | some rest =>
        obtain ⟨a, ha⟩ := quoted_part r.length r rest (Nat.le_refl _) hq
        rw [ha] at h
        exact valid_behind (a := 39 :: a) (c := 39) (by decide) h
    · cases hl : letB c with
      | true =>
        rw [readTok_name hn h39 hl]
        obtain ⟨n1, n2, n3⟩ := nameLen_facts (r := r) hl
        refine valid_drop n1 n2 (fun x hx => innB_ascii (n3 x ?_)) h
        obtain ⟨h2, rfl⟩ := List.getElem?_eq_some_iff.1 hx
        rw [List.mem_take_iff_getElem]
        exact ⟨nameLen (c :: r) - 1, by omega, rfl⟩
      | false =>
        rw [readTok_gly hn h39 hl]
        simp only
        rw [chLen_L _ hne]
        have hs := Lib.validD_step _ hne
        rw [h] at hs
        split at hs
        · cases hs
        · exact hs.symm
end Go.Proofs.YtijfnnjgcgmnaaaGreatDoor

namespace Go.Proofs.YtijfnnjgcgmnaaaGreatDoor
open Go.RowKit Go.Shelf
open Go.Lib (decodeL decodeN encodeRune decDigits trimLeftB validD)
set_option linter.unusedVariables false
set_option linter.unusedSimpArgs false

theorem count_len (n : Nat) (h : n ≤ 4096) : count (if n = 1 then [] else [(n : Int)]) = some (n : Int) := by
  by_cases h1 : n = 1
  · rw [if_pos h1, h1]; rfl
  · rw [if_neg h1, count_one, if_neg (by omega)]

theorem nums_canV {xs : List Int} (hne : xs ≠ []) (h : xs.length ≤ 4096) : canV (numsArr xs) = true := by
  have h0 : 0 < xs.length := List.length_pos_iff.2 hne
  unfold canV okArr numsArr
  simp only
  rw [count_len _ h]
  by_cases h1 : xs.length = 1
  · simp [h1]
  · rw [if_neg h1]
    simp [h1]; omega
theorem chrs_canV {xs : List Int} (hc : ∀ c ∈ xs, isChar c = true) (h : xs.length ≤ 4096) : canV (chrsArr xs) = true := by
  unfold canV okArr chrsArr
  simp only
  rw [count_len _ h]
  have ho : hasOdd xs = false := by unfold hasOdd; rw [List.any_eq_false]; intro c hc'; rw [hc c hc']; simp
  by_cases h1 : xs.length = 1
  · simp [h1, ho]
  · rw [if_neg h1]
    simp [h1, ho]

theorem runesL_char (f : Nat) (l : List UInt8) : ∀ c ∈ runesL f l, isChar c = true := by
  induction f generalizing l with
  | zero => intro c hc; cases hc
  | succ f ih =>
    rw [runesL]
    split
    · intro c hc; cases hc
    · intro c hc
      rcases List.mem_cons.1 hc with rfl | hc
      · exact decode_char l
      · exact ih _ c hc
theorem isChar_rng {c : Int} (h : isChar c = true) : -9223372036854775808 ≤ c ∧ c ≤ 9223372036854775807 := by
  have := isChar_cases h; omega
theorem rng_of {xs : List Int} (h : ∀ x ∈ xs, -9223372036854775808 ≤ x ∧ x ≤ 9223372036854775807) : Rng xs := by
  intro i hi
  rw [List.getElem?_eq_getElem hi]
  exact h _ (List.getElem_mem hi)

theorem numVal_rngL {l : List UInt8} (hn : numB l = true) (h : numBad l = false) : -9223372036854775808 ≤ numVal l ∧ numVal l ≤ 9223372036854775807 := by
  rw [(num_same hn).2 h]
  unfold refVal
  split <;> unfold wrap64 <;> omega
theorem nums_facts (f : Nat) (l : List UInt8) (h : (numsFrom f l).2.2 = false) (hf : l.length ≤ f) : (∀ x ∈ (numsFrom f l).1, -9223372036854775808 ≤ x ∧ x ≤ 9223372036854775807) ∧ numB (numsFrom f l).2.1 = false := by
  induction f generalizing l with
  | zero =>
    have : l = [] := List.eq_nil_of_length_eq_zero (by omega)
    subst this
    exact ⟨fun x hx => (by cases hx), rfl⟩
  | succ f ih =>
    rw [numsFrom] at h ⊢
    split at h
    · rename_i hn
      rw [if_pos hn]
      simp only [Bool.or_eq_false_iff] at h
      have h1 := numLeft_lt hn
      have h2 := trimLeft_len (numLeft l) 32
      obtain ⟨i1, i2⟩ := ih _ h.2 (by omega)
      refine ⟨fun x hx => ?_, i2⟩
      rcases List.mem_cons.1 hx with rfl | hx
      · exact numVal_rngL hn h.1
      · exact i1 x hx
    · rename_i hn
      rw [if_neg hn]
      exact ⟨fun x hx => (by cases hx), by simpa using hn⟩
theorem nums_trimmed (f : Nat) (l : List UInt8) (h : trimLeftB l 32 = l) : trimLeftB (numsFrom f l).2.1 32 = (numsFrom f l).2.1 := by
  induction f generalizing l with
  | zero => exact h
  | succ f ih =>
    rw [numsFrom]
    split
    · exact ih _ (trimLeft_idem _)
    · exact h

theorem name_good {c : UInt8} {r : List UInt8} (hl : letB c = true) (h12 : nameLen (c :: r) ≤ 12) : namB (bs ((c :: r).take (nameLen (c :: r)))) = true := by
  obtain ⟨n1, n2, n3⟩ := nameLen_facts (r := r) hl
  generalize nameLen (c :: r) = n at *
  obtain ⟨n, rfl⟩ : ∃ k, n = k + 1 := ⟨n - 1, by omega⟩
  have hlen : ((c :: r).take (n + 1)).length = n + 1 := by rw [List.length_take]; omega
  have htw : ((c :: r).take (n + 1)).takeWhile innB = (c :: r).take (n + 1) := by
    have := tw_pre (p := innB) (a := (c :: r).take (n + 1)) (r := []) n3 (fun c s e => by cases e)
    rw [List.append_nil] at this; exact this
  unfold namB frontOf
  rw [bs_size, bs_list, htw, hlen]
  have hb : bt (bs ((c :: r).take (n + 1))) 0 = c := by unfold bt; rw [bs_list]; rfl
  rw [hb, hl]
  simp; omega

/-- A token that is told is good. -/
theorem told_good {L : List UInt8} (hne : L ≠ []) (hv : validD L = true) (hb : (readTok L).2.2 = false) (h4 : decide (4096 < (readTok L).1.val.elems.length) = false) : Good (readTok L).1 := by
  by_cases hn : numB L = true
  · rw [readTok_num hn] at hb h4 ⊢
    have h4' : (numsFrom L.length L).1.length ≤ 4096 := Nat.le_of_not_lt (of_decide_eq_false h4)
    obtain ⟨i1, i2⟩ := nums_facts _ _ hb (Nat.le_refl _)
    refine .inl ⟨rfl, rfl, nums_canV ?_ h4', rng_of i1⟩
    cases L with
    | nil => exact absurd rfl hne
    | cons c r => rw [show (c :: r).length = r.length + 1 from rfl, numsFrom, if_pos hn]; simp
  · have hn : numB L = false := by simpa using hn
    obtain ⟨c, r, rfl⟩ := List.exists_cons_of_ne_nil hne
    by_cases h39 : c = 39
    · subst h39
      rw [readTok_39] at h4 ⊢
      have h4' : (runesOf (bs (quoted r).1)).length ≤ 4096 := Nat.le_of_not_lt (of_decide_eq_false h4)
      rw [runesOf_list] at h4' ⊢
      have hc := runesL_char (quoted r).1.length (quoted r).1
      exact .inl ⟨rfl, rfl, chrs_canV hc h4', rng_of fun x hx => isChar_rng (hc x hx)⟩
    · cases hl : letB c with
      | true =>
        rw [readTok_name hn h39 hl] at hb ⊢
        simp only [decide_eq_false_iff_not] at hb
        exact .inr (.inl ⟨rfl, name_good hl (by omega), rfl⟩)
      | false =>
        rw [readTok_gly hn h39 hl] at hb ⊢
        simp only [Bool.not_eq_false'] at hb
        refine .inr (.inr ⟨rfl, ?_, rfl⟩)
        have hs := Lib.validD_step _ hne
        rw [hv] at hs
        have hok : ¬ ((decodeL (c :: r)).1 = 65533 ∧ (decodeL (c :: r)).2 = 1) := fun h => by rw [if_pos h] at hs; cases hs
        have hch := char_decoded _ hne hok
        unfold glyTxt at hb ⊢
        rw [chLen_L _ hne] at hb ⊢
        simp only
        split at hb
        · rename_i h; simp only [h, if_true]; decide
        · rename_i h
          simp only [h, if_false]
          rw [contains_glyphs hch, decide_eq_true_eq] at hb
          exact hb

/-- Behind a token that is a list of numbers no number stands. -/
theorem told_next {L : List UInt8} (hb : (readTok L).2.2 = false) (hk : isNumT (readTok L).1 = true) (ht : trimLeftB L 32 = L) : numB (trimLeftB (readTok L).2.1 32) = false := by
  by_cases hn : numB L = true
  · rw [readTok_num hn] at hb ⊢
    simp only at hb ⊢
    rw [nums_trimmed _ _ ht]
    exact (nums_facts _ _ hb (Nat.le_refl _)).2
  · exfalso
    have hn : numB L = false := by simpa using hn
    cases L with
    | nil => unfold readTok at hb; rw [if_neg (by rw [hn]; simp)] at hb; cases hb
    | cons c r =>
      by_cases h39 : c = 39
      · subst h39; rw [readTok_39] at hk; cases hk
      · cases hl : letB c with
        | true => rw [readTok_name hn h39 hl] at hk; cases hk
        | false => rw [readTok_gly hn h39 hl] at hk; cases hk

theorem told_notNum {L : List UInt8} (hn : numB L = false) : isNumT (readTok L).1 = false := by
  cases L with
  | nil => unfold readTok; rw [if_neg (by rw [hn]; simp)]; rfl
  | cons c r =>
    by_cases h39 : c = 39
    · subst h39; rw [readTok_39]; rfl
    · cases hl : letB c with
      | true => rw [readTok_name hn h39 hl]; rfl
      | false => rw [readTok_gly hn h39 hl]; rfl

/-- WHAT IS TOLD CAN BE SHOWN. -/
theorem toks_chain (f : Nat) : ∀ (l : List UInt8), l.length < f → validD l = true → (toksFrom f l).2.1 = false → (toksFrom f l).2.2 = false → Chain (toksFrom f l).1 ∧ ∀ u s, (toksFrom f l).1 = u :: s → numB (trimLeftB l 32) = false → isNumT u = false := by
  induction f with
  | zero => intro l h; omega
  | succ f ih =>
    intro l hf hv h1 h2
    rw [toksFrom] at h1 h2 ⊢
    by_cases he : trimLeftB l 32 = []
    · rw [if_pos he]; exact ⟨trivial, fun u s e => by cases e⟩
    · rw [if_neg he] at h1 h2 ⊢
      have hvt : validD (trimLeftB l 32) = true := by rw [valid_trim]; exact hv
      have hlt := trimLeft_len l 32
      have hrl : (readTok (trimLeftB l 32)).2.1.length < (trimLeftB l 32).length := by
        cases h : trimLeftB l 32 with
        | nil => exact absurd h he
        | cons c r => exact readTok_lt
      by_cases hb : (readTok (trimLeftB l 32)).2.2 = true
      · simp only [hb, if_true] at h1; cases h1
      · have hb : (readTok (trimLeftB l 32)).2.2 = false := by simpa using hb
        simp only [hb, Bool.false_eq_true, if_false, Bool.or_eq_false_iff] at h1 h2 ⊢
        obtain ⟨c1, c2⟩ := ih _ (by omega) (valid_left he hvt hb) h1 h2.2
        refine ⟨⟨told_good he hvt hb h2.1, fun u s e hk => c2 u s e (told_next hb hk (trimLeft_idem l)), c1⟩, fun u s e hn => ?_⟩
        cases e
        exact told_notNum hn

theorem tokens_chain {l : List UInt8} (h : (tokensOf l).2 = 0) : Chain (tokensOf l).1 ∧ (tokensOf l).1.length ≤ 4000 := by
  unfold tokensOf at h ⊢
  by_cases hv : validD l = false
  · rw [if_pos hv] at h; cases h
  · rw [if_neg hv] at h ⊢
    have hv : validD l = true := by simpa using hv
    have hc := toks_chain (l.length + 1) l (by omega) hv
    generalize toksFrom (l.length + 1) l = T at *
    obtain ⟨T, b, m⟩ := T
    simp only at h hc ⊢
    cases b with
    | true => cases h
    | false =>
      rw [if_neg (by simp)] at h ⊢
      by_cases hm : m = true ∨ 4000 < T.length
      · rw [if_pos hm] at h; cases h
      · rw [if_neg hm] at h ⊢
        simp only [not_or, Bool.not_eq_true] at hm
        exact ⟨(hc rfl hm.1).1, by simp only; omega⟩

end Go.Proofs.YtijfnnjgcgmnaaaGreatDoor

namespace Go.Proofs.YtijfnnjgcgmnaaaGreatDoor
open Go.RowKit Go.Shelf
open Go.Lib (decodeL decodeN encodeRune decDigits trimLeftB validD)
set_option linter.unusedVariables false
set_option linter.unusedSimpArgs false

end Go.Proofs.YtijfnnjgcgmnaaaGreatDoor

namespace Go.Proofs.YtijfnnjgcgmnaaaGreatDoor
open Go.RowKit Go.Shelf
set_option linter.unusedVariables false
set_option linter.unusedSimpArgs false

def seg (l : List UInt8) (f i : Nat) : List UInt8 := (l.take i).drop f

end Go.Proofs.YtijfnnjgcgmnaaaGreatDoor
