/- What is shown of a statement's tokens: its text and its length. Plain. -/
import Derived.Test.YtijfnnjgcgmnaaaGreatDoorShow
namespace Go.Proofs.YtijfnnjgcgmnaaaGreatDoor
open Go.RowKit Go.Shelf
open Go.Lib (decodeL decodeN encodeRune decDigits trimLeftB validD)
set_option linter.unusedVariables false
set_option linter.unusedSimpArgs false

theorem gly_one : ∀ g ∈ glyChars, Lib.runeCount (bs g) = 1 ∧ Lib.contains glyphsL g = true ∧ g ≠ [] := by decide +kernel

theorem Good.shwOf {t : Tok} (h : Good t) : Proofs.YtijfnnjgcgmnaaaGreatDoor.shwOf t = shw t := by
  have hne : shw t ≠ [] := by
    obtain ⟨c, s, e, -⟩ := h.head []
    rw [List.append_nil] at e
    rw [e]; simp
  have hch : chosen t = shw t := by
    unfold chosen shw
    rcases h with ⟨k, tx, hc, hr⟩ | ⟨k, hn, hv⟩ | ⟨k, hg, hv⟩
    · rw [if_pos k, if_pos k]
      obtain ⟨h1, -, h2, -⟩ := canV_parts hc
      unfold valTxt textRes
      rw [if_pos hc, if_pos h1, h2]
    · have kn : ¬ t.kind = 1 := by omega
      rw [if_neg kn, if_neg kn, if_pos (Or.inl ⟨k, hn⟩)]
    · have kn : ¬ t.kind = 1 := by omega
      rw [if_neg kn, if_neg kn, if_pos (Or.inr ⟨k, (gly_one _ hg).1, (gly_one _ hg).2.1⟩)]
  unfold Proofs.YtijfnnjgcgmnaaaGreatDoor.shwOf
  rw [hch, if_neg hne]
theorem Chain.good {T : List Tok} (h : Chain T) : ∀ t ∈ T, Good t := by
  induction T with
  | nil => intro t ht; cases ht
  | cons u r ih =>
    intro t ht
    rcases List.mem_cons.1 ht with rfl | ht
    · exact h.1
    · exact ih h.2.2 t ht
theorem Chain.join {T : List Tok} (h : Chain T) : Lib.join (T.map Proofs.YtijfnnjgcgmnaaaGreatDoor.shwOf) [32] = shText T := by
  rw [← join_shText]
  congr 1
  exact List.map_congr_left fun t ht => (h.good t ht).shwOf

theorem Good.txt_len {t : Tok} (h : Good t) : t.txt.length ≤ 12 := by
  rcases h with ⟨k, tx, hc, hr⟩ | ⟨k, hn, hv⟩ | ⟨k, hg, hv⟩
  · rw [tx]; simp
  · exact (namB_parts hn).2.2
  · have : ∀ g ∈ glyChars, g.length ≤ 12 := by decide +kernel
    exact this _ hg

theorem dec_len (k : Nat) : ∀ n, n < 10 ^ (k + 1) → (decDigits n).length ≤ k + 1 := by
  induction k with
  | zero =>
    intro n h
    rw [Lib.decDigits, dif_pos (by omega)]; simp
  | succ k ih =>
    intro n h
    rw [Lib.decDigits]
    split
    · simp
    · rw [List.length_append]
      have := ih (n / 10) (by rw [Nat.pow_succ] at h; omega)
      simp; omega
theorem val_lt (ds : List UInt8) (h : ∀ c ∈ ds, digB c = true) : ∀ a, valFrom a ds < (a + 1) * 10 ^ ds.length := by
  induction ds with
  | nil => intro a; show a < (a + 1) * 1; omega
  | cons c r ih =>
    intro a
    have hd := digB_iff (h c (by simp))
    have := ih (fun x hx => h x (by simp [hx])) (a * 10 + (c.toNat - 48))
    show valFrom (a * 10 + (c.toNat - 48)) r < _
    refine Nat.lt_of_lt_of_le this ?_
    rw [List.length_cons, Nat.pow_succ, Nat.mul_comm (10 ^ r.length) 10, ← Nat.mul_assoc]
    exact Nat.mul_le_mul_right _ (by omega)

theorem numLeft_len (l : List UInt8) : (numLeft l).length + (numDigs l).length + (if minusB l = true then 2 else 0) = l.length := by
  have h1 : (numDigs l).length + (numLeft l).length = (numBody l).length := by
    unfold numDigs numLeft
    rw [← List.length_append, List.take_append_drop]
  have h2 : (numBody l).length + (if minusB l = true then 2 else 0) = l.length := by
    unfold numBody
    split
    · rename_i hm
      unfold minusB Lib.hasPrefix at hm
      have := (List.isPrefixOf_iff_prefix.1 hm).length_le
      simp only [List.length_cons, List.length_nil, List.length_drop] at this ⊢; omega
    · rfl
  omega
theorem dig_le {l : List UInt8} (hn : numB l = true) (hb : numBad l = false) : (dig (numVal l)).length + (numLeft l).length ≤ l.length := by
  have ha := numDigs_all l
  have hne := numDigs_ne hn
  obtain ⟨e1, e2⟩ := num_same hn
  have e3 := e2 hb
  rw [hb] at e1
  obtain ⟨i1, i2, i3⟩ := refNum_inv ha
  have hlen := numLeft_len l
  have h0 : 0 < (numDigs l).length := List.length_pos_iff.2 hne
  have hlt := val_lt (numDigs l) ha 0
  rw [Nat.zero_add, Nat.one_mul] at hlt
  have hd := dec_len ((numDigs l).length - 1) (valFrom 0 (numDigs l)) (by rw [show (numDigs l).length - 1 + 1 = (numDigs l).length from by omega]; exact hlt)
  rw [e3]
  unfold refVal
  unfold refFits at e1
  generalize refNum (numDigs l) = s at *
  obtain ⟨f, n⟩ := s
  simp only at i1 i2 i3 e1 ⊢
  cases f with
  | false => simp at e1
  | true =>
    have hnv := i1 rfl
    subst hnv
    cases hm : minusB l
    · rw [hm] at e1 hlen
      simp only [Bool.false_eq_true, if_false, Bool.true_and] at e1 hlen ⊢
      have hle : valFrom 0 (numDigs l) ≤ 9223372036854775807 := by simpa using e1.symm
      rw [show wrap64 ((valFrom 0 (numDigs l) : Nat) : Int) = ((valFrom 0 (numDigs l) : Nat) : Int) from by unfold wrap64; omega]
      unfold dig
      rw [if_neg (by omega), Int.toNat_natCast]
      omega
    · rw [hm] at e1 hlen
      simp only [if_true, Bool.true_and] at e1 hlen ⊢
      have hle : valFrom 0 (numDigs l) ≤ 9223372036854775808 := by simpa using e1.symm
      rw [show wrap64 (-((valFrom 0 (numDigs l) : Nat) : Int)) = -((valFrom 0 (numDigs l) : Nat) : Int) from by unfold wrap64; omega]
      unfold dig
      split
      · simp only [List.length_cons, Int.natAbs_neg, Int.natAbs_natCast]; omega
      · have : valFrom 0 (numDigs l) = 0 := by omega
        rw [this] at hd ⊢
        simp only [Int.natCast_zero, Int.neg_zero, Int.toNat_zero]; omega

/-- What numbers take when shown, each with a blank. -/
def numsLen (xs : List Int) : Nat := (xs.map fun x => (dig x).length + 1).sum
theorem join_len (xs : List Int) : (Lib.join (xs.map dig) [32]).length ≤ numsLen xs := by
  unfold numsLen
  induction xs with
  | nil => rw [show Lib.join (([] : List Int).map dig) [32] = [] from rfl]; simp
  | cons x r ih =>
    cases r with
    | nil => rw [List.map_cons, List.map_nil, Lib.join_one]; simp
    | cons y r =>
      rw [List.map_cons, List.map_cons, join_cons2, ← List.map_cons, List.length_append, List.length_cons]
      simp only [List.map_cons, List.sum_cons] at ih ⊢
      omega
theorem nums_len (f : Nat) : ∀ l : List UInt8, (numsFrom f l).2.2 = false → numsLen (numsFrom f l).1 + 2 * (numsFrom f l).2.1.length ≤ 2 * l.length := by
  induction f with
  | zero => intro l h; rw [numsFrom]; simp [numsLen]
  | succ f ih =>
    intro l h
    rw [numsFrom] at h ⊢
    split at h
    · rename_i hn
      rw [if_pos hn]
      simp only [Bool.or_eq_false_iff] at h ⊢
      have h1 := dig_le hn h.1
      have h2 := trimLeft_len (numLeft l) 32
      have h3 := ih _ h.2
      have h4 := numLeft_lt hn
      unfold numsLen at h3 ⊢
      rw [List.map_cons, List.sum_cons]
      have h5 : 0 < (dig (numVal l)).length := List.length_pos_iff.2 (dig_ne _)
      omega
    · rename_i hn
      rw [if_neg hn]; simp [numsLen]

theorem runesL_len (f : Nat) : ∀ l : List UInt8, (runesL f l).length ≤ l.length := by
  induction f with
  | zero => intro l; simp [runesL]
  | succ f ih =>
    intro l
    rw [runesL]
    split
    · simp
    · rename_i hne
      have := Lib.decodeL_width l
      have h2 := ih (l.drop (decodeL l).2)
      have h3 : 0 < l.length := List.length_pos_iff.2 hne
      rw [List.length_drop] at h2
      rw [List.length_cons]
      omega
theorem quotedQ_len (r : List UInt8) : ∀ (q : Bool) (rest : List UInt8), (quotedQ q r).2 = some rest → (quotedQ q r).1.length + rest.length + (if q = true then 0 else 1) ≤ r.length := by
  induction r with
  | nil =>
    intro q rest h
    cases q with
    | false => cases h
    | true => cases h; simp [quotedQ]
  | cons c r ih =>
    intro q rest h
    cases q with
    | false =>
      rw [quotedQ] at h ⊢
      split at h
      · rename_i hc
        rw [if_pos hc]
        have := ih true rest h
        simp only [if_true, Bool.false_eq_true, if_false, List.length_cons] at this ⊢; omega
      · rename_i hc
        rw [if_neg hc]
        have := ih false rest h
        simp only [Bool.false_eq_true, if_false, List.length_cons] at this ⊢; omega
    | true =>
      rw [quotedQ] at h ⊢
      split at h
      · rename_i hc
        rw [if_pos hc]
        have := ih false rest h
        simp only [Bool.false_eq_true, if_false, if_true, List.length_cons] at this ⊢; omega
      · rename_i hc
        rw [if_neg hc]
        cases h
        simp

/-- A token that is told, shown, is at most eight times as long as what it was told of. -/
theorem told_len {L : List UInt8} (hne : L ≠ []) (hv : validD L = true) (hb : (readTok L).2.2 = false) (h4 : decide (4096 < (readTok L).1.val.elems.length) = false) : (shw (readTok L).1).length + 8 * (readTok L).2.1.length ≤ 8 * L.length := by
  have hlt : (readTok L).2.1.length < L.length := by
    cases L with
    | nil => exact absurd rfl hne
    | cons c r => exact readTok_lt
  by_cases hn : numB L = true
  · rw [readTok_num hn] at hb hlt ⊢
    have h1 := nums_len _ _ hb
    have h2 := join_len (numsFrom L.length L).1
    have h3 := numsFrom_left L.length L
    unfold shw
    rw [if_pos rfl]
    unfold elemText numsArr
    simp only
    rw [if_neg (by decide)]
    split
    · simp only [List.length_cons, List.length_nil] at hlt ⊢; omega
    · simp only at hlt ⊢; omega
  · have hn : numB L = false := by simpa using hn
    obtain ⟨c, r, rfl⟩ := List.exists_cons_of_ne_nil hne
    by_cases h39 : c = 39
    · subst h39
      rw [readTok_39] at hb ⊢
      simp only at hb ⊢
      cases hq : (quoted r).2 with
      | none => rw [hq] at hb; cases hb
      | some rest =>
        have h1 := quotedQ_len r false rest hq
        rw [show quotedQ false r = quoted r from rfl] at h1
        unfold shw
        rw [if_pos rfl]
        unfold elemText chrsArr
        simp only
        rw [if_pos trivial, runesOf_list]
        have h2 := runesL_len (quoted r).1.length (quoted r).1
        have h3 := encs_length (runesL (quoted r).1.length (quoted r).1)
        have h5 := subst_length 39 39 (encs (runesL (quoted r).1.length (quoted r).1))
        simp only [List.length_cons, List.length_append, List.length_nil, Option.getD_some, Bool.false_eq_true, if_false] at h1 ⊢
        omega
    · cases hl : letB c with
      | true =>
        rw [readTok_name hn h39 hl]
        unfold shw
        rw [if_neg (show ¬ (2 : Int) = 1 by decide)]
        simp only [List.length_take, List.length_drop]
        omega
      | false =>
        rw [readTok_gly hn h39 hl] at hb ⊢
        have hcp := chLen_pos (c := c) (r := r)
        unfold shw
        rw [if_neg (show ¬ (3 : Int) = 1 by decide)]
        simp only [List.length_drop]
        have hg : (glyTxt (c :: r)).length ≤ 3 + min (chLen (c :: r)) (c :: r).length := by
          unfold glyTxt
          split
          · simp
          · rw [List.length_take]; omega
        have h1 : 0 < (c :: r).length := by simp
        omega

def shLen (T : List Tok) : Nat := (T.map fun t => (shw t).length + 1).sum
theorem shTail_len (r : List Tok) : (shTail r).length ≤ shLen r := by
  unfold shLen
  induction r with
  | nil => simp [shTail]
  | cons t r ih =>
    show (32 :: (shw t ++ shTail r)).length ≤ _
    rw [List.map_cons, List.sum_cons, List.length_cons, List.length_append]; omega
theorem shText_len (T : List Tok) : (shText T).length ≤ shLen T := by
  cases T with
  | nil => simp [shText]
  | cons t r =>
    show (shw t ++ shTail r).length ≤ _
    have := shTail_len r
    unfold shLen at this ⊢
    rw [List.map_cons, List.sum_cons, List.length_append]; omega
theorem toks_shLen (f : Nat) : ∀ l : List UInt8, l.length < f → validD l = true → (toksFrom f l).2.1 = false → (toksFrom f l).2.2 = false → shLen (toksFrom f l).1 ≤ 9 * l.length := by
  induction f with
  | zero => intro l h; omega
  | succ f ih =>
    intro l hf hv h1 h2
    rw [toksFrom] at h1 h2 ⊢
    by_cases he : trimLeftB l 32 = []
    · rw [if_pos he]; simp [shLen]
    · rw [if_neg he] at h1 h2 ⊢
      have hvt : validD (trimLeftB l 32) = true := by rw [valid_trim]; exact hv
      have hlt := trimLeft_len l 32
      have hrl : (readTok (trimLeftB l 32)).2.1.length < (trimLeftB l 32).length := by
        cases h : trimLeftB l 32 with
        | nil => exact absurd h he
        | cons c r => exact readTok_lt
      by_cases hb : (readTok (trimLeftB l 32)).2.2 = true
      · simp only [hb, if_true] at h1; cases h1
      · have hb : (readTok (trimLeftB l 32)).2.2 = false := by simpa using hb
        simp only [hb, Bool.false_eq_true, if_false, Bool.or_eq_false_iff] at h1 h2 ⊢
        have h3 := ih _ (by omega) (valid_left he hvt hb) h1 h2.2
        have h4 := told_len he hvt hb h2.1
        unfold shLen at h3 ⊢
        rw [List.map_cons, List.sum_cons]
        omega
theorem tokens_len {l : List UInt8} (h : (tokensOf l).2 = 0) : (shText (tokensOf l).1).length ≤ 9 * l.length := by
  refine Nat.le_trans (shText_len _) ?_
  unfold tokensOf at h ⊢
  by_cases hv : validD l = false
  · rw [if_pos hv] at h; cases h
  · rw [if_neg hv] at h ⊢
    have hv : validD l = true := by simpa using hv
    have hc := toks_shLen (l.length + 1) l (by omega) hv
    generalize toksFrom (l.length + 1) l = T at *
    obtain ⟨T, b, m⟩ := T
    simp only at h hc ⊢
    cases b with
    | true => cases h
    | false =>
      rw [if_neg (by simp)] at h ⊢
      by_cases hm : m = true ∨ 4000 < T.length
      · rw [if_pos hm] at h; cases h
      · rw [if_neg hm] at h ⊢
        simp only [not_or, Bool.not_eq_true] at hm
        exact hc rfl hm.1
end Go.Proofs.YtijfnnjgcgmnaaaGreatDoor
