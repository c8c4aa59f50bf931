/- LexNames: what long texts are told as. Plain. -/
import Derived.Test.YtgjaajgdiggbeaaGreatDoorLAlive
namespace Go.Proofs.YtgjaajgdiggbeaaGreatDoor
open Go.RowKit Go.Shelf
open Go.Lib (encodeRune validD trimLeftB)
set_option linter.unusedVariables false
set_option linter.unusedSimpArgs false

theorem read_gly {g : List UInt8} (hg : g ∈ glyChars) (rest : List UInt8) : readTok (g ++ rest) = (⟨3, g, noArr⟩, rest, false) := by
  have hh := gly_head _ hg
  have hg' := hg
  rw [glyChars_eq] at hg'
  obtain ⟨rn, hrn, he⟩ := List.mem_map.1 hg'
  have hch := glyRunes_all rn hrn
  have hdl : chLen (g ++ rest) = g.length := by
    unfold chLen Lib.decodeGo
    have hne := enc_ne rn
    rw [he] at hne
    have : 0 < g.length := List.length_pos_iff.2 hne
    rw [if_neg (by rw [bs_size, List.length_append]; omega), decode_drop, List.drop_zero, ← he, decode_enc hch]
  cases htx : g with
  | nil => rw [htx] at hh; cases hh
  | cons c s =>
    rw [htx] at hh
    simp only [Bool.and_eq_true, Bool.not_eq_true', bne_iff_ne, ne_eq] at hh
    have hnn : numB (c :: s ++ rest) = false := numB_not hh.2.1 hh.2.2.2.1
    have hgt : glyTxt (c :: s ++ rest) = c :: s := by
      unfold glyTxt
      rw [← htx, hdl, List.take_left, if_neg (by rw [htx]; intro e; cases e; exact hh.2.2.2.2.2 rfl)]
    have hcon : Lib.contains glyphsL (c :: s) = true := by
      rw [contains_glyphs (List.all_eq_true.1 glyChars_all _ (htx ▸ hg))]
      exact decide_eq_true (htx ▸ hg)
    unfold readTok
    rw [if_neg (by rw [hnn]; simp)]
    rw [List.cons_append] at hgt ⊢
    simp only
    rw [if_neg hh.2.2.1, if_neg (by rw [hh.1]; simp), hgt, hcon]
    have hdl2 : chLen (c :: (s ++ rest)) = (c :: s).length := by rw [← htx, ← hdl, htx]; rfl
    rw [hdl2, ← List.cons_append, List.drop_left]
    rfl
theorem repeatL_one (c : UInt8) (n : Nat) : Lib.repeatL [c] n = List.replicate n c := by
  induction n with
  | zero => rfl
  | succ n ih => rw [Lib.repeatL, ih]; rfl
theorem valid_rep {c : UInt8} (hc : c.toNat < 128) (n : Nat) (r : List UInt8) : validD (List.replicate n c ++ r) = validD r := by
  induction n with
  | zero => rfl
  | succ n ih => rw [List.replicate_succ, List.cons_append, Lib.validD_cons _ _ hc, ih]
def plusT : Tok := ⟨3, [43], noArr⟩
theorem toks_plus (n : Nat) : ∀ f, n < f → toksFrom f (List.replicate n 43) = (List.replicate n plusT, false, false) := by
  induction n with
  | zero => intro f _; exact toksFrom_nil f
  | succ n ih =>
    intro f hf
    obtain ⟨f, rfl⟩ : ∃ g, f = g + 1 := ⟨f - 1, by omega⟩
    rw [List.replicate_succ, toksFrom, trim_ne _ (by decide), if_neg (by simp)]
    have hr := read_gly (g := [43]) (by decide) (List.replicate n 43)
    rw [List.singleton_append] at hr
    simp only [hr, ih f (by omega)]
    rw [if_neg (by simp)]
    rfl
theorem told_plus (n : Nat) : tokensOf (Lib.repeatL [43] n) = if 4000 < n then ([], 9) else (List.replicate n plusT, 0) := by
  have hv : validD (List.replicate n 43) = true := by
    have := valid_rep (c := 43) (by decide) n []
    rw [List.append_nil] at this; rw [this]; rfl
  rw [repeatL_one]
  unfold tokensOf
  rw [hv, if_neg (by simp)]
  simp only [List.length_replicate, toks_plus n (n + 1) (by omega)]
  by_cases h : 4000 < n
  · rw [if_pos h, if_neg (by simp), if_pos (.inr h)]
  · rw [if_neg h, if_neg (by simp), if_neg (by simp; omega)]
theorem ones (n : Nat) : Lib.repeatL [49, 32] (n + 1) = Lib.join ((List.replicate (n + 1) (1 : Int)).map dig) [32] ++ [32] := by
  induction n with
  | zero => decide +kernel
  | succ n ih =>
    rw [Lib.repeatL, ih, show List.replicate (n + 1 + 1) (1 : Int) = 1 :: 1 :: List.replicate n 1 from rfl, List.map_cons, List.map_cons, join_cons2, show List.replicate (n + 1) (1 : Int) = 1 :: List.replicate n 1 from rfl, List.map_cons, show dig 1 = [49] by decide +kernel]
    simp
theorem read_ones (n : Nat) (rest : List UInt8) (hr : numB (trimLeftB (32 :: rest) 32) = false) : readTok (Lib.repeatL [49, 32] (n + 1) ++ rest) = (⟨1, [], numsArr (List.replicate (n + 1) 1)⟩, trimLeftB (32 :: rest) 32, false) ∧ ∃ r, Lib.repeatL [49, 32] (n + 1) ++ rest = 49 :: r := by
  have hx : ∃ r, Lib.repeatL [49, 32] (n + 1) ++ rest = 49 :: r := ⟨32 :: (Lib.repeatL [49, 32] n ++ rest), by rw [Lib.repeatL]; rfl⟩
  refine ⟨?_, hx⟩
  have hnb : numB (Lib.repeatL [49, 32] (n + 1) ++ rest) = true := by
    obtain ⟨r, e⟩ := hx
    rw [e]; rfl
  have hrng : Rng (List.replicate (n + 1) (1 : Int)) := by
    intro i hi
    rw [List.length_replicate] at hi
    simp [List.getElem?_replicate, hi]
  rw [readTok_num hnb]
  have hlen : (List.replicate (n + 1) (1 : Int)).length ≤ (Lib.repeatL [49, 32] (n + 1) ++ rest).length := by
    have : ∀ m, (Lib.repeatL [49, 32] m).length = 2 * m := fun m => by
      induction m with
      | zero => rfl
      | succ m ih => rw [Lib.repeatL, List.length_append, ih]; simp; omega
    rw [List.length_append, this, List.length_replicate]; omega
  have h := nums_read (List.replicate (n + 1) 1) (by simp) hrng (32 :: rest) (fun c s e => by cases e; rfl) hr (Lib.repeatL [49, 32] (n + 1) ++ rest).length hlen
  have e : Lib.repeatL [49, 32] (n + 1) ++ rest = Lib.join ((List.replicate (n + 1) (1 : Int)).map dig) [32] ++ 32 :: rest := by rw [ones, List.append_assoc]; rfl
  rw [e] at h ⊢
  rw [h]
theorem valid_ones (n : Nat) (r : List UInt8) : validD (Lib.repeatL [49, 32] n ++ r) = validD r := by
  induction n with
  | zero => rfl
  | succ n ih =>
    rw [Lib.repeatL]
    show validD (49 :: 32 :: (Lib.repeatL [49, 32] n ++ r)) = _
    rw [Lib.validD_cons _ _ (by decide), Lib.validD_cons _ _ (by decide), ih]
theorem much_ones : decide (4096 < (numsArr (List.replicate (4096 + 1) (1 : Int))).elems.length) = true :=
  decide_eq_true (by show 4096 < (List.replicate (4096 + 1) (1 : Int)).length; rw [List.length_replicate]; omega)
theorem told_ones : tokensOf (Lib.repeatL [49, 32] 4097) = ([], 9) := by
  have hv := valid_ones 4097 []
  obtain ⟨hr, r, hc⟩ := read_ones 4096 [] (by decide)
  rw [List.append_nil] at hv hr hc
  unfold tokensOf
  rw [hv, if_neg (by decide)]
  have hf : toksFrom ((Lib.repeatL [49, 32] 4097).length + 1) (Lib.repeatL [49, 32] 4097) = ([⟨1, [], numsArr (List.replicate (4096 + 1) 1)⟩], false, true) := by
    rw [toksFrom]
    have ht : trimLeftB (Lib.repeatL [49, 32] 4097) 32 = Lib.repeatL [49, 32] 4097 := by rw [show (4097 : Nat) = 4096 + 1 from rfl, hc]; exact trim_ne _ (by decide)
    rw [ht, if_neg (by rw [show (4097 : Nat) = 4096 + 1 from rfl, hc]; simp)]
    rw [show (4097 : Nat) = 4096 + 1 from rfl, hr]
    simp only [much_ones, show trimLeftB [32] 32 = [] by decide, toksFrom_nil]
    rfl
  simp only [hf]
  rfl
theorem told_ones_at : tokensOf (Lib.repeatL [49, 32] 4097 ++ [64]) = ([], 170) := by
  have hv := valid_ones 4097 [64]
  obtain ⟨hr, r, hc⟩ := read_ones 4096 [64] (by decide)
  unfold tokensOf
  rw [hv, if_neg (by decide)]
  have hl : 2 ≤ (Lib.repeatL [49, 32] 4097 ++ [64]).length := by rw [show (4097 : Nat) = 4096 + 1 from rfl, Lib.repeatL]; simp
  obtain ⟨f, hf⟩ : ∃ f, (Lib.repeatL [49, 32] 4097 ++ [64]).length = f + 1 := by
    generalize (Lib.repeatL [49, 32] 4097 ++ [64]).length = m at hl
    exact ⟨m - 1, by omega⟩
  have hf : (toksFrom ((Lib.repeatL [49, 32] 4097 ++ [64]).length + 1) (Lib.repeatL [49, 32] 4097 ++ [64])).2.1 = true := by
    rw [toksFrom]
    have ht : trimLeftB (Lib.repeatL [49, 32] 4097 ++ [64]) 32 = Lib.repeatL [49, 32] 4097 ++ [64] := by rw [show (4097 : Nat) = 4096 + 1 from rfl, hc]; exact trim_ne _ (by decide)
    rw [ht, if_neg (by rw [show (4097 : Nat) = 4096 + 1 from rfl, hc]; simp)]
    rw [show (4097 : Nat) = 4096 + 1 from rfl, hr]
    rw [show (4097 : Nat) = 4096 + 1 from rfl] at hf
    simp only [show trimLeftB [32, 64] 32 = [64] by decide, hf]
    rw [if_neg (by simp), toksFrom, show trimLeftB [64] 32 = [64] by decide, if_neg (by simp)]
    simp only [show (readTok [64]).2.2 = true by decide +kernel]
    rfl
  simp only [hf]
  rfl
theorem told_as : tokensOf (39 :: (Lib.repeatL [97] 4097 ++ [39])) = ([], 9) := by
  have he : encs (List.replicate 4097 (97 : Int)) = List.replicate 4097 97 := by
    have : ∀ n, encs (List.replicate n (97 : Int)) = List.replicate n 97 := fun n => by
      induction n with
      | zero => rfl
      | succ n ih => rw [List.replicate_succ, encs_cons, ih, show encodeRune 97 = [97] by decide]; rfl
    exact this _
  have hch : ∀ c ∈ List.replicate 4097 (97 : Int), isChar c = true := fun c hc => by rw [List.eq_of_mem_replicate hc]; decide
  have hs : subst 39 [39, 39] (List.replicate 4097 97) = List.replicate 4097 97 := subst_id (fun h => absurd (List.eq_of_mem_replicate h) (by decide))
  rw [repeatL_one]
  have hr : readTok (39 :: (List.replicate 4097 97 ++ [39])) = (⟨1, [], chrsArr (List.replicate 4097 97)⟩, [], false) := by
    rw [readTok_39]
    have h : quoted (List.replicate 4097 97 ++ [39]) = (List.replicate 4097 97, some []) := by
      have := quoted_text (List.replicate 4097 97) [] (by simp)
      rwa [hs] at this
    rw [h]
    simp only [Option.getD_some, Option.isNone_some]
    rw [← he, runes_encs hch]
  have hv : validD (39 :: (List.replicate 4097 97 ++ [39])) = true := by
    rw [Lib.validD_cons _ _ (by decide), valid_rep (by decide)]; decide
  unfold tokensOf
  rw [hv, if_neg (by decide)]
  have hf : toksFrom ((39 :: (List.replicate 4097 97 ++ [39]) : List UInt8).length + 1) (39 :: (List.replicate 4097 97 ++ [39])) = ([⟨1, [], chrsArr (List.replicate 4097 97)⟩], false, true) := by
    rw [toksFrom, trim_ne _ (by decide), if_neg (List.cons_ne_nil _ _), hr]
    simp only [toksFrom_nil]
    rw [if_neg Bool.false_ne_true, show decide (4096 < (chrsArr (List.replicate 4097 (97 : Int))).elems.length) = true from decide_eq_true (by show 4096 < (List.replicate 4097 (97 : Int)).length; rw [List.length_replicate]; omega)]
    rfl
  simp only [hf]
  rfl
end Go.Proofs.YtgjaajgdiggbeaaGreatDoor
