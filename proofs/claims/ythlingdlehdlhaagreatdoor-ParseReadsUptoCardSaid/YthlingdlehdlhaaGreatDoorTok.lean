/- lex's reader: numbers. (Under way.)
   Numbers: the document's counting of digits against ParseInt's. Plain.
   The document's decoding is Go's. Plain.
   Tokens of a list of bytes: what is told of a statement.
   Glyphs: a character that stands somewhere in all glyphs' text is one of them. Plain.
   strings.Cut at a quote. Plain. -/
import Derived.Test.YthlingdlehdlhaaGreatDoorRd
import Derived.Test.YthlingdlehdlhaaGreatDoorChars
import Derived.Lib.DecodeN
import Derived.Lib.TrimUEq
namespace Go.Proofs.YthlingdlehdlhaaGreatDoor
open Go.RowKit Go.Shelf
set_option linter.unusedVariables false

/-- The numbers that stand here, what is left, whether one is none: by at most so many. -/
def numsFrom : Nat → List UInt8 → List Int × List UInt8 × Bool
  | 0, l => ([], l, false)
  | fuel + 1, l => if numB l = true then
      let rest := Lib.trimLeftB (numLeft l) 32
      let more := numsFrom fuel rest
      (numVal l :: more.1, more.2.1, numBad l || more.2.2)
    else ([], l, false)

theorem trimLeft_len (l : List UInt8) (c : UInt8) : (Lib.trimLeftB l c).length ≤ l.length := by
  unfold Lib.trimLeftB
  exact (List.dropWhile_sublist _).length_le

theorem digLen_pos {c : UInt8} {r : List UInt8} (h : digB c = true) : 0 < digLen (c :: r) := by
  unfold digLen; rw [List.takeWhile_cons, if_pos h]; simp

/-- Each number takes a byte at least. -/
theorem numLeft_lt {l : List UInt8} (h : numB l = true) : (numLeft l).length < l.length := by
  have key : ∀ m : List UInt8, (∃ c r, m = c :: r ∧ digB c = true) → (m.drop (digLen m)).length < m.length := by
    rintro m ⟨c, r, rfl, hc⟩
    have := digLen_pos (r := r) hc
    rw [List.length_drop]
    simp only [List.length_cons] at *
    omega
  unfold numB at h
  unfold numLeft numBody minusB
  unfold Lib.trimPrefix at h
  unfold Lib.hasPrefix at *
  by_cases hm : ([194, 175] : List UInt8).isPrefixOf l = true
  · rw [if_pos hm] at h ⊢
    cases hd : l.drop 2 with
    | nil => simp [hd] at h
    | cons c r =>
      have hc : digB c = true := by simpa [hd] using h
      have h1 := key (c :: r) ⟨c, r, rfl, hc⟩
      have h2 : (l.drop 2).length ≤ l.length := by rw [List.length_drop]; omega
      rw [hd] at h2
      omega
  · rw [if_neg hm] at h ⊢
    cases l with
    | nil => simp at h
    | cons c r => exact key (c :: r) ⟨c, r, rfl, by simpa using h⟩
end Go.Proofs.YthlingdlehdlhaaGreatDoor

namespace Go.Proofs.YthlingdlehdlhaaGreatDoor
open Go.RowKit Go.Shelf
set_option linter.unusedVariables false
set_option linter.unusedSimpArgs false

/-- What digits spell, behind what was spelt. -/
def valFrom : Nat → List UInt8 → Nat
  | a, [] => a
  | a, c :: r => valFrom (a * 10 + (c.toNat - 48)) r

theorem valFrom_ge (a : Nat) (ds : List UInt8) : a ≤ valFrom a ds := by
  induction ds generalizing a with
  | nil => exact Nat.le_refl _
  | cons c r ih =>
    have := ih (a * 10 + (c.toNat - 48))
    show a ≤ valFrom (a * 10 + (c.toNat - 48)) r
    omega

theorem digB_iff {c : UInt8} (h : digB c = true) : 48 ≤ c.toNat ∧ c.toNat ≤ 57 := by
  unfold digB at h
  rw [Bool.and_eq_true, decide_eq_true_eq, decide_eq_true_eq] at h
  exact h

theorem parseUintM_val (a : Nat) (ds : List UInt8) (h : ∀ c ∈ ds, digB c = true) (ha : a ≤ 18446744073709551615) :
    Lib.parseUintM (2 ^ 64 - 1) a ds = if valFrom a ds ≤ 18446744073709551615 then .ok (valFrom a ds) else .range := by
  induction ds generalizing a with
  | nil => show Lib.NumEnd.ok a = if a ≤ _ then _ else _; rw [if_pos ha]; rfl
  | cons c r ih =>
    have hc := digB_iff (h c (by simp))
    have hr := fun x hx => h x (List.mem_cons_of_mem _ hx)
    rw [Lib.parseUintM, if_pos hc]
    have hge := valFrom_ge (a * 10 + (c.toNat - 48)) r
    have e : valFrom a (c :: r) = valFrom (a * 10 + (c.toNat - 48)) r := rfl
    by_cases h1 : 1844674407370955162 ≤ a
    · rw [if_pos h1, if_neg (by rw [e]; omega)]
    · rw [if_neg h1]
      by_cases h2 : 2 ^ 64 - 1 < a * 10 + (c.toNat - 48)
      · rw [if_pos h2, if_neg (by rw [e]; omega)]
      · rw [if_neg h2, ih _ hr (by omega), e]

theorem parseUintB_val {ds : List UInt8} (h : ∀ c ∈ ds, digB c = true) (hne : ds ≠ []) :
    Lib.parseUintB 64 ds = if valFrom 0 ds ≤ 18446744073709551615 then .ok (valFrom 0 ds) else .range := by
  unfold Lib.parseUintB
  rw [if_neg hne, parseUintM_val 0 ds h (by omega)]

theorem parse_below {ds : List UInt8} (h : ∀ c ∈ ds, digB c = true) (hne : ds ≠ []) :
    Lib.parseIntB 64 (45 :: ds) = if valFrom 0 ds ≤ 9223372036854775808 then .ok (-(valFrom 0 ds : Int)) else .range := by
  rw [Lib.parseIntB_minus, parseUintB_val h hne]
  split
  · show (if 2 ^ (64 - 1) < valFrom 0 ds then Lib.NumEnd.range else .ok (-(valFrom 0 ds : Int))) = _
    by_cases h2 : valFrom 0 ds ≤ 9223372036854775808
    · rw [if_pos h2, if_neg (by omega)]
    · rw [if_neg h2, if_pos (by omega)]
  · rw [if_neg (by omega)]; rfl

theorem parse_above {ds : List UInt8} (h : ∀ c ∈ ds, digB c = true) (hne : ds ≠ []) :
    Lib.parseIntB 64 ds = if valFrom 0 ds ≤ 9223372036854775807 then .ok (valFrom 0 ds : Int) else .range := by
  cases ds with
  | nil => exact absurd rfl hne
  | cons c r =>
    have hc := digB_iff (h c (by simp))
    rw [Lib.parseIntB_plain 64 c r (by omega) (by omega), parseUintB_val h hne]
    split
    · show (if 2 ^ (64 - 1) ≤ valFrom 0 (c :: r) then Lib.NumEnd.range else .ok (valFrom 0 (c :: r) : Int)) = _
      by_cases h2 : valFrom 0 (c :: r) ≤ 9223372036854775807
      · rw [if_pos h2, if_neg (by omega)]
      · rw [if_neg h2, if_pos (by omega)]
    · rw [if_neg (by omega)]; rfl

/-- The document's counting: does it fit so far, what is counted. -/
def refStep (s : Bool × Nat) (c : UInt8) : Bool × Nat :=
  let s' := if 922337203685477580 < s.2 then (false, 0) else s
  (s'.1, 10 * s'.2 + (c.toNat - 48))
def refNum (ds : List UInt8) : Bool × Nat := ds.foldl refStep (true, 0)

def RefInv (s : Bool × Nat) (a : Nat) : Prop := (s.1 = true → s.2 = a) ∧ (s.1 = false → 9223372036854775808 < a) ∧ s.2 ≤ 9223372036854775809
theorem RefInv.step {s : Bool × Nat} {a : Nat} {c : UInt8} (h : RefInv s a) (hc : digB c = true) : RefInv (refStep s c) (a * 10 + (c.toNat - 48)) := by
  obtain ⟨f, n⟩ := s
  obtain ⟨h1, h2, h3⟩ := h
  have hd := digB_iff hc
  unfold refStep
  simp only at h1 h2 h3 ⊢
  by_cases hn : 922337203685477580 < n
  · rw [if_pos hn]
    refine ⟨fun h => (by cases h), fun _ => ?_, by show 10 * 0 + (c.toNat - 48) ≤ 9223372036854775809; omega⟩
    show 9223372036854775808 < a * 10 + (c.toNat - 48)
    cases f
    · have := h2 rfl; omega
    · have := h1 rfl; omega
  · rw [if_neg hn]
    refine ⟨fun h => ?_, fun h => ?_, by show 10 * n + (c.toNat - 48) ≤ 9223372036854775809; omega⟩
    · have := h1 h; show 10 * n + (c.toNat - 48) = a * 10 + (c.toNat - 48); omega
    · have := h2 h; show 9223372036854775808 < a * 10 + (c.toNat - 48); omega
theorem refInv_all (ds : List UInt8) (s : Bool × Nat) (a : Nat) (h : RefInv s a) (hd : ∀ c ∈ ds, digB c = true) : RefInv (ds.foldl refStep s) (valFrom a ds) := by
  induction ds generalizing s a with
  | nil => exact h
  | cons c r ih => exact ih _ _ (h.step (hd c (by simp))) (fun x hx => hd x (List.mem_cons_of_mem _ hx))
theorem refNum_inv {ds : List UInt8} (hd : ∀ c ∈ ds, digB c = true) : RefInv (refNum ds) (valFrom 0 ds) :=
  refInv_all ds _ _ (show (true = true → (0 : Nat) = 0) ∧ (true = false → 9223372036854775808 < 0) ∧ 0 ≤ 9223372036854775809 from ⟨fun _ => rfl, fun h => (by cases h), by omega⟩) hd

/-- What the document's counting ends with: the number, and whether it is of 64 bits. -/
def refVal (below : Bool) (s : Bool × Nat) : Int := if below = true then wrap64 (-(s.2 : Int)) else wrap64 (s.2 : Int)
def refFits (below : Bool) (s : Bool × Nat) : Bool := s.1 && decide (s.2 ≤ if below = true then 9223372036854775808 else 9223372036854775807)

def numDigs (l : List UInt8) : List UInt8 := (numBody l).take (digLen (numBody l))
theorem numDigs_eq (l : List UInt8) : numDigs l = (numBody l).takeWhile digB := by
  unfold numDigs digLen
  conv => lhs; rw [← List.takeWhile_append_dropWhile (p := digB) (l := numBody l)]
  rw [List.take_left']
  rw [List.takeWhile_append_dropWhile]
theorem numDigs_all (l : List UInt8) : ∀ c ∈ numDigs l, digB c = true := by
  rw [numDigs_eq]; exact fun c hc => tw_all digB _ _ hc
theorem numDigs_ne {l : List UInt8} (h : numB l = true) : numDigs l ≠ [] := by
  rw [numDigs_eq]
  unfold numB Lib.trimPrefix at h
  unfold numBody minusB Lib.hasPrefix
  split at h
  · cases h
  · rename_i c r he
    intro e
    have : (numBody l) = c :: r := by
      unfold numBody minusB Lib.hasPrefix
      unfold Lib.hasPrefix at he
      by_cases hp : ([194, 175] : List UInt8).isPrefixOf l = true
      · rw [if_pos hp] at he ⊢; exact he
      · rw [if_neg hp] at he ⊢; exact he
    unfold numBody minusB Lib.hasPrefix at this
    rw [this, List.takeWhile_cons, if_pos h] at e
    cases e

theorem num_same {l : List UInt8} (h : numB l = true) : numBad l = !refFits (minusB l) (refNum (numDigs l)) ∧ (numBad l = false → numVal l = refVal (minusB l) (refNum (numDigs l))) := by
  have ha := numDigs_all l
  have hn := numDigs_ne h
  obtain ⟨i1, i2, i3⟩ := refNum_inv ha
  unfold numBad numVal numTxt refFits refVal
  rw [show (numBody l).take (digLen (numBody l)) = numDigs l from rfl]
  generalize refNum (numDigs l) = s at *
  obtain ⟨f, n⟩ := s
  simp only at i1 i2 i3 ⊢
  cases hm : minusB l
  · simp only [Bool.false_eq_true, if_false, List.nil_append]
    rw [parse_above ha hn]
    cases f
    · have := i2 rfl
      rw [if_neg (by omega)]; simp
    · have := i1 rfl
      subst this
      by_cases h2 : valFrom 0 (numDigs l) ≤ 9223372036854775807
      · rw [if_pos h2]; simp [h2] <;> (unfold wrap64; omega)
      · rw [if_neg h2]; simp [h2] <;> omega
  · simp only [if_true, List.cons_append, List.nil_append]
    rw [parse_below ha hn]
    cases f
    · have := i2 rfl
      rw [if_neg (by omega)]; simp
    · have := i1 rfl
      subst this
      by_cases h2 : valFrom 0 (numDigs l) ≤ 9223372036854775808
      · rw [if_pos h2]; simp [h2] <;> (unfold wrap64; omega)
      · rw [if_neg h2]; simp [h2] <;> omega
end Go.Proofs.YthlingdlehdlhaaGreatDoor

namespace Go.Proofs.YthlingdlehdlhaaGreatDoor
open Go.RowKit Go.Shelf
set_option linter.unusedVariables false
set_option linter.unusedSimpArgs false

def bN (s : ByteArray) (i : Nat) : Nat := (bt s i).toNat
theorem bN_lt (s : ByteArray) (i : Nat) : bN s i < 256 := UInt8.toNat_lt _
def contB (s : ByteArray) (i : Nat) : Bool := decide (128 ≤ bN s i) && decide (bN s i < 192)
def nAfter (s : ByteArray) (at' n0 : Nat) : Nat → Nat
  | 0 => n0
  | j + 1 => 64 * nAfter s at' n0 j + bN s (at' + (j + 1)) - 128
def conts (s : ByteArray) (at' : Nat) : Nat → Bool
  | 0 => true
  | j + 1 => conts s at' j && contB s (at' + (j + 1))
def finDec (low n more : Nat) : Nat × Nat := if n < low ∨ 1114111 < n ∨ (55296 ≤ n ∧ n ≤ 57343) then (65533, 1) else (n, more + 1)
def tryDec (s : ByteArray) (at' more low n0 : Nat) : Nat × Nat :=
  if s.size ≤ at' + more then (65533, 1) else if conts s at' more = true then finDec low (nAfter s at' n0 more) more else (65533, 1)
def refDec (s : ByteArray) (at' : Nat) : Nat × Nat :=
  if bN s at' < 128 then (bN s at', 1) else if 194 ≤ bN s at' ∧ bN s at' < 224 then tryDec s at' 1 128 (bN s at' - 192)
  else if 224 ≤ bN s at' ∧ bN s at' < 240 then tryDec s at' 2 2048 (bN s at' - 224) else if 240 ≤ bN s at' ∧ bN s at' < 245 then tryDec s at' 3 65536 (bN s at' - 240) else (65533, 1)

theorem get!_bN (s : ByteArray) (i : Nat) : (s.get! i).toNat = bN s i := by
  unfold bN bt
  by_cases h : i < s.size
  · have h' : i < s.data.size := h
    show (s.data[i]!).toNat = _
    rw [getElem!_pos s.data i h', Array.getElem?_toList, Array.getElem?_eq_getElem h']
    rfl
  · have h' : ¬ i < s.data.size := h
    show (s.data[i]!).toNat = _
    rw [getElem!_neg s.data i h', Array.getElem?_toList, Array.getElem?_eq_none (by omega)]
    rfl

theorem conts1 (s : ByteArray) (i : Nat) : conts s i 1 = contB s (i + 1) := by show (true && _) = _; rw [Bool.true_and]
theorem conts2 (s : ByteArray) (i : Nat) : conts s i 2 = (contB s (i + 1) && contB s (i + 2)) := by show (conts s i 1 && _) = _; rw [conts1]
theorem conts3 (s : ByteArray) (i : Nat) : conts s i 3 = (contB s (i + 1) && contB s (i + 2) && contB s (i + 3)) := by show (conts s i 2 && _) = _; rw [conts2]
theorem nAfter1 (s : ByteArray) (i n : Nat) : nAfter s i n 1 = 64 * n + bN s (i + 1) - 128 := rfl
theorem nAfter2 (s : ByteArray) (i n : Nat) : nAfter s i n 2 = 64 * (64 * n + bN s (i + 1) - 128) + bN s (i + 2) - 128 := rfl
theorem nAfter3 (s : ByteArray) (i n : Nat) : nAfter s i n 3 = 64 * (64 * (64 * n + bN s (i + 1) - 128) + bN s (i + 2) - 128) + bN s (i + 3) - 128 := rfl

set_option maxRecDepth 100000 in
set_option maxHeartbeats 2000000 in
theorem refDec_eq (s : ByteArray) (i : Nat) (h : i < s.size) : refDec s i = Utf8.decode s i := by
  have h0 := bN_lt s i
  have h1 := bN_lt s (i + 1)
  have h2 := bN_lt s (i + 2)
  have h3 := bN_lt s (i + 3)
  have k1 : conts s i 1 = true ↔ (128 ≤ bN s (i + 1) ∧ bN s (i + 1) < 192) := by rw [conts1]; simp [contB]
  have k2 : conts s i 2 = true ↔ ((128 ≤ bN s (i + 1) ∧ bN s (i + 1) < 192) ∧ (128 ≤ bN s (i + 2) ∧ bN s (i + 2) < 192)) := by rw [conts2]; simp [contB]
  have k3 : conts s i 3 = true ↔ (((128 ≤ bN s (i + 1) ∧ bN s (i + 1) < 192) ∧ (128 ≤ bN s (i + 2) ∧ bN s (i + 2) < 192)) ∧ (128 ≤ bN s (i + 3) ∧ bN s (i + 3) < 192)) := by rw [conts3]; simp [contB]
  rw [Lib.decode_at, get!_bN, get!_bN, get!_bN, get!_bN]
  unfold refDec tryDec finDec Lib.decodeN
  rw [nAfter1, nAfter2, nAfter3]
  generalize bN s i = c at *
  generalize bN s (i + 1) = d1 at *
  generalize bN s (i + 2) = d2 at *
  generalize bN s (i + 3) = d3 at *
  generalize conts s i 1 = q1 at *
  generalize conts s i 2 = q2 at *
  generalize conts s i 3 = q3 at *
  repeat' split
  all_goals first | rfl | (exfalso; simp only [k1, k2, k3] at *; omega) | (apply Prod.ext <;> (show _ = (_ : Nat)) <;> (simp only [k1, k2, k3] at *) <;> omega)
end Go.Proofs.YthlingdlehdlhaaGreatDoor

namespace Go.Proofs.YthlingdlehdlhaaGreatDoor
open Go.RowKit Go.Shelf
set_option linter.unusedVariables false

structure Tok where
  kind : Int
  txt : List UInt8
  val : Arr
  deriving DecidableEq

def noArr : Arr := ⟨0, [], []⟩
def numsArr (xs : List Int) : Arr := ⟨1, if xs.length = 1 then [] else [(xs.length : Int)], xs⟩
def chrsArr (xs : List Int) : Arr := ⟨2, if xs.length = 1 then [] else [(xs.length : Int)], xs⟩

/-- Behind a quote: the characters, and what is left behind the quote that ends them (if one does). -/
def quotedQ : Bool → List UInt8 → List UInt8 × Option (List UInt8)
  | false, [] => ([], none)
  | true, [] => ([], some [])
  | false, c :: r => if c = 39 then quotedQ true r else (c :: (quotedQ false r).1, (quotedQ false r).2)
  | true, c :: r => if c = 39 then (39 :: (quotedQ false r).1, (quotedQ false r).2) else ([], some (c :: r))
def quoted (l : List UInt8) : List UInt8 × Option (List UInt8) := quotedQ false l
theorem quoted_nil : quoted [] = ([], none) := rfl
theorem quoted_cons (c : UInt8) (r : List UInt8) : quoted (c :: r) = if c = 39 then (match r with
      | [] => ([], some [])
      | d :: r' => if d = 39 then (39 :: (quoted r').1, (quoted r').2) else ([], some (d :: r')))
    else (c :: (quoted r).1, (quoted r).2) := by
  unfold quoted
  rw [quotedQ]
  split
  · cases r with
    | nil => rfl
    | cons d r' => rw [quotedQ]
  · rfl

/-- The token that stands here, what is left, whether it is none. -/
def readTok (l : List UInt8) : Tok × List UInt8 × Bool :=
  if numB l = true then (⟨1, [], numsArr (numsFrom l.length l).1⟩, (numsFrom l.length l).2.1, (numsFrom l.length l).2.2)
  else match l with
    | [] => (⟨0, [], noArr⟩, [], true)
    | c :: r =>
      if c = 39 then (⟨1, [], chrsArr (runesOf (bs (quoted r).1))⟩, (quoted r).2.getD [], (quoted r).2.isNone)
      else if letB c = true then (⟨2, (c :: r).take (nameLen (c :: r)), noArr⟩, (c :: r).drop (nameLen (c :: r)), decide (12 < nameLen (c :: r)))
      else (⟨3, glyTxt (c :: r), noArr⟩, (c :: r).drop (chLen (c :: r)), !Lib.contains glyphsL (glyTxt (c :: r)))

/-- A statement's tokens, whether something is none, whether a value has too many elements. -/
def toksFrom : Nat → List UInt8 → List Tok × Bool × Bool
  | 0, _ => ([], false, false)
  | f + 1, l => if Lib.trimLeftB l 32 = [] then ([], false, false) else
      let t := readTok (Lib.trimLeftB l 32)
      if t.2.2 = true then ([t.1], true, decide (4096 < t.1.val.elems.length))
      else (t.1 :: (toksFrom f t.2.1).1, (toksFrom f t.2.1).2.1, decide (4096 < t.1.val.elems.length) || (toksFrom f t.2.1).2.2)

/-- A statement's tokens, and the error. -/
def tokensOf (l : List UInt8) : List Tok × Int :=
  if Lib.validD l = false then ([], 170) else
    let r := toksFrom (l.length + 1) l
    if r.2.1 = true then ([], 170) else if r.2.2 = true ∨ 4000 < r.1.length then ([], 9) else (r.1, 0)

theorem numsFrom_left (fuel : Nat) (l : List UInt8) : (numsFrom fuel l).2.1.length ≤ l.length := by
  induction fuel generalizing l with
  | zero => exact Nat.le_refl _
  | succ f ih =>
    rw [numsFrom]
    split
    · rename_i h
      have h1 := numLeft_lt h
      have h2 := trimLeft_len (numLeft l) 32
      have h3 := ih (Lib.trimLeftB (numLeft l) 32)
      simp only
      omega
    · exact Nat.le_refl _

theorem numsFrom_more (f g : Nat) (l : List UInt8) (hf : l.length ≤ f) (hg : l.length ≤ g) : numsFrom f l = numsFrom g l := by
  induction f generalizing g l with
  | zero =>
    have : l = [] := List.eq_nil_of_length_eq_zero (by omega)
    subst this
    cases g with
    | zero => rfl
    | succ g => rfl
  | succ f ih =>
    cases g with
    | zero =>
      have : l = [] := List.eq_nil_of_length_eq_zero (by omega)
      subst this; rfl
    | succ g =>
      rw [numsFrom, numsFrom]
      split
      · rename_i h
        have h1 := numLeft_lt h
        have h2 := trimLeft_len (numLeft l) 32
        have e := ih g (Lib.trimLeftB (numLeft l) 32) (by omega) (by omega)
        simp only [e]
      · rfl

theorem quoted_len (l : List UInt8) : ((quoted l).2.getD []).length ≤ l.length := by
  induction h : l.length using Nat.strongRecOn generalizing l with
  | _ n ih =>
    subst h
    cases l with
    | nil => simp [quoted_nil]
    | cons c r =>
      rw [quoted_cons]
      split
      · cases r with
        | nil => simp
        | cons d r' =>
          simp only
          split
          · have := ih r'.length (by simp; omega) r' rfl
            simp only [List.length_cons]; omega
          · simp
      · have := ih r.length (by simp) r rfl
        simp only [List.length_cons]; omega

theorem chLen_pos {c : UInt8} {r : List UInt8} : 1 ≤ chLen (c :: r) := by
  unfold chLen Lib.decodeGo
  rw [if_neg (by rw [bs_size]; simp)]
  exact width_pos _ 0 (by rw [bs_size]; simp)

/-- Each token takes a byte at least. -/
theorem readTok_lt {c : UInt8} {r : List UInt8} : (readTok (c :: r)).2.1.length < (c :: r).length := by
  unfold readTok
  split
  · rename_i h
    have h1 := numLeft_lt h
    show (numsFrom (r.length + 1) (c :: r)).2.1.length < _
    rw [numsFrom, if_pos h]
    have h2 := trimLeft_len (numLeft (c :: r)) 32
    have h3 := numsFrom_left r.length (Lib.trimLeftB (numLeft (c :: r)) 32)
    simp only
    omega
  · simp only
    split
    · have := quoted_len r
      simp only [List.length_cons]; omega
    · split
      · rename_i h39 hl
        have : 1 ≤ nameLen (c :: r) := by
          unfold nameLen; rw [List.takeWhile_cons, if_pos (by unfold innB; rw [hl]; rfl)]; simp
        rw [List.length_drop]
        simp only [List.length_cons]; omega
      · have := chLen_pos (c := c) (r := r)
        rw [List.length_drop]
        simp only [List.length_cons]; omega

theorem readTok_39 (r : List UInt8) : readTok (39 :: r) = (⟨1, [], chrsArr (runesOf (bs (quoted r).1))⟩, (quoted r).2.getD [], (quoted r).2.isNone) := by
  have hp : Lib.hasPrefix (39 :: r) [194, 175] = false := by simp [Lib.hasPrefix, List.isPrefixOf]
  have hn : numB (39 :: r) = false := by unfold numB Lib.trimPrefix; rw [hp]; rfl
  unfold readTok
  rw [if_neg (by rw [hn]; simp)]
  simp only [if_true]

theorem trimLeft_idem (l : List UInt8) : Lib.trimLeftB (Lib.trimLeftB l 32) 32 = Lib.trimLeftB l 32 := by
  unfold Lib.trimLeftB
  induction l with
  | nil => rfl
  | cons c r ih =>
    by_cases h : (c == 32) = true
    · rw [List.dropWhile_cons, if_pos h]; exact ih
    · rw [List.dropWhile_cons, if_neg h, List.dropWhile_cons, if_neg h]

theorem toksFrom_trim (f : Nat) (l : List UInt8) : toksFrom f (Lib.trimLeftB l 32) = toksFrom f l := by
  cases f with
  | zero => rfl
  | succ f => rw [toksFrom, toksFrom, trimLeft_idem]

end Go.Proofs.YthlingdlehdlhaaGreatDoor

namespace Go.Proofs.YthlingdlehdlhaaGreatDoor
open Go.RowKit Go.Shelf
set_option linter.unusedVariables false
set_option linter.unusedSimpArgs false

def moreB (c : UInt8) : Nat := if c < 128 then 0 else if c < 224 then 1 else if c < 240 then 2 else 3
def headB (c : UInt8) : Bool := decide (c < 128) || (decide (194 ≤ c) && decide (c < 245))
def tailB (c : UInt8) : Bool := decide (128 ≤ c) && decide (c < 192)
/-- The bytes of a character. -/
def charB : List UInt8 → Bool
  | [] => false
  | c :: r => headB c && (decide (r.length = moreB c) && r.all tailB)
def glyChars : List (List UInt8) := [[43], [45], [195, 151], [195, 183], [124], [226, 140, 138], [226, 140, 136], [42], [61], [226, 137, 160], [60], [226, 137, 164], [226, 137, 165], [62], [226, 136, 167], [226, 136, 168], [126], [226, 141, 180], [44], [226, 140, 189], [226, 141, 137], [226, 141, 179], [226, 137, 162], [226, 141, 139], [226, 141, 146], [226, 134, 145], [226, 134, 147], [226, 136, 138], [47], [92], [226, 136, 152], [46], [226, 134, 144], [40], [41], [91], [93], [123], [125], [59], [58], [226, 141, 186], [226, 141, 181], [226, 136, 135], [226, 139, 132]]
theorem glyphs_chars : glyphsL = glyChars.flatten := by decide
theorem glyChars_all : glyChars.all charB = true := by decide

theorem head_not_tail {c : UInt8} (h : headB c = true) : tailB c = false := by
  unfold headB at h; unfold tailB
  rw [Bool.or_eq_true, Bool.and_eq_true, decide_eq_true_eq, decide_eq_true_eq, decide_eq_true_eq] at h
  rw [Bool.and_eq_false_iff, decide_eq_false_iff_not, decide_eq_false_iff_not]
  simp only [UInt8.lt_iff_toNat_lt, UInt8.le_iff_toNat_le] at h ⊢
  have e1 : (128 : UInt8).toNat = 128 := rfl
  have e2 : (192 : UInt8).toNat = 192 := rfl
  have e3 : (194 : UInt8).toNat = 194 := rfl
  have e4 : (245 : UInt8).toNat = 245 := rfl
  omega

theorem contains_cons (b : UInt8) (l sub : List UInt8) : Lib.contains (b :: l) sub = (sub.isPrefixOf (b :: l) || Lib.contains l sub) := by
  unfold Lib.contains
  have hg := Lib.index_ge l sub
  rw [Lib.index]
  cases hp : sub.isPrefixOf (b :: l)
  · rw [if_neg (by simp)]
    by_cases h : Lib.index l sub = -1
    · rw [h]; simp
    · rw [if_neg (by simpa using h)]
      simp; omega
  · rw [if_pos rfl]; simp

theorem contains_tails {r x g : List UInt8} {c : UInt8} (hc : headB c = true) (hr : r.all tailB = true) : Lib.contains (r ++ x) (c :: g) = Lib.contains x (c :: g) := by
  induction r with
  | nil => rfl
  | cons d r ih =>
    rw [List.all_cons, Bool.and_eq_true] at hr
    rw [List.cons_append, contains_cons, ih hr.2]
    have : c ≠ d := fun e => by have := head_not_tail hc; rw [e, hr.1] at this; cases this
    have : ((c :: g).isPrefixOf (d :: (r ++ x))) = false := by simp [List.isPrefixOf, this]
    rw [this, Bool.false_or]

theorem prefix_char {c d x : List UInt8} (hc : charB c = true) (hd : charB d = true) : c.isPrefixOf (d ++ x) = decide (c = d) := by
  cases c with
  | nil => cases hc
  | cons c r =>
    cases d with
    | nil => cases hd
    | cons d s =>
      unfold charB at hc hd
      rw [Bool.and_eq_true, Bool.and_eq_true, decide_eq_true_eq] at hc hd
      by_cases e : c = d
      · subst e
        have hl : r.length = s.length := by rw [hc.2.1, hd.2.1]
        by_cases h : r = s
        · subst h
          rw [decide_eq_true rfl, List.isPrefixOf_iff_prefix]
          exact List.prefix_append _ _
        · rw [decide_eq_false (by simpa using h)]
          rw [Bool.eq_false_iff]
          intro hp
          rw [List.isPrefixOf_iff_prefix] at hp
          have := (List.prefix_append_right_inj [c]).1 (by simpa using hp : [c] ++ r <+: [c] ++ (s ++ x))
          have h2 : r <+: s := (List.prefix_of_prefix_length_le this (List.prefix_append s x) (by omega))
          exact h (List.IsPrefix.eq_of_length h2 hl)
      · rw [decide_eq_false (by simp [e])]
        simp [List.isPrefixOf, e]

theorem contains_flatten (cs : List (List UInt8)) (hcs : cs.all charB = true) (g : List UInt8) (hg : charB g = true) : Lib.contains cs.flatten g = decide (g ∈ cs) := by
  induction cs with
  | nil =>
    cases g with
    | nil => cases hg
    | cons c r => simp [Lib.contains, Lib.index]
  | cons d cs ih =>
    rw [List.all_cons, Bool.and_eq_true] at hcs
    have ih := ih hcs.2
    have hp := prefix_char (x := cs.flatten) hg hcs.1
    cases g with
    | nil => cases hg
    | cons c r =>
      have hd := hcs.1
      cases d with
      | nil => cases hd
      | cons d s =>
        have hc : headB c = true := by unfold charB at hg; rw [Bool.and_eq_true] at hg; exact hg.1
        have hs : s.all tailB = true := by unfold charB at hd; rw [Bool.and_eq_true, Bool.and_eq_true] at hd; exact hd.2.2
        rw [List.flatten_cons, List.cons_append, contains_cons, ← List.cons_append, hp, contains_tails hc hs, ih]
        rw [← Bool.decide_or]
        congr 1
        rw [List.mem_cons]

theorem contains_glyphs {g : List UInt8} (hg : charB g = true) : Lib.contains glyphsL g = decide (g ∈ glyChars) := by
  rw [glyphs_chars]; exact contains_flatten _ glyChars_all g hg

theorem decodeN_kind (n b0 b1 b2 b3 : Nat) (h0 : b0 < 256) :
    Lib.decodeN n b0 b1 b2 b3 = (65533, 1) ∨ (b0 < 128 ∧ (Lib.decodeN n b0 b1 b2 b3).2 = 1) ∨
    (194 ≤ b0 ∧ b0 < 224 ∧ 1 < n ∧ b1 / 64 = 2 ∧ (Lib.decodeN n b0 b1 b2 b3).2 = 2) ∨
    (224 ≤ b0 ∧ b0 < 240 ∧ 2 < n ∧ b1 / 64 = 2 ∧ b2 / 64 = 2 ∧ (Lib.decodeN n b0 b1 b2 b3).2 = 3) ∨
    (240 ≤ b0 ∧ b0 < 245 ∧ 3 < n ∧ b1 / 64 = 2 ∧ b2 / 64 = 2 ∧ b3 / 64 = 2 ∧ (Lib.decodeN n b0 b1 b2 b3).2 = 4) := by
  unfold Lib.decodeN
  repeat' split
  all_goals first
    | (left; rfl)
    | (right; left; exact ⟨by omega, rfl⟩)
    | (right; right; left; exact ⟨by omega, by omega, by omega, by omega, rfl⟩)
    | (right; right; right; left; exact ⟨by omega, by omega, by omega, by omega, by omega, rfl⟩)
    | (right; right; right; right; exact ⟨by omega, by omega, by omega, by omega, by omega, by omega, rfl⟩)

theorem tailB_of {c : UInt8} (h : c.toNat / 64 = 2) : tailB c = true := by
  unfold tailB
  have := UInt8.toNat_lt c
  rw [Bool.and_eq_true, decide_eq_true_eq, decide_eq_true_eq, UInt8.le_iff_toNat_le, UInt8.lt_iff_toNat_lt]
  show 128 ≤ c.toNat ∧ c.toNat < 192
  omega
theorem headB_of {c : UInt8} (h : c.toNat < 128 ∨ (194 ≤ c.toNat ∧ c.toNat < 245)) : headB c = true := by
  unfold headB
  rw [Bool.or_eq_true, Bool.and_eq_true, decide_eq_true_eq, decide_eq_true_eq, decide_eq_true_eq, UInt8.lt_iff_toNat_lt, UInt8.le_iff_toNat_le, UInt8.lt_iff_toNat_lt]
  exact h
theorem moreB_of (c : UInt8) : moreB c = if c.toNat < 128 then 0 else if c.toNat < 224 then 1 else if c.toNat < 240 then 2 else 3 := rfl

/-- What is decoded at a text's head, if it is a character. -/
theorem char_decoded (l : List UInt8) (hne : l ≠ []) (h : ¬ ((Lib.decodeL l).1 = 65533 ∧ (Lib.decodeL l).2 = 1)) : charB (l.take (Lib.decodeL l).2) = true := by
  have h0 : (l.getD 0 0).toNat < 256 := UInt8.toNat_lt _
  rw [Lib.decodeL_N] at h ⊢
  rcases decodeN_kind l.length (l.getD 0 0).toNat (l.getD 1 0).toNat (l.getD 2 0).toNat (l.getD 3 0).toNat h0 with e | ⟨a, e⟩ | ⟨a, a', b, c, e⟩ | ⟨a, a', b, c, d, e⟩ | ⟨a, a', b, c, d, f, e⟩
  · exact absurd (by rw [e]; exact ⟨rfl, rfl⟩) h
  all_goals rw [e]
  · obtain ⟨x, r, rfl⟩ := List.exists_cons_of_ne_nil hne
    simp only [List.getD_cons_zero] at a
    show charB [x] = true
    simp only [charB]
    rw [headB_of (.inl a), moreB_of, if_pos a]; rfl
  · obtain ⟨x, r, rfl⟩ := List.exists_cons_of_ne_nil hne
    obtain ⟨y, r, rfl⟩ := List.exists_cons_of_ne_nil (l := r) (fun e => by subst e; simp at b)
    simp only [List.getD_cons_zero, List.getD_cons_succ] at a a' c
    show charB [x, y] = true
    simp only [charB]
    rw [headB_of (.inr ⟨by omega, by omega⟩), moreB_of, if_neg (by omega), if_pos (by omega)]
    simp [tailB_of c]
  · obtain ⟨x, r, rfl⟩ := List.exists_cons_of_ne_nil hne
    obtain ⟨y, r, rfl⟩ := List.exists_cons_of_ne_nil (l := r) (fun e => by subst e; simp at b)
    obtain ⟨z, r, rfl⟩ := List.exists_cons_of_ne_nil (l := r) (fun e => by subst e; simp at b)
    simp only [List.getD_cons_zero, List.getD_cons_succ] at a a' c d
    show charB [x, y, z] = true
    simp only [charB]
    rw [headB_of (.inr ⟨by omega, by omega⟩), moreB_of, if_neg (by omega), if_neg (by omega), if_pos (by omega)]
    simp [tailB_of c, tailB_of d]
  · obtain ⟨x, r, rfl⟩ := List.exists_cons_of_ne_nil hne
    obtain ⟨y, r, rfl⟩ := List.exists_cons_of_ne_nil (l := r) (fun e => by subst e; simp at b)
    obtain ⟨z, r, rfl⟩ := List.exists_cons_of_ne_nil (l := r) (fun e => by subst e; simp at b)
    obtain ⟨t, r, rfl⟩ := List.exists_cons_of_ne_nil (l := r) (fun e => by subst e; simp at b)
    simp only [List.getD_cons_zero, List.getD_cons_succ] at a a' c d f
    show charB [x, y, z, t] = true
    simp only [charB]
    rw [headB_of (.inr ⟨by omega, by omega⟩), moreB_of, if_neg (by omega), if_neg (by omega), if_neg (by omega)]
    simp [tailB_of c, tailB_of d, tailB_of f]
end Go.Proofs.YthlingdlehdlhaaGreatDoor

namespace Go.Proofs.YthlingdlehdlhaaGreatDoor
open Go.RowKit Go.Shelf
set_option linter.unusedVariables false

end Go.Proofs.YthlingdlehdlhaaGreatDoor
