/- array.Check: arrays, characters.
   An array's text: plain laws.
   A strings.Builder of the call's own: copyCheck, WriteRune. The two walks follow the shelf's (Shelf/Strings/Builder1, BuilderRune), over this program.
   A strings.Builder of the call's own: WriteString. The walk follows the shelf's (Shelf/Strings/BuilderK), over this program. -/
import Derived.Test.YtijfnnjgcgmnaaaGreatDoorShelf
import Derived.Test.YtijfnnjgcgmnaaaGreatDoorBase
import Derived.Test.YtijfnnjgcgmnaaaGreatDoorCnt
import Derived.Lib.ReplaceLaws
import Derived.Lib.ItoaLen
import Derived.Lib.Join
import Derived.Lib.RuneBytes
namespace Go.Proofs.YtijfnnjgcgmnaaaGreatDoor
open Go.RowKit Go.Shelf
set_option linter.unusedVariables false

structure Arr where
  kind : Int
  shape : List Int
  elems : List Int
deriving DecidableEq

def Rng (xs : List Int) : Prop := ∀ i, i < xs.length → -9223372036854775808 ≤ xs[i]?.getD 0 ∧ xs[i]?.getD 0 ≤ 9223372036854775807

/-- A value that reads as an array. -/
def IsArr (w : World) (v : Value) (x : Arr) : Prop := ∃ vs ve, v = .agg #[.int .i64 x.kind, vs, ve] ∧ Ints w vs x.shape ∧ Ints w ve x.elems ∧ Rng x.elems

theorem IsArr.below {w w' : World} {v : Value} {x : Arr} (h : IsArr w v x) (hb : Below w.heap.size w w') : IsArr w' v x := by
  obtain ⟨vs, ve, e, h1, h2, h3⟩ := h
  exact ⟨vs, ve, e, h1.below hb, h2.below hb, h3⟩

def isChar (n : Int) : Bool := decide (0 ≤ n) && (decide (n ≤ 1114111) && Lib.validRune n)
def hasOdd (xs : List Int) : Bool := xs.any fun n => !isChar n

set_option maxRecDepth 100000 in
set_option maxHeartbeats 400000 in
theorem char_any (n : Int) (w : World) : Calls Tryz.prog 150 #[.int .i64 n] w fun e w' => e = .returned (.bool (isChar n)) ∧ w = w' := by
  by_cases h0 : 0 ≤ n
  · have t0 : decide (0 ≤ n) = true := decide_eq_true h0
    by_cases h1 : n ≤ 1114111
    · have t1 : decide (n ≤ 1114111) = true := decide_eq_true h1
      have H : Hid (isChar n = Lib.validRune n) := hid (by unfold isChar; rw [t0, t1]; rfl)
      have hw : wrap32 n = n := by unfold wrap32; omega
      go_enter Tryz.func150, Tryz.ntmps150
      go_wp2_with (go_at_call 170; refine (Tryz.utf8_ValidRune n _).mono ?_; rintro e w' ⟨rfl, rfl⟩)
      go_ret
      exact ⟨by rw [H.out]; rfl, rfl⟩
    · have t1 : decide (n ≤ 1114111) = false := decide_eq_false h1
      have H : Hid (isChar n = false) := hid (by unfold isChar; rw [t0, t1]; rfl)
      go_enter Tryz.func150, Tryz.ntmps150
      go_wp2_with fail
      go_ret
      exact ⟨by rw [H.out]; rfl, rfl⟩
  · have t0 : decide (0 ≤ n) = false := decide_eq_false h0
    have H : Hid (isChar n = false) := hid (by unfold isChar; rw [t0]; rfl)
    go_enter Tryz.func150, Tryz.ntmps150
    go_wp2_with fail
    go_ret
    exact ⟨by rw [H.out]; rfl, rfl⟩

theorem check1_any (n : Int) (w : World) : Calls Tryz.prog 149 #[.int .i64 n] w fun e w' => e = .returned (.bool (!isChar n)) ∧ w = w' := by
  go_enter Tryz.func149, Tryz.ntmps149
  go_wp2_with (go_at_call 150; refine (char_any n _).mono ?_; rintro e w' ⟨rfl, rfl⟩)
  go_ret
  exact ⟨rfl, rfl⟩

set_option maxRecDepth 100000 in
set_option maxHeartbeats 400000 in
theorem indexFunc_any (v : Value) (xs : List Int) (w : World) (hx : Ints w v xs) :
    Calls Tryz.prog 171 #[v, .func (.func 149) #[] #[]] w fun e w' => (∃ r, e = .returned (.int .i64 r) ∧ decide (0 ≤ r) = hasOdd xs) ∧ Quiet w w' := by
  obtain ⟨a, cap, rfl, h1, h2, h3, hc⟩ := hx.parts
  clear hx
  go_enter Tryz.func171, Tryz.ntmps171
  go_wp2
  go_loopw [8] (fun i wr => ∃ k : Nat, k ≤ xs.length ∧ i = .int .i64 k ∧ hasOdd (xs.take k) = false ∧ Quiet w wr) (fun i _ => xs.length - (intOf i).toNat)
  case atStart => exact ⟨0, by omega, rfl, by simp [hasOdd], Quiet.refl _⟩
  case round =>
    obtain ⟨k, hk, rfl, ht, ⟨nq0, rfl⟩⟩ := hrel
    by_cases hlt : k < xs.length
    · rcases hc with rfl | ⟨b, o, rfl, hc⟩
      · simp at hlt
      have hcell := hc k hlt
      have t1 : xs.take (k + 1) = xs.take k ++ [xs[k]?.getD 0] := take_succ_getD xs k hlt
      have hmem : xs[k]?.getD 0 ∈ xs := by rw [List.getElem?_eq_getElem hlt, Option.getD_some]; exact List.getElem_mem hlt
      generalize xs[k]?.getD 0 = n at hcell t1 hmem
      have hki : (k : Int) < (xs.length : Int) := by omega
      cases hb : isChar n
      · have H : Hid (decide (0 ≤ (k : Int)) = hasOdd xs) := hid (by
          have : hasOdd xs = true := by unfold hasOdd; rw [List.any_eq_true]; exact ⟨n, hmem, by simp [hb]⟩
          rw [this]; simp)
        clear t1 ht hc hmem
        have hnb : (!isChar n) = true := by rw [hb]; rfl
        go_wp2_with (go_at_call 149; refine (check1_any n _).mono ?_; rintro e w' ⟨rfl, rfl⟩; rw [hnb])
        go_ret
        exact ⟨⟨_, rfl, H.out⟩, ⟨_, rfl⟩⟩
      · have H : Hid (hasOdd (xs.take (k + 1)) = false) := hid (by rw [t1]; unfold hasOdd at *; rw [List.any_append, ht]; simp [hb])
        clear t1 ht hc hmem
        have hnb : (!isChar n) = false := by rw [hb]; rfl
        go_wp2_with (go_at_call 149; refine (check1_any n _).mono ?_; rintro e w' ⟨rfl, rfl⟩; rw [hnb])
        go_roundw
        case rel => exact ⟨k + 1, by omega, by go_num, H.out, ⟨_, rfl⟩⟩
        case measure => simp [intOf]; omega
    · have H : Hid (hasOdd xs = false) := hid (by rw [List.take_of_length_le (by omega)] at ht; exact ht)
      clear ht hc
      go_wp2
      go_ret
      exact ⟨⟨_, rfl, by rw [H.out]; rfl⟩, ⟨_, rfl⟩⟩

theorem containsFunc_any (v : Value) (xs : List Int) (w : World) (hx : Ints w v xs) :
    Calls Tryz.prog 151 #[v, .func (.func 149) #[] #[]] w fun e w' => e = .returned (.bool (hasOdd xs)) ∧ Quiet w w' := by
  go_enter Tryz.func151, Tryz.ntmps151
  go_wp2_with fail
  refine (indexFunc_any v xs w hx).mono ?_
  rintro e w' ⟨⟨r, rfl, hr⟩, hq⟩
  have H := hid hr
  clear hr
  go_wp2_with fail
  go_ret
  exact ⟨by rw [H.out]; rfl, hq⟩

/-- An array that may be. -/
def okArr (x : Arr) : Bool := decide (count x.shape = some (x.elems.length : Int)) && (decide (x.kind = 1) || (decide (x.kind = 2) && !hasOdd x.elems))
def chk (x : Arr) : Int := if okArr x = true then 0 else 110

set_option maxRecDepth 100000 in
set_option maxHeartbeats 1000000 in
theorem check_any (v : Value) (x : Arr) (w : World) (hx : IsArr w v x) :
    Calls Tryz.prog 116 #[v] w fun e w' => e = .returned (.int .i64 (chk x)) ∧ Below w.heap.size w w' := by
  obtain ⟨vs, ve, rfl, hs, he, -⟩ := hx
  have hs1 := fun o => hs.below ((Below.refl _ w).alloc (Nat.le_refl _) o)
  have he1 := fun o => he.below ((Below.refl _ w).alloc (Nat.le_refl _) o)
  have hB1 := fun o => (Below.refl _ w).alloc (Nat.le_refl _) o
  obtain ⟨ae, cape, rfl, -⟩ := he.parts
  obtain ⟨kind, shape, elems⟩ := x
  simp only at hs he hs1 he1 ⊢
  clear hs he
  go_enter Tryz.func116, Tryz.ntmps116
  go_wp2_with fail
  refine (count_any vs shape _ (hs1 _)).mono ?_
  rintro e w' ⟨rfl, rfl⟩
  cases hc : count shape with
  | none =>
    have H : Hid (chk ⟨kind, shape, elems⟩ = 110) := hid (by unfold chk okArr; rw [hc]; simp)
    simp only [cRes]
    clear hc
    go_wp2_with fail
    go_ret
    exact ⟨by rw [H.out]; rfl, hB1 _⟩
  | some n =>
    simp only [cRes]
    by_cases hn : n = (elems.length : Int)
    · subst hn
      by_cases h1 : kind = 1
      · subst h1
        have H : Hid (chk ⟨1, shape, elems⟩ = 0) := hid (by unfold chk okArr; rw [hc]; simp)
        clear hc
        go_wp2_with fail
        go_ret
        exact ⟨by rw [H.out]; rfl, hB1 _⟩
      · have t1 : (kind == (1 : Int)) = false := by simpa using h1
        by_cases h2 : kind = 2
        · subst h2
          cases ho : hasOdd elems
          · have H : Hid (chk ⟨2, shape, elems⟩ = 0) := hid (by unfold chk okArr; rw [hc, ho]; simp)
            clear hc h1
            go_wp2_with (go_at_call 151; refine (containsFunc_any _ elems _ (he1 _)).mono ?_; rintro e w' ⟨rfl, hq⟩; rw [ho])
            go_ret
            exact ⟨by rw [H.out]; rfl, (hB1 _).trans (hq.below _)⟩
          · have H : Hid (chk ⟨2, shape, elems⟩ = 110) := hid (by unfold chk okArr; rw [hc, ho]; simp)
            clear hc h1
            go_wp2_with (go_at_call 151; refine (containsFunc_any _ elems _ (he1 _)).mono ?_; rintro e w' ⟨rfl, hq⟩; rw [ho])
            go_ret
            exact ⟨by rw [H.out]; rfl, (hB1 _).trans (hq.below _)⟩
        · have t2 : (kind == (2 : Int)) = false := by simpa using h2
          have H : Hid (chk ⟨kind, shape, elems⟩ = 110) := hid (by unfold chk okArr; simp [h1, h2])
          clear hc h1 h2
          go_wp2_with fail
          go_ret
          exact ⟨by rw [H.out]; rfl, hB1 _⟩
    · have tn : (n != (elems.length : Int)) = true := by simpa using hn
      have H : Hid (chk ⟨kind, shape, elems⟩ = 110) := hid (by unfold chk okArr; rw [hc]; simp [hn])
      clear hc hn
      go_wp2_with fail
      go_ret
      exact ⟨by rw [H.out]; rfl, hB1 _⟩

end Go.Proofs.YtijfnnjgcgmnaaaGreatDoor

namespace Go.Proofs.YtijfnnjgcgmnaaaGreatDoor
open Go.Lib
set_option linter.unusedVariables false

/-- Each c becomes new. -/
def subst (c : UInt8) (new : List UInt8) (s : List UInt8) : List UInt8 := s.flatMap fun b => if b = c then new else [b]

theorem index_head (c : UInt8) (s : List UInt8) : Lib.index (c :: s) [c] = 0 := by simp [Lib.index]
theorem index_skip (b c : UInt8) (s : List UInt8) (h : b ≠ c) : Lib.index (b :: s) [c] = if Lib.index s [c] == -1 then -1 else Lib.index s [c] + 1 := by
  have : ([c] : List UInt8).isPrefixOf (b :: s) = false := by simp [List.isPrefixOf, Ne.symm h]
  rw [Lib.index, this]; rfl

theorem replaceK_one (c : UInt8) (new : List UInt8) : ∀ s, Lib.replaceK [c] new (Lib.count s [c]) s = subst c new s
  | [] => by
    rw [Lib.count_miss (by rfl)]; rfl
  | b :: s => by
    have ih := replaceK_one c new s
    by_cases hb : b = c
    · subst hb
      rw [Lib.count_hit (i := 0) (by simp) (index_head b s), Nat.add_comm, Lib.replaceK_hit _ _ _ _ 0 (index_head b s)]
      simp only [List.take_zero, List.nil_append, List.length_singleton, Nat.zero_add, List.drop_succ_cons, List.drop_zero]
      rw [ih]; simp [subst]
    · have hs := index_skip b c s hb
      have hge := Lib.index_ge s [c]
      by_cases hi : Lib.index s [c] = -1
      · rw [hi] at hs
        have hc : Lib.count s [c] = 0 := Lib.count_miss hi
        rw [Lib.count_miss (by rw [hs]; rfl)]
        rw [hc] at ih
        have : subst c new (b :: s) = b :: subst c new s := by simp [subst, hb]
        rw [this, ← ih]; rfl
      · obtain ⟨i, hi'⟩ : ∃ i : Nat, Lib.index s [c] = i := ⟨(Lib.index s [c]).toNat, by omega⟩
        have hs' : Lib.index (b :: s) [c] = ((i + 1 : Nat) : Int) := by
          rw [hs, hi', if_neg (by simp)]; rfl
        have hcount : Lib.count (b :: s) [c] = Lib.count s [c] := by
          rw [Lib.count_hit (by simp) hs', Lib.count_hit (by simp) hi']
          simp
        obtain ⟨k, hk⟩ : ∃ k, Lib.count s [c] = k + 1 := ⟨Lib.count (s.drop (i + 1)) [c], by rw [Lib.count_hit (by simp) hi', Nat.add_comm]; rfl⟩
        rw [hcount, hk, Lib.replaceK_hit _ _ _ _ _ hs']
        rw [hk, Lib.replaceK_hit _ _ _ _ _ hi'] at ih
        have : subst c new (b :: s) = b :: subst c new s := by simp [subst, hb]
        rw [this, ← ih]
        simp

theorem replaceAll_one (c : UInt8) (new s : List UInt8) (hne : [c] ≠ new) : Lib.replaceAll s [c] new = subst c new s := by
  unfold Lib.replaceAll Lib.replace
  rw [if_neg (by simpa using hne)]
  rw [show Lib.replaceNum s [c] (-1) = Lib.count s [c] by simp [Lib.replaceNum]]
  exact replaceK_one c new s

theorem dec_digit (u : Nat) : ∀ b ∈ decDigits u, 48 ≤ b.toNat ∧ b.toNat ≤ 57 := by
  induction u using Nat.strongRecOn with
  | _ u ih =>
    intro b hb
    rw [decDigits] at hb
    split at hb
    · rw [List.mem_singleton] at hb; subst hb
      rw [UInt8.toNat_ofNat']; omega
    · rcases List.mem_append.1 hb with h | h
      · exact ih (u / 10) (by omega) b h
      · rw [List.mem_singleton] at h; subst h
        rw [UInt8.toNat_ofNat']; omega

/-- A number's text. -/
def dig (n : Int) : List UInt8 := if n < 0 then 194 :: 175 :: decDigits n.natAbs else decDigits n.toNat

theorem index_absent (c : UInt8) : ∀ s : List UInt8, c ∉ s → Lib.index s [c] = -1
  | [], _ => rfl
  | b :: s, h => by
    have h1 : b ≠ c := fun e => h (by simp [e])
    rw [index_skip b c s h1, index_absent c s (fun e => h (by simp [e]))]; rfl

theorem replace_dig (n : Int) : Lib.replace (itoa n) [45] [194, 175] 1 = dig n := by
  unfold Lib.replace dig itoa
  rw [if_neg (by decide)]
  by_cases h : n < 0
  · rw [if_pos h, if_pos h]
    have h1 : Lib.replaceNum (45 :: decDigits n.natAbs) [45] 1 = 1 := by
      unfold Lib.replaceNum
      have hc := Lib.count_hit (s := 45 :: decDigits n.natAbs) (sub := [45]) (i := 0) (by simp) (index_head 45 _)
      rw [hc]
      split
      · omega
      · rfl
    rw [h1, Lib.replaceK_hit _ _ 0 _ 0 (index_head 45 _)]
    simp [Lib.replaceK]
  · rw [if_neg h, if_neg h]
    have h0 : (45 : UInt8) ∉ decDigits n.toNat := fun hm => by have := (dec_digit _ _ hm).1; exact absurd this (by decide)
    have h1 : Lib.replaceNum (decDigits n.toNat) [45] 1 = 0 := by
      unfold Lib.replaceNum
      rw [Lib.count_miss (index_absent 45 _ h0), if_pos (by omega)]
    rw [h1]; rfl

theorem dig_length (n : Int) (h0 : -9223372036854775808 ≤ n) (h1 : n ≤ 9223372036854775807) : (dig n).length ≤ 22 := by
  have := itoa_length_le n h0 h1
  unfold itoa at this
  unfold dig
  by_cases h : n < 0
  · rw [if_pos h] at this ⊢; simp only [List.length_cons] at this ⊢; omega
  · rw [if_neg h] at this ⊢; omega

theorem lens_le (D : Nat) (xs : List (List UInt8)) (h : ∀ x ∈ xs, x.length ≤ D) : lens xs ≤ xs.length * D := by
  induction xs with
  | nil => simp [lens]
  | cons x r ih =>
    have h1 := h x (by simp)
    have h2 := ih (fun y hy => h y (by simp [hy]))
    unfold lens at *
    simp only [List.map_cons, List.sum_cons, List.length_cons, Nat.add_mul, Nat.one_mul]
    omega

theorem join_le (D : Nat) (xs : List (List UInt8)) (sep : List UInt8) (h : ∀ x ∈ xs, x.length ≤ D) : (Lib.join xs sep).length ≤ xs.length * D + sep.length * xs.length := by
  cases xs with
  | nil => simp [join_nil]
  | cons x r =>
    rw [join_length]
    have := lens_le D (x :: r) h
    have h2 : sep.length * r.length ≤ sep.length * (x :: r).length := Nat.mul_le_mul_left _ (by simp)
    omega

/-- The elements' text. -/
def encs (xs : List Int) : List UInt8 := xs.flatMap encodeRune
def elemText (x : Arr) : List UInt8 :=
  if x.kind = 2 then 39 :: (subst 39 [39, 39] (encs x.elems) ++ [39])
  else if x.elems = [] then [48] else Lib.join (x.elems.map dig) [32]
/-- Is the shape left out? -/
def bare (x : Arr) : Bool := decide (x.shape.length = 0) || (decide (x.shape.length = 1) && decide (1 < x.elems.length)) || (decide (x.shape.length = 1) && decide (x.elems.length = 0) && decide (x.kind = 2))
def textOf (x : Arr) : List UInt8 :=
  if bare x = true then elemText x else Lib.join (x.shape.map itoa) [32] ++ [226, 141, 180] ++ elemText x

theorem encs_length (xs : List Int) : (encs xs).length ≤ 4 * xs.length := by
  induction xs with
  | nil => simp [encs]
  | cons x r ih =>
    have h := (encodeRuneZ_length x).2
    unfold encs at *
    rw [List.flatMap_cons, List.length_append, List.length_cons]
    have : (encodeRune x).length = (encodeRuneZ x).length := by simp [encodeRune]
    omega

end Go.Proofs.YtijfnnjgcgmnaaaGreatDoor

namespace Go.Proofs.YtijfnnjgcgmnaaaGreatDoor
open Go.RowKit Go.Shelf
set_option linter.unusedVariables false

theorem infoB : (Tryz.prog.info? 73).map (fun i => i.size) = some 2 := by kernel_rfl

set_option maxRecDepth 100000 in
theorem copyCheck_used (b : Nat) (w : World) (h0 : w.cell? ⟨b, 0, none⟩ = some (.pointer (some ⟨b, 0, none⟩))) :
    Calls Tryz.prog 64 #[.pointer (some ⟨b, 0, none⟩)] w fun e w' => e = .returned (.tuple #[]) ∧ w' = w := by
  obtain ⟨j, hj, _⟩ := Option.map_eq_some_iff.1 infoB
  go_enter Tryz.func64, Tryz.ntmps64
  go_wp2
  rw [Lib.run_neq_ptr_same w _ Tryz.underlying70 hj]
  go_wp2
  go_end0
  exact ⟨rfl, rfl⟩

set_option maxRecDepth 100000 in
theorem copyCheck_fresh (b : Nat) (w : World) (h0 : w.cell? ⟨b, 0, none⟩ = some (.pointer none)) (hsh : w.shape? b = some (73, 2)) (hfz : w.frozen? ⟨b, 0, none⟩ = false) :
    Calls Tryz.prog 64 #[.pointer (some ⟨b, 0, none⟩)] w fun e w' => e = .returned (.tuple #[]) ∧ w' = w.setCell ⟨b, 0, none⟩ (.pointer (some ⟨b, 0, none⟩)) := by
  obtain ⟨j, hj, hjs⟩ := Option.map_eq_some_iff.1 infoB
  go_enter Tryz.func64, Tryz.ntmps64
  go_wp2
  rw [Lib.run_to_unsafe w ⟨b, 0, none⟩ Tryz.underlying70 Tryz.underlying150 hj (by rw [hjs]; decide) hsh (Nat.zero_lt_succ 1)]
  simp only [Result.andThen]
  rw [Oper.upon_value]
  go_wp2
  rw [run_callFunc_extern Tryz.func94 (by kernel_rfl) (by kernel_rfl) (by kernel_rfl) (e := Extern.AbiNoEscape.same) (by kernel_rfl)]
  rw [Lib.run_noEscape]
  simp only [Result.andThen]
  rw [Oper.upon_value]
  go_wp2
  rw [Lib.run_from_unsafe w ⟨b, 0, none⟩ Tryz.underlying150 Tryz.underlying70 hj hsh (by kernel_rfl)]
  simp only [Result.andThen]
  rw [Oper.upon_value]
  go_wp2
  go_end0
  exact ⟨rfl, rfl⟩

theorem copyCheck_k (B b : Nat) (bs : List Value) (w : World) (h : Lib.IsBuilderF 73 5 B b bs w) :
    Calls Tryz.prog 64 #[.pointer (some ⟨b, 0, none⟩)] w fun e w' => e = .returned (.tuple #[]) ∧ (Lib.BuilderAtF 73 5 B b (.pointer (some ⟨b, 0, none⟩)) bs w' ∧ Below B w w' ∧ Lib.OthersKept 5 (some b) w w') := by
  rcases h with h | h
  · refine (copyCheck_fresh b w h.cell0 h.shape h.frozen0).mono ?_
    rintro e w' ⟨rfl, rfl⟩
    exact ⟨rfl, h.used _, (Below.refl B w).setCell (p := ⟨b, 0, none⟩) h.1 _, (Lib.OthersKept.refl _ _ w).setCell ⟨b, 0, none⟩ rfl _⟩
  · refine (copyCheck_used b w h.cell0).mono ?_
    rintro e w' ⟨rfl, rfl⟩
    exact ⟨rfl, h, Below.refl B _, Lib.OthersKept.refl _ _ _⟩

set_option maxRecDepth 100000 in
set_option maxHeartbeats 2000000 in
theorem writeRune_k (B b : Nat) (bs : List Value) (r : Int) (hr0 : -2147483648 ≤ r) (hr1 : r ≤ 2147483647) (w : World) (h : Lib.IsBuilderF 73 5 B b bs w) (hlen : bs.length + 4 ≤ 140737488355328) (hBw : B ≤ w.heap.size) :
    Calls Tryz.prog 152 #[.pointer (some ⟨b, 0, none⟩), .int .i32 r] w fun e w' => e = .returned (.tuple #[.int .i64 (Lib.runeCells r).length, .nilIface]) ∧ (Lib.BuilderAtF 73 5 B b (.pointer (some ⟨b, 0, none⟩)) (bs ++ Lib.runeCells r) w' ∧ Below B w w' ∧ Lib.OthersKept 5 (some b) w w') := by
  have hk4 := Lib.runeCells_le r
  go_enter Tryz.func152, Tryz.ntmps152
  go_wp2_with (go_at_call 64; refine (copyCheck_k B b bs _ h).mono ?_)
  rintro e w1 ⟨rfl, h1, hb1, hk1⟩
  obtain ⟨hB, v, hbk, hown, hne⟩ := h1
  obtain ⟨ao, cap, rfl⟩ : ∃ ao cap, v = .slice ao bs.length cap := by
    rcases hown.2 with ⟨hv, h0⟩ | ⟨g, cap, cur, fz, hv, _⟩
    · exact ⟨none, 0, by rw [hv, h0]⟩
    · exact ⟨_, _, hv⟩
  have c0 : w1.cell? ⟨b, 0, none⟩ = some (.pointer (some ⟨b, 0, none⟩)) := by rw [Lib.cell_of_heap hbk]; rfl
  have c1 : w1.cell? ⟨b, 1, none⟩ = some (.slice ao bs.length cap) := by rw [Lib.cell_of_heap hbk]; rfl
  go_wp2_with (go_at_call 172; refine (Tryz.utf8_AppendRune_row B _ bs.length bs r hr0 hr1 _ hown hlen (by have := hb1.size; omega)).mono ?_)
  rintro e w2 ⟨v', rfl, hown', o, hgrow⟩
  have hlt : b < w1.heap.size := by
    rcases Nat.lt_or_ge b w1.heap.size with h' | h'
    · exact h'
    · simp [Array.getElem?_eq_none h'] at hbk
  have hb2 : w2.heap[b]? = some (.cells #[.pointer (some ⟨b, 0, none⟩), .slice ao bs.length cap] 73 (0, 0)) := by
    rw [hgrow.block b (by simp; omega) (fun e => hne e.symm), Lib.alloc_old w1 _ b hlt]
    exact hbk
  have d0 : w2.cell? ⟨b, 0, none⟩ = some (.pointer (some ⟨b, 0, none⟩)) := by rw [Lib.cell_of_heap hb2]; rfl
  have d1 : w2.cell? ⟨b, 1, none⟩ = some (.slice ao bs.length cap) := by rw [Lib.cell_of_heap hb2]; rfl
  have f1 : w2.frozen? ⟨b, 1, none⟩ = false := Lib.frozen_of_heap hb2 1
  obtain ⟨g, cap', rfl⟩ : ∃ g cap', v' = .slice (some ⟨g, 0, none⟩) (bs.length + (Lib.runeCells r).length) cap' := by
    rcases hown'.2 with ⟨_, h0⟩ | ⟨g, cap', cur, fz, hv, _⟩
    · omega
    · exact ⟨g, cap', hv⟩
  go_wp2
  go_ret2
  refine ⟨?_, ?_, ?_, ((hk1.alloc _).grown hgrow (Lib.ownsRowF_kind (hown.alloc _))).setCell ⟨b, 1, none⟩ rfl _⟩
  · have e : ((bs.length : Int) + ((Lib.runeCells r).length : Int) - (bs.length : Int)) = ((Lib.runeCells r).length : Int) := by omega
    simp [e]
  · exact Lib.BuilderAtF.put (T := 73) (e := 5) hB hb2 (bs' := bs ++ Lib.runeCells r) (by simpa using hown') (by decide)
  · exact ((hb1.alloc (by have := hb1.size; omega) _).grown hgrow (by have := hb1.size; simp; omega) (fun k hk => (hown.lt k hk).1)).setCell (p := ⟨b, 1, none⟩) hB _

end Go.Proofs.YtijfnnjgcgmnaaaGreatDoor

namespace Go.Proofs.YtijfnnjgcgmnaaaGreatDoor
open Go.RowKit Go.Shelf
set_option linter.unusedVariables false

set_option maxRecDepth 100000 in
set_option maxHeartbeats 2000000 in
theorem writeString_k (B b : Nat) (bs : List Value) (s : ByteArray) (w : World) (h : Lib.IsBuilderF 73 5 B b bs w) (hlen : bs.length + s.size ≤ 140737488355328) (hBw : B ≤ w.heap.size) :
    Calls Tryz.prog 33 #[.pointer (some ⟨b, 0, none⟩), .string s] w fun e w' => e = .returned (.tuple #[.int .i64 s.size, .nilIface]) ∧ (Lib.BuilderAtF 73 5 B b (.pointer (some ⟨b, 0, none⟩)) (bs ++ Lib.strCells s) w' ∧ Below B w w' ∧ Lib.OthersKept 5 (some b) w w') := by
  obtain ⟨i0, hi, hz0, hz1, hz2⟩ := info_parts (show (Tryz.prog.info? 5).map (fun i => (i.zero, i.size, i.bytes)) = some (some (.int .u8 0), 1, 1) by kernel_rfl)
  go_enter Tryz.func33, Tryz.ntmps33
  go_wp2_with (go_at_call 64; refine (copyCheck_k B b bs _ h).mono ?_)
  rintro e w1 ⟨rfl, h1, hb1, hk1⟩
  obtain ⟨hB, v, hbk, hown, hne⟩ := h1
  have c0 : w1.cell? ⟨b, 0, none⟩ = some (.pointer (some ⟨b, 0, none⟩)) := by rw [Lib.cell_of_heap hbk]; rfl
  have c1 : w1.cell? ⟨b, 1, none⟩ = some v := by rw [Lib.cell_of_heap hbk]; rfl
  go_wp2_with (at_builtin; refine Lib.wpList_append_own_stringF _ rfl _ _ 71 9 rfl B 5 i0 Tryz.underlying71 Tryz.underlying9 hi hz0 hz1 hz2 _ _ _ rfl hown s rfl ?c3 ?c4 ?c5 ?_)
  case c3 => unfold maxLen; omega
  case c4 => omega
  case c5 => have := hb1.size; omega
  intro v' w2 hown' hgrow _
  have hlt : b < w1.heap.size := by
    rcases Nat.lt_or_ge b w1.heap.size with h' | h'
    · exact h'
    · simp [Array.getElem?_eq_none h'] at hbk
  have hb2 : w2.heap[b]? = some (.cells #[.pointer (some ⟨b, 0, none⟩), v] 73 (0, 0)) := by
    rw [hgrow.block b hlt (fun e => hne e.symm)]
    exact hbk
  have d0 : w2.cell? ⟨b, 0, none⟩ = some (.pointer (some ⟨b, 0, none⟩)) := by rw [Lib.cell_of_heap hb2]; rfl
  have d1 : w2.cell? ⟨b, 1, none⟩ = some v := by rw [Lib.cell_of_heap hb2]; rfl
  have f1 : w2.frozen? ⟨b, 1, none⟩ = false := Lib.frozen_of_heap hb2 1
  obtain ⟨ao, n', cap, rfl⟩ : ∃ ao n' cap, v' = .slice ao n' cap := by
    rcases hown'.2 with ⟨hv, _⟩ | ⟨g, cap, cur, fz, hv, _⟩
    · exact ⟨_, _, _, hv⟩
    · exact ⟨_, _, _, hv⟩
  go_wp2
  go_ret2
  refine ⟨rfl, ?_, ?_, (hk1.grown hgrow (Lib.ownsRowF_kind hown)).setCell ⟨b, 1, none⟩ rfl _⟩
  · exact Lib.BuilderAtF.put (T := 73) (e := 5) hB hb2 (bs' := bs ++ Lib.strCells s) (by simpa [Lib.strCells_length] using hown') (by decide)
  · exact (hb1.grown hgrow (by have := hb1.size; omega) (fun k hk => (hown.lt k hk).1)).setCell (p := ⟨b, 1, none⟩) hB _
end Go.Proofs.YtijfnnjgcgmnaaaGreatDoor
