/- array.Chars; the reference's Same.
   Arrays that a call made: in memory of its own. -/
import Derived.Test.YthlingdlehdlhaaGreatDoorArrs
import Derived.WalkSmall
import Derived.BigCall
namespace Go.Proofs.YthlingdlehdlhaaGreatDoor
open Go.RowKit Go.Shelf
set_option linter.unusedVariables false

/-- A text's characters, from a place on. -/
def runesFrom (s : ByteArray) : Nat → Nat → List Int
  | 0, _ => []
  | fuel + 1, pos => if pos < s.size then ((Utf8.decode s pos).1 : Int) :: runesFrom s fuel (pos + (Utf8.decode s pos).2) else []
def runesOf (s : ByteArray) : List Int := runesFrom s s.size 0

theorem width_pos (s : ByteArray) (pos : Nat) (h : pos < s.size) : 1 ≤ (Utf8.decode s pos).2 := by
  by_cases ha : (s[pos]'h).toNat < 128
  · rw [decode_ascii s pos h ha]
    exact Nat.le_refl _
  · exact (decode_high s pos h (by omega)).2

theorem runesFrom_end (s : ByteArray) (fuel pos : Nat) (h : ¬ pos < s.size) : runesFrom s fuel pos = [] := by
  cases fuel with
  | zero => rfl
  | succ f => simp [runesFrom, h]

set_option maxRecDepth 100000 in
set_option maxHeartbeats 2000000 in
theorem rsame_any (va vb : Value) (x y : Arr) (w : World) (hx : IsArr w va x) (hy : IsArr w vb y) :
    Calls Tryz.prog 42 #[va, vb] w fun e w' => e = .returned (.bool (sameB x y)) ∧ Below w.heap.size w w' := by
  have hB2 : ∀ o o', Below w.heap.size w ((w.alloc o).alloc o') := fun o o' => ((Below.refl _ w).alloc (Nat.le_refl _) o).alloc (by simp) o'
  obtain ⟨vs, ve, rfl, hs, he, -⟩ := hx
  obtain ⟨vs', ve', rfl, hs', he', -⟩ := hy
  have gs := fun o o' => hs.below (hB2 o o')
  have gs' := fun o o' => hs'.below (hB2 o o')
  obtain ⟨a, cap, rfl, h1, h2, h3, hc⟩ := he.parts
  obtain ⟨a', cap', rfl, h1', h2', h3', hc'⟩ := he'.parts
  clear hs he hs' he'
  go_enter Tryz.func42, Tryz.ntmps42
  go_wp2_with fail
  refine (rshapes_any _ _ x.shape y.shape _ (gs _ _) (gs' _ _)).mono ?_
  rintro e w1 ⟨rfl, ⟨q, rfl⟩⟩
  by_cases hk : x.kind = y.kind
  · have t1 : (x.kind != y.kind) = false := by simp [hk]
    by_cases hsh : x.shape = y.shape
    · have t2 : decide (x.shape = y.shape) = true := by simpa using hsh
      by_cases hlen : x.elems.length = y.elems.length
      · have t3 : ((x.elems.length : Int) != (y.elems.length : Int)) = false := by simp [hlen]
        have H : Hid (sameB x y = decide (x.elems = y.elems)) := hid (by simp [sameB, hk, hsh])
        have hlen' : ¬ x.elems.length < y.elems.length := by omega
        have hlen2 : ¬ y.elems.length < x.elems.length := by omega
        have hB3 := fun o o' => below_drewN (hB2 o o') q
        clear hlen hk hsh
        rw [t2]
        go_wp2_with fail
        go_loopw [6] (fun i wr => ∃ k : Nat, k ≤ x.elems.length ∧ i = .int .i64 k ∧ x.elems.take k = y.elems.take k ∧ Quiet ((w.alloc (.cells #[.int .i64 x.kind, vs, .slice a x.elems.length cap] 30)).alloc (.cells #[.int .i64 y.kind, vs', .slice a' y.elems.length cap'] 30)) wr) (fun i _ => x.elems.length - (intOf i).toNat)
        case atStart => exact ⟨0, by omega, rfl, by simp, ⟨q, rfl⟩⟩
        case round =>
          obtain ⟨k, hk, rfl, ht, ⟨nq0, rfl⟩⟩ := hrel
          by_cases hlt : k < x.elems.length
          · rcases hc with he0 | ⟨b, o, rfl, hc⟩
            · rw [he0] at hlt; simp at hlt
            rcases hc' with he0 | ⟨b', o', rfl, hc'⟩
            · rw [he0] at hlen2; simp only [List.length_nil] at hlen2; omega
            have hcell := fun o o' => ((hB2 o o').cell (World.block_lt_of_cell? w _ (hc k hlt))).trans (hc k hlt)
            have hcell' := fun o o' => ((hB2 o o').cell (World.block_lt_of_cell? w _ (hc' k (by omega)))).trans (hc' k (by omega))
            have t4 := take_succ_getD x.elems k hlt
            have t5 := take_succ_getD y.elems k (by omega)
            generalize x.elems[k]?.getD 0 = l at hcell t4
            generalize y.elems[k]?.getD 0 = l' at hcell' t5
            have hki : (k : Int) < (x.elems.length : Int) := by omega
            have hki' : (k : Int) < (y.elems.length : Int) := by omega
            by_cases he : l = l'
            · have hb2 : (l != l') = false := by simp [he]
              have H2 : Hid (x.elems.take (k + 1) = y.elems.take (k + 1)) := hid (by rw [t4, t5, ht, he])
              clear t4 t5 he ht hc hc'
              go_wp2
              go_quiet (fail)
              go_wp2
              go_roundw
              case rel => exact ⟨k + 1, by omega, by go_num, H2.out, ⟨_, rfl⟩⟩
              case measure => simp [intOf]; omega
            · have hb2 : (l != l') = true := by simp [he]
              have H2 : Hid (x.elems ≠ y.elems) := hid (by intro e; rw [← e] at t5; exact he (by simpa using t4.symm.trans t5))
              clear t4 t5 he ht hc hc'
              go_wp2
              go_quiet (fail)
              go_wp2
              go_ret
              exact ⟨by rw [H.out, decide_eq_false H2.out]; rfl, below_drewN (below_drewN (hB2 _ _) _) _⟩
          · have H2 : Hid (x.elems = y.elems) := hid (by rw [List.take_of_length_le (by omega), List.take_of_length_le (by omega)] at ht; exact ht)
            clear ht hc hc'
            go_wp2
            go_ret
            exact ⟨by rw [H.out, decide_eq_true H2.out]; rfl, below_drewN (hB2 _ _) _⟩
      · have t3 : ((x.elems.length : Int) != (y.elems.length : Int)) = true := by rw [bne_iff_ne]; omega
        have H : Hid (sameB x y = false) := hid (by
          have : x.elems ≠ y.elems := fun e => hlen (by rw [e])
          simp [sameB, this])
        clear hlen hk hsh hc hc'
        rw [t2]
        go_wp2_with fail
        go_ret
        exact ⟨by rw [H.out]; rfl, below_drewN (hB2 _ _) _⟩
    · have t2 : decide (x.shape = y.shape) = false := by simpa using hsh
      have H : Hid (sameB x y = false) := hid (by simp [sameB, hsh])
      clear hk hsh hc hc'
      rw [t2]
      go_wp2_with fail
      go_ret
      exact ⟨by rw [H.out]; rfl, below_drewN (hB2 _ _) _⟩
  · have t1 : (x.kind != y.kind) = true := by simp [hk]
    have H : Hid (sameB x y = false) := hid (by simp [sameB, hk])
    clear hk hc hc'
    go_wp2_with fail
    go_ret
    exact ⟨by rw [H.out]; rfl, below_drewN (hB2 _ _) _⟩
end Go.Proofs.YthlingdlehdlhaaGreatDoor

namespace Go.Proofs.YthlingdlehdlhaaGreatDoor
open Go.RowKit Go.Shelf
set_option linter.unusedVariables false

/-- An array in memory of its own, from a block on. -/
def ArrOwn (w : World) (base : Nat) (v : Value) (x : Arr) : Prop := ∃ vs ve, v = .agg #[.int .i64 x.kind, vs, ve] ∧ w.ownsRow base 3 1 vs x.shape.length (x.shape.map (.int .i64)) ∧ w.ownsRow base 2 1 ve x.elems.length (x.elems.map (.int .i64)) ∧ Rng x.elems

end Go.Proofs.YthlingdlehdlhaaGreatDoor
