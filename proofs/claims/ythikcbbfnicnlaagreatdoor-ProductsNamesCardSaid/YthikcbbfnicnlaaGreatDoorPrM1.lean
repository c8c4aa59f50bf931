/- The law's program: what a function does. -/
import Derived.Test.YthikcbbfnicnlaaGreatDoorProg
import Derived.Test.YthikcbbfnicnlaaGreatDoorEvF
import Derived.WalkKit
import Derived.WalkSmall
import Derived.Shelf.Abstract
namespace Go.Proofs
open Go.Proofs.YthikcbbfnicnlaaGreatDoor
open Go.RowKit
set_option linter.unusedVariables false
set_option linter.unusedSimpArgs false
theorem xor_u32 (a b : Nat) (ha : a < 4294967296) (hb : b < 4294967296) : IntKind.u32.wrap (((BitVec.ofInt 32 (a : Int)) ^^^ (BitVec.ofInt 32 (b : Int))).toNat : Int) = ((Nat.xor a b : Nat) : Int) := by
  have h1 : BitVec.ofInt 32 (a : Int) = BitVec.ofNat 32 a := by simp [BitVec.ofInt_natCast]
  have h2 : BitVec.ofInt 32 (b : Int) = BitVec.ofNat 32 b := by simp [BitVec.ofInt_natCast]
  rw [h1, h2, BitVec.toNat_xor, BitVec.toNat_ofNat, BitVec.toNat_ofNat, Nat.mod_eq_of_lt (by omega), Nat.mod_eq_of_lt (by omega)]
  have h3 : (a ^^^ b) < 2 ^ 32 := Nat.xor_lt_two_pow (by omega) (by omega)
  show IntKind.u32.wrap (((a ^^^ b : Nat)) : Int) = ((a ^^^ b : Nat) : Int)
  generalize hx : a ^^^ b = x at h3 ⊢
  have e : ∀ n : Int, IntKind.u32.wrap n = n % 4294967296 := fun n => by simp [IntKind.wrap, IntKind.bits, IntKind.signed]
  rw [e]
  have h3 : x < 4294967296 := h3
  omega
theorem xor_mod_two (a b : Nat) : (Nat.xor a b) % 2 = (a + b) % 2 := by
  show (a ^^^ b) % 2 = (a + b) % 2
  have h := Nat.testBit_xor a b 0
  simp only [Nat.testBit_zero] at h
  by_cases h1 : a % 2 = 1 <;> by_cases h2 : b % 2 = 1 <;> by_cases h3 : (a ^^^ b) % 2 = 1 <;> simp [h1, h2, h3] at h <;> omega
theorem hid {p : Prop} (h : p) : Hid p := h
theorem bits_xor (a b : Nat) (ha : a < 4294967296) (hb : b < 4294967296) : bits .xor .u32 (a : Int) (b : Int) = ((Nat.xor a b : Nat) : Int) := xor_u32 a b ha hb
theorem bitN_t (c b : Nat) (h : (Nat.xor c b) % 2 = 1) : Ev.bitN c b = Nat.xor (c / 2) 3988292384 := by
  unfold Ev.bitN
  rw [xor_mod_two] at h
  rw [show Nat.beq (Nat.mod (Nat.add c b) 2) 1 = true from Ev.beq_iff.2 h]
  rfl
theorem bitN_f (c b : Nat) (h : (Nat.xor c b) % 2 = 0) : Ev.bitN c b = c / 2 := by
  unfold Ev.bitN
  rw [xor_mod_two] at h
  rw [show Nat.beq (Nat.mod (Nat.add c b) 2) 1 = false from Ev.beq_false.2 (by have : Nat.mod (Nat.add c b) 2 = 0 := h; omega)]
  rfl
theorem xor_lt (a b : Nat) (ha : a < 4294967296) (hb : b < 4294967296) : Nat.xor a b < 4294967296 := Nat.xor_lt_two_pow (n := 32) ha hb
theorem bitN_lt (c b : Nat) (hc : c < 4294967296) : Ev.bitN c b < 4294967296 := by
  unfold Ev.bitN
  cases Nat.beq (Nat.mod (Nat.add c b) 2) 1 with
  | true => exact xor_lt _ _ (show c / 2 < 4294967296 by omega) (by decide)
  | false => show c / 2 < 4294967296; omega
theorem Tryz.step_w (c b : Nat) (hc : c < 4294967296) (hb : b < 2) (w : World) :
    Calls Tryz.prog 261 #[.int .u32 (c : Int), .int .u32 (b : Int)] w fun e w' => e = .returned (.int .u32 ((Ev.bitN c b : Nat) : Int)) ∧ w' = w := by
  have hx : bits .xor .u32 (c : Int) (b : Int) = ((Nat.xor c b : Nat) : Int) := bits_xor c b hc (by omega)
  have hp : bits .xor .u32 ((c : Int) / 2) 3988292384 = ((Nat.xor (c / 2) 3988292384 : Nat) : Int) := bits_xor (c / 2) 3988292384 (by omega) (by omega)
  have h2 : ((Nat.xor c b : Nat) : Int).tmod 2 = ((Nat.xor c b % 2 : Nat) : Int) := by rw [Int.tmod_eq_emod_of_nonneg (by omega)]; omega
  rcases Nat.mod_two_eq_zero_or_one (Nat.xor c b) with h | h
  · have H : Hid (Ev.bitN c b = c / 2) := hid (bitN_f c b h)
    have hd : (((Nat.xor c b : Nat) : Int).tmod 2 == 1) = false := by rw [h2, h]; rfl
    rw [← hx] at hd
    clear hx hp h2 h
    go_enter Tryz.func261, Tryz.ntmps261
    go_wp2_with fail
    go_ret
    exact ⟨by rw [H.out]; simp, rfl⟩
  · have H : Hid (Ev.bitN c b = Nat.xor (c / 2) 3988292384) := hid (bitN_t c b h)
    have hd : (((Nat.xor c b : Nat) : Int).tmod 2 == 1) = true := by rw [h2, h]; rfl
    rw [← hx] at hd
    have hp := hid hp
    clear hx h2 h
    go_enter Tryz.func261, Tryz.ntmps261
    go_wp2_with fail
    go_ret
    exact ⟨by rw [H.out]; rfl, rfl⟩
theorem byteN_lt : ∀ (k c b : Nat), c < 4294967296 → Ev.byteN k c b < 4294967296
  | 0, c, b, h => h
  | k + 1, c, b, h => byteN_lt k _ _ (bitN_lt c _ h)
theorem moreN_lt : ∀ (bs : List Nat) (c : Nat), c < 4294967296 → Ev.moreN bs c < 4294967296
  | [], c, h => h
  | b :: bs, c, h => moreN_lt bs _ (byteN_lt 8 c b h)
theorem moreN_take (bs : List Nat) (c : Nat) : ∀ k, k < bs.length → Ev.moreN (bs.take (k + 1)) c = Ev.byteN 8 (Ev.moreN (bs.take k) c) (bs[k]?.getD 0) := by
  induction bs generalizing c with
  | nil => intro k hk; simp at hk
  | cons b bs ih =>
    intro k hk
    cases k with
    | zero => rfl
    | succ k => exact ih (Ev.byteN 8 c b) k (by simpa using hk)
end Go.Proofs
