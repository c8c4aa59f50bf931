/- The law's program: what a function does. -/
import Derived.Test.YthikcbbfnicnlaaGreatDoorPrM1
import Derived.Test.YthikcbbfnicnlaaGreatDoorEvF
import Derived.WalkKit
import Derived.WalkSmall
import Derived.Deep.Draws
import Derived.RangeFuncNested
import Derived.RangeFuncBound
import Derived.RangeFuncCalls
import Derived.RangeFuncLeaves
import Derived.OwnWalkIn
import Derived.TacticsInMore
import Derived.LoopNIn
import Derived.LoopIn
import Derived.Deep.QuietTactic
import Derived.BigQuiet
import Derived.StillTailTactics
import Derived.OrdersIn
import Derived.Lib.Strings
import Derived.Shelf.Abstract
namespace Go.Proofs
open Go.Proofs.YthikcbbfnicnlaaGreatDoor
open Go.RowKit
set_option linter.unusedVariables false
set_option linter.unusedSimpArgs false
set_option maxHeartbeats 4000000 in
theorem Tryz.more_w (n : Nat) (v' : Value) (bs : List Nat) (w : World) (hn : n ≤ 4294967295) (hv : Ev.ByteRow w v' bs) :
    Calls Tryz.prog 234 #[.int .u32 (n : Int), v'] w fun e w' => e = .returned (.int .u32 ((4294967295 - Ev.moreN bs (4294967295 - n) : Nat) : Int)) ∧ RowKit.Below w.heap.size w w' := by
  obtain ⟨hsm, hby, a, cap, rfl, hcell⟩ := hv
  have hw1 : IntKind.u32.wrap ((4294967295 : Int) - (n : Int)) = ((4294967295 - n : Nat) : Int) := by
    have e : ∀ n : Int, IntKind.u32.wrap n = n % 4294967296 := fun n => by simp [IntKind.wrap, IntKind.bits, IntKind.signed]
    rw [e]; omega
  have hm0 : 4294967295 - n < 4294967296 := by omega
  generalize 4294967295 - n = m at *
  go_enter Tryz.func234, Tryz.ntmps234
  go_wp2_with fail
  go_loopw [5, 6] (fun c i wr => wr = w ∧ ∃ k : Nat, k ≤ bs.length ∧ i = .int .i64 k ∧ c = .int .u32 ((Ev.moreN (bs.take k) m : Nat) : Int)) (fun _ i _ => bs.length - (intOf i).toNat)
  case atStart => exact ⟨rfl, 0, by omega, rfl, by first | rfl | (rw [hw1]; rfl)⟩
  case round =>
    obtain ⟨rfl, k, hk, rfl, rfl⟩ := hrel
    have hlc : Ev.moreN (bs.take k) m < 4294967296 := moreN_lt _ _ hm0
    by_cases hlt : k < bs.length
    · rcases hcell with rfl | ⟨b, o, rfl, hle, hcell⟩
      · simp at hlt
      have hce := hcell k hlt
      have hb := hby (bs[k]?.getD 0) (by rw [List.getElem?_eq_getElem hlt]; exact List.getElem_mem ..)
      have H := hid (moreN_take bs m k hlt)
      generalize bs[k]?.getD 0 = x at *
      have hki : (k : Int) < (bs.length : Int) := by omega
      generalize Ev.moreN (bs.take k) m = c0 at *
      clear hcell hby
      go_wp2_with fail
      go_loopw [5, 7, 8] (fun c y j wr2 => wr2 = wr ∧ ∃ (t cc yy : Nat), t ≤ 8 ∧ j = .int .i64 t ∧ c = .int .u32 (cc : Int) ∧ y = .int .u32 (yy : Int) ∧ cc < 4294967296 ∧ yy < 256 ∧ Hid (Ev.byteN (8 - t) cc yy = Ev.byteN 8 c0 x)) (fun _ _ j _ => 8 - (intOf j).toNat)
      case atStart => exact ⟨rfl, 0, c0, x, by omega, rfl, rfl, by first | rfl | simp, hlc, hb, hid rfl⟩
      case round =>
        obtain ⟨rfl, t, cc, yy, ht, rfl, rfl, rfl, h1, h2, h3⟩ := hrel
        by_cases htl : t < 8
        · have hti : (t : Int) < 8 := by omega
          have hy2 : yy % 2 < 2 := by omega
          have e2 : Hid ((yy : Int) % 2 = ((yy % 2 : Nat) : Int)) := hid (by omega)
          go_wp2_with (go_at_call 261; (rw [e2.out]); refine (Tryz.step_w cc (yy % 2) h1 (by omega) _).mono ?_; rintro e w' ⟨rfl, rfl⟩)
          go_roundw
          case rel => exact ⟨by trivial, t + 1, Ev.bitN cc (yy % 2), yy / 2, by omega, by go_num, rfl, by first | rfl | simp, bitN_lt _ _ h1, by omega, hid (by
            rw [← h3.out, show 8 - t = (8 - (t + 1)) + 1 by omega]; rfl)⟩
          case measure => simp [intOf]; omega
        · have : t = 8 := by omega
          subst this
          have h3 : Hid (cc = Ev.byteN 8 c0 x) := hid h3.out
          go_wp2_with fail
          go_roundw
          case rel => exact ⟨by trivial, k + 1, by omega, by go_num, by rw [H.out, ← h3.out]⟩
          case measure => simp [intOf]; omega
    · have : k = bs.length := by omega
      subst this
      have ht : bs.take bs.length = bs := List.take_length
      rw [ht] at hlc ⊢
      have hw2 : IntKind.u32.wrap ((4294967295 : Int) - ((Ev.moreN bs m : Nat) : Int)) = ((4294967295 - Ev.moreN bs m : Nat) : Int) := by
        have e : ∀ n : Int, IntKind.u32.wrap n = n % 4294967296 := fun n => by simp [IntKind.wrap, IntKind.bits, IntKind.signed]
        rw [e]; omega
      obtain ⟨r, hr⟩ : ∃ r, Ev.moreN bs m = r := ⟨_, rfl⟩
      rw [hr] at hlc hw2 ⊢
      have H := hid hr
      clear hr hcell hby
      go_wp2_with fail
      go_ret
      exact ⟨by rw [H.out]; rfl, RowKit.Below.refl _ _⟩
end Go.Proofs
