/- strides: the axes with their strides, the last one first. -/
import Derived.Test.YtjapijkgjgfcnaaDoorProg
import Derived.Test.YtjapijkgjgfcnaaDoorSeq
import Derived.Test.YtjapijkgjgfcnaaDoorCount
namespace Go.Proofs.YtjapijkgjgfcnaaDoor
open Go.RowKit Go.Shelf
set_option linter.unusedVariables false
attribute [local go_sem] Oper.semAt_some

/-- The product of the last k numbers. -/
def strd (xs : List Int) (k : Nat) : Int := (xs.drop (xs.length - k)).foldr (· * ·) 1

theorem strd_zero (xs : List Int) : strd xs 0 = 1 := by simp [strd]
theorem strd_succ (xs : List Int) (k : Nat) (h : k < xs.length) : strd xs (k + 1) = strd xs k * xs[xs.length - 1 - k]?.getD 0 := by
  unfold strd
  have e : xs.length - k = xs.length - (k + 1) + 1 := by omega
  have h' : xs.length - (k + 1) < xs.length := by omega
  rw [drop_cons xs _ h', e]
  simp only [List.foldr_cons]
  rw [Int.mul_comm, show xs.length - 1 - k = xs.length - (k + 1) from by omega]

/-- Numbers that may stand in a shape. -/
def Fits (xs : List Int) : Prop := xs.length ≤ 4 ∧ ∀ i, i < xs.length → 0 ≤ xs[i]?.getD 0 ∧ xs[i]?.getD 0 ≤ 4096

theorem strd_bd (xs : List Int) (h : Fits xs) (k : Nat) (hk : k ≤ xs.length) : 0 ≤ strd xs k ∧ strd xs k ≤ 4096 ^ k := by
  induction k with
  | zero => rw [strd_zero]; decide
  | succ k ih =>
    obtain ⟨a, b⟩ := ih (by omega)
    obtain ⟨c, d⟩ := h.2 (xs.length - 1 - k) (by omega)
    rw [strd_succ xs k (by omega)]
    exact mul_step _ _ k a b c d

/-- What yield is handed in round k. -/
def strEnc (xs : List Int) (k : Nat) : Array Value := #[.int .i64 ((xs.length : Int) - 1 - k), .int .i64 (strd xs k)]

set_option maxHeartbeats 400000 in
theorem strides_any (a : Option Addr) (n cap : Nat) (w : World) :
    Calls Tryd.prog 38 #[.slice a n cap] w fun e w' => e = .returned (.func (.func 66) #[] #[.pointer (some ⟨w.heap.size, 0, none⟩)]) ∧ w.alloc (.cells #[.slice a n cap] 22) = w' := by
  go_enter Tryd.func38, Tryd.ntmps38
  go_wp2
  go_ret
  exact ⟨rfl, rfl⟩

set_option maxRecDepth 100000 in
set_option maxHeartbeats 1000000 in
theorem strides1_seq (Bs : Nat) (S : Nat → Prop) (a : Option Addr) (cap : Nat) (xs : List Int) (w0 w : World) (hf : Fits xs) (hx : Ints w0 (.slice a xs.length cap) xs) (hb : Below w0.heap.size w0 w)
    (hS : ∀ b, b < w0.heap.size → S b) (hSB : S Bs) (hBs : w.cell? ⟨Bs, 0, none⟩ = some (.slice a xs.length cap)) :
    SeqP Tryd.prog 66 #[.pointer (some ⟨Bs, 0, none⟩)] (strEnc xs) xs.length Eq (KeepsOn S) w := by
  intro l J Jx W hW hJ hJx hY h0
  have hBs' : W.cell? ⟨Bs, 0, none⟩ = some (.slice a xs.length cap) := (hW.cell (World.block_lt_of_cell? w _ hBs)).trans hBs
  have hb' := hb.trans (hW.mono hb.size)
  clear hBs hW hb
  have hlen := hf.1
  obtain ⟨a', cap', he, _, _, _, hx'⟩ := hx
  obtain ⟨rfl, -, rfl⟩ : a = a' ∧ True ∧ cap = cap' := by simpa using he
  clear he
  refine calls_wide (callsIn_of_wp Tryd.func66 rfl trivial ?_ rfl)
  simp only [Tryd.ntmps66, List.size_toArray, List.length_cons, List.length_nil, Nat.reduceAdd, Nat.reduceSub, Array.replicate_succ, Array.replicate_zero, List.push_toArray, List.append_toArray, List.nil_append, List.cons_append]
  gi_wp2
  gi_loopw [3, 4] (fun by_ i wr => ∃ k m : Nat, k + m = xs.length ∧ by_ = .int .i64 (strd xs k) ∧ i = .int .i64 ((m : Int) - 1) ∧ J k wr ∧ KeepsOn S W wr)
    (fun _ i _ => (intOf i + 1).toNat)
  case atStart => exact ⟨0, xs.length, by omega, by rw [strd_zero], rfl, h0, KeepsOn.refl _ _⟩
  case round =>
    obtain ⟨k, m, hkm, rfl, rfl, hj, hkp⟩ := hrel
    have hbox : wr.cell? ⟨Bs, 0, none⟩ = some (.slice a xs.length cap) := (hkp.cell (p := ⟨Bs, 0, none⟩) hSB).trans hBs'
    cases m with
    | succ m =>
      obtain ⟨fn, tmps, assign, body, hy, hR⟩ := hY k wr (by omega) hj
      have em : ((m + 1 : Nat) : Int) - 1 = (m : Int) := by omega
      rw [em]
      have ek : (xs.length : Int) - 1 - (k : Int) = (m : Int) := by omega
      simp only [strEnc, ek] at hy
      have hsb := strd_bd xs hf k (by omega)
      have hsb' := strd_bd xs hf (k + 1) (by omega)
      have hp := pow_le4 k (by omega)
      have hp' := pow_le4 (k + 1) (by omega)
      have hss := hid (strd_succ xs k (by omega))
      have H := hid hkm
      have hmlt : (m : Int) < (xs.length : Int) := by omega
      clear em ek hkm
      gi_wp2
      refine ⟨rfl, hR.mono ?_⟩
      rintro e W3 (⟨rfl, hJ3, hk3⟩ | ⟨rfl, hJx3⟩)
      · have hkp3 := hkp.trans _ _ _ hk3
        have hbox3 : W3.cell? ⟨Bs, 0, none⟩ = some (.slice a xs.length cap) := (hkp3.cell (p := ⟨Bs, 0, none⟩) hSB).trans hBs'
        obtain ⟨b, o, rfl, hc⟩ := (hkp3.lies hS hb' hx') m (by simp; omega)
        have hg : (List.map (Value.int IntKind.i64) xs)[m]'(by simp; omega) = .int .i64 (xs[m]?.getD 0) := by simp [show m < xs.length by omega]
        rw [hg] at hc
        clear hg
        have hm2 : xs.length - 1 - k = m := by have := H.out; omega
        rw [hm2] at hss
        have hwr : IntKind.i64.wrap (strd xs k * xs[m]?.getD 0) = strd xs k * xs[m]?.getD 0 := IntWalk.i64_in _ (by rw [← hss.out]; omega)
        clear hk3 hm2
        gi_wp2
        go_roundw
        case rel => exact ⟨k + 1, m, by have := H.out; omega, by rw [hss.out], rfl, hJ3, hkp3⟩
        case measure => simp [intOf]
      · gi_wp2
        go_end0
        exact ⟨⟨_, rfl⟩, .inr hJx3⟩
    | zero =>
      obtain rfl : k = xs.length := by omega
      have em : ((0 : Nat) : Int) - 1 = -1 := by omega
      rw [em]
      clear em
      gi_wp2
      refine ⟨fun _ _ => trivial, ?_⟩
      gi_wp2
      go_end0
      exact ⟨⟨_, rfl⟩, .inl hj⟩

end Go.Proofs.YtjapijkgjgfcnaaDoor
