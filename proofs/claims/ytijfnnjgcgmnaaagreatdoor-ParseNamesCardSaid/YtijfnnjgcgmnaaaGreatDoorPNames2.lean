/- The law ParseNames: the contracts that its second half takes. -/
import Derived.Test.YtijfnnjgcgmnaaaGreatDoorPNames0
import Derived.Test.YtijfnnjgcgmnaaaGreatDoorPRep
namespace Go.Proofs.YtijfnnjgcgmnaaaGreatDoor.Par
open Go.RowKit Go.Shelf
set_option linter.unusedVariables false
set_option linter.unusedSimpArgs false

theorem tree_b (F : List (List UInt8)) (hF : F.length ≤ 1000) (s : List UInt8) (S : ByteArray) (hS : S = bs s) (fv : Value) (w : World) (hs : s.length ≤ 300000) (hfs : Strs w fv (F.map bs)) (hG : Glob w) (hgy : Gly w) :
    Calls Tryz.prog 9 #[.string S, fv] w fun e w' => StateA w w' (treeOf F s) e := by
  subst hS; exact tree_any F hF s fv w hs hfs hG hgy
theorem state_open {w w' : World} {e : Ending} {k : Int} {nm : List UInt8} {x : Ex} {bd : Tr} {n : Int} (S : ByteArray) (hS : bs nm = S) (m : Nat) (hm : bd.len = m) (h : StateA w w' (⟨k, nm, x, bd⟩, n) e) :
    ∃ a c a2 c2 b c3 k2 c4 d c5, e = .returned (.tuple #[.agg #[.int .i64 k, .string S, .int .i64 x.kind, .string (bs x.name), .int .i64 x.val.kind, .slice a x.val.shape.length c, .slice a2 x.val.elems.length c2, .int .i64 x.fn.kind, .int .i64 x.fn.f, .int .i64 x.fn.g, .string (bs x.fn.name), .slice b x.fn.body.len c3, .slice k2 x.kids.len c4, .slice d m c5], .int .i64 n]) ∧
    IsE w' (.agg #[.int .i64 x.kind, .string (bs x.name), .int .i64 x.val.kind, .slice a x.val.shape.length c, .slice a2 x.val.elems.length c2, .int .i64 x.fn.kind, .int .i64 x.fn.f, .int .i64 x.fn.g, .string (bs x.fn.name), .slice b x.fn.body.len c3, .slice k2 x.kids.len c4]) x ∧ IsTs w' (.slice d m c5) bd ∧ Below w.heap.size w w' := by
  subst hS hm
  obtain ⟨a, c, a2, c2, b, c3, k2, c4, d, c5, e1, iS, hb⟩ := h.row
  obtain ⟨xvs, xve, xvb, xvc, xvd, q, x1, x2, x3, x4, x5, x6⟩ := iS
  simp only [Value.agg.injEq, Array.mk.injEq, List.cons.injEq, and_true, true_and] at q
  obtain ⟨q1, q2, q3, q4, q5⟩ := q
  subst q1 q2 q3 q4 q5
  exact ⟨a, c, a2, c2, b, c3, k2, c4, d, c5, e1, ⟨_, _, _, _, rfl, x1, x2, x3, x4, x5⟩, x6, hb⟩
def hd1 : Tr → Int
  | .ln k _ _ _ => k
  | _ => -1
theorem stm_open (p : Stm × Int) (k : Int) (nm : List UInt8) (e : Int) (h : (decide (p.1.kind = k) && decide (p.1.name = nm) && decide (p.2 = e)) = true) : ∃ x b, p = (⟨k, nm, x, b⟩, e) ∧ b = p.1.body := by
  simp only [Bool.and_eq_true, decide_eq_true_eq] at h
  obtain ⟨⟨rfl, rfl⟩, rfl⟩ := h
  exact ⟨p.1.expr, p.1.body, rfl, rfl⟩
def s7 : List UInt8 := [102, 226, 134, 144, 123, 226, 141, 181, 61, 48, 58, 49, 226, 139, 132, 226, 141, 181, 195, 151, 102, 32, 226, 141, 181, 45, 49, 125]
theorem tr7 : ∃ x b, treeOf [] s7 = (⟨3, [102], x, b⟩, 0) ∧ b.len = 2 ∧ hd1 b = 3 := by
  obtain ⟨x, b, h, hb⟩ := stm_open (treeOf [] s7) 3 [102] 0 (by decide +kernel)
  exact ⟨x, b, h, by rw [hb]; decide +kernel, by rw [hb]; decide +kernel⟩
def s8 : List UInt8 := [97, 226, 134, 144, 49]
theorem tr8 : ∃ x b, treeOf [[97]] s8 = (⟨2, [97], x, b⟩, 0) := by
  obtain ⟨x, b, h, hb⟩ := stm_open (treeOf [[97]] s8) 2 [97] 0 (by decide +kernel)
  exact ⟨x, b, h⟩
def s9 : List UInt8 := [97, 226, 134, 144, 123, 226, 141, 181, 125, 32, 49]
theorem tr9 : ∃ x b, treeOf [] s9 = (⟨2, [97], x, b⟩, 0) := by
  obtain ⟨x, b, h, hb⟩ := stm_open (treeOf [] s9) 2 [97] 0 (by decide +kernel)
  exact ⟨x, b, h⟩
theorem line_head {w : World} {d : Option Addr} {m c : Nat} {b : Tr} (h : IsTs w (.slice d m c) b) (hm : b.len = m) (h2 : 0 < m) (hd : hd1 b = 3) : ∃ g o, d = some ⟨g, o, none⟩ ∧ w.cell? ⟨g, o, none⟩ = some (.int .i64 3) := by
  obtain ⟨a, c2, e, h1, h3, h4, h5⟩ := h
  injection e with e1 e2 e3
  subst e1
  obtain ⟨g, o, e, hat⟩ := h5 (by omega)
  cases b with
  | nil => cases hd
  | ex => cases hd
  | ln k nm kids next =>
    have hk : k = 3 := hd
    subst hk
    obtain ⟨⟨vc, hl, -⟩, -⟩ := hat
    exact ⟨g, o, e, hl.1⟩
theorem repeat_b (c : List UInt8) (s : ByteArray) (n : Nat) (i : Int) (w : World) (hs : s = bs c) (hi : i = n) (hn : n ≤ 5000) (hc : c.length ≤ 4) :
    Calls Tryz.prog 18 #[.string s, .int .i64 i] w fun e w' => (∃ S, e = .returned (.string S) ∧ Hid (S = bs (Lib.repeatL c n)) ∧ S.size ≤ 20000) ∧ Below w.heap.size w w' := by
  subst hs hi
  have hl : (Lib.repeatL c n).length = n * c.length := by
    clear hn
    induction n with
    | zero => simp [Lib.repeatL]
    | succ n ih => rw [Lib.repeatL, List.length_append, ih, Nat.succ_mul]; omega
  have hb : n * c.length ≤ 20000 := Nat.le_trans (Nat.mul_le_mul hn hc) (by decide)
  have h := Tryz.strings_Repeat (bs c) n w (by omega) (by rw [bs_size]; have := Nat.mul_comm n c.length; omega)
  rw [bs_list] at h
  refine h.mono ?_
  rintro e w' ⟨rfl, b⟩
  exact ⟨⟨bs (Lib.repeatL c n), rfl, hid rfl, by rw [bs_size, hl]; exact hb⟩, b⟩
def dp (a b : Nat) (one : List UInt8) : List UInt8 := Lib.repeatL [40] a ++ one ++ Lib.repeatL [41] b
theorem dp1 : treeOf [] (dp 50 50 [49]) = (⟨1, [], valX 1, .nil⟩, 0) := by decide +kernel
theorem stm_any (p : Stm × Int) (n : Int) (h : p.2 = n) : ∃ k nm x b, p = (⟨k, nm, x, b⟩, n) := by
  subst h; exact ⟨p.1.kind, p.1.name, p.1.expr, p.1.body, rfl⟩
theorem dp2 : ∃ k nm x b, treeOf [] (dp 51 51 [49]) = (⟨k, nm, x, b⟩, 9) := stm_any _ _ (by decide +kernel)
theorem dp3 : ∃ k nm x b, treeOf [] (dp 51 50 [49]) = (⟨k, nm, x, b⟩, 170) := stm_any _ _ (by decide +kernel)
theorem dp4 : ∃ k nm x b, treeOf [] (dp 51 51 []) = (⟨k, nm, x, b⟩, 9) := stm_any _ _ (by decide +kernel)
theorem bs_glue (a b : List UInt8) : bs a ++ bs b = bs (a ++ b) := by
  unfold bs
  apply ByteArray.ext
  simp [ByteArray.data_append]
def bads : List (List UInt8) := [[], [97, 91, 49, 59, 93, 226, 134, 144, 50], [43], [49, 32, 50, 32, 97], [40], [226, 141, 181], [226, 136, 135, 32, 49], [49, 43], [40, 43, 41], [49, 32, 40, 50], [91, 49, 93], [97, 226, 134, 144], [226, 134, 144, 49], [49, 43, 47, 97], [226, 136, 152, 46, 43, 97], [43, 46, 195, 151, 97], [97, 43, 46, 44, 49], [97, 226, 134, 145], [226, 134, 145, 97], [49, 226, 137, 162, 49], [126], [49, 126, 97], [123, 125, 49], [123, 226, 139, 132, 125, 49], [123, 49, 58, 50, 58, 51, 125, 49], [123, 58, 49, 125, 49], [123, 97, 226, 134, 144, 125, 49], [97, 46, 98], [49, 58, 50], [97, 59, 98], [123, 49], [49, 125], [40, 49, 93], [123, 49, 125], [97, 226, 134, 144, 123, 49, 125, 226, 139, 132, 50], [102, 226, 134, 144, 123, 102, 226, 134, 144, 49, 125], [123, 49, 32, 50, 91, 125, 49]]
theorem bads_len : bads.length = 37 := rfl
theorem bads_bad : ∀ s ∈ bads, treeOf [] s = (noStm, 170) := by decide +kernel
theorem bads_short : ∀ s ∈ bads, s.length ≤ 300000 := by decide
theorem bd1 : treeOf [[102]] [102] = (noStm, 170) := by decide +kernel
theorem bd2 : treeOf [[102]] [102, 61, 49] = (noStm, 170) := by decide +kernel
theorem bd3 : treeOf [[102]] [49, 43, 102] = (noStm, 170) := by decide +kernel
theorem bd4 : treeOf [[102]] [123, 102, 226, 134, 144, 49, 226, 139, 132, 50, 125, 49] = (noStm, 170) := by decide +kernel
theorem bads_cells : (bads.map fun s => Value.string (bs s)).toArray = #[.string ⟨#[]⟩, .string ⟨#[97, 91, 49, 59, 93, 226, 134, 144, 50]⟩, .string ⟨#[43]⟩, .string ⟨#[49, 32, 50, 32, 97]⟩, .string ⟨#[40]⟩, .string ⟨#[226, 141, 181]⟩, .string ⟨#[226, 136, 135, 32, 49]⟩, .string ⟨#[49, 43]⟩, .string ⟨#[40, 43, 41]⟩, .string ⟨#[49, 32, 40, 50]⟩, .string ⟨#[91, 49, 93]⟩, .string ⟨#[97, 226, 134, 144]⟩, .string ⟨#[226, 134, 144, 49]⟩, .string ⟨#[49, 43, 47, 97]⟩, .string ⟨#[226, 136, 152, 46, 43, 97]⟩, .string ⟨#[43, 46, 195, 151, 97]⟩, .string ⟨#[97, 43, 46, 44, 49]⟩, .string ⟨#[97, 226, 134, 145]⟩, .string ⟨#[226, 134, 145, 97]⟩, .string ⟨#[49, 226, 137, 162, 49]⟩, .string ⟨#[126]⟩, .string ⟨#[49, 126, 97]⟩, .string ⟨#[123, 125, 49]⟩, .string ⟨#[123, 226, 139, 132, 125, 49]⟩, .string ⟨#[123, 49, 58, 50, 58, 51, 125, 49]⟩, .string ⟨#[123, 58, 49, 125, 49]⟩, .string ⟨#[123, 97, 226, 134, 144, 125, 49]⟩, .string ⟨#[97, 46, 98]⟩, .string ⟨#[49, 58, 50]⟩, .string ⟨#[97, 59, 98]⟩, .string ⟨#[123, 49]⟩, .string ⟨#[49, 125]⟩, .string ⟨#[40, 49, 93]⟩, .string ⟨#[123, 49, 125]⟩, .string ⟨#[97, 226, 134, 144, 123, 49, 125, 226, 139, 132, 50]⟩, .string ⟨#[102, 226, 134, 144, 123, 102, 226, 134, 144, 49, 125]⟩, .string ⟨#[123, 49, 32, 50, 91, 125, 49]⟩]:= rfl
theorem glyph_cell {w : World} (h : Gly w) : w.cell? ⟨0, 11, none⟩ = some (.string ⟨#[47]⟩) := by
  obtain ⟨a, c, e, h1, h2, h3, h4⟩ := h.b
  injection e with e1 e2 e3
  subst e1
  obtain ⟨g, o, e, hc⟩ := h4 11 (by decide)
  injection e with e; injection e with e4 e5
  subst e4 e5
  exact hc
set_option maxRecDepth 100000 in
theorem glyph31 (w : World) (h : Gly w) : Calls Tryz.prog 21 #[.int .i64 31] w fun e w' => e = .returned (.string ⟨#[47]⟩) ∧ Below w.heap.size w w' := by
  have c := glyph_cell h
  go_enter Tryz.func21, Tryz.ntmps21
  go_wp2_with fail
  go_ret
  exact ⟨rfl, Below.refl _ _⟩
set_option maxRecDepth 100000 in
theorem sglyph19 (w : World) : Calls Tryz.prog 41 #[.int .i64 19] w fun e w' => e = .returned (.string ⟨#[]⟩) ∧ Below w.heap.size w w' := by
  go_enter Tryz.func41, Tryz.ntmps41
  go_wp2_with fail
  go_ret
  exact ⟨rfl, Below.refl _ _⟩
set_option maxRecDepth 100000 in
theorem glyph19 (w : World) : Calls Tryz.prog 21 #[.int .i64 19] w fun e w' => e = .returned (.string ⟨#[]⟩) ∧ Below w.heap.size w w' := by
  go_enter Tryz.func21, Tryz.ntmps21
  go_wp2_with fail
  refine (sglyph19 _).mono ?_
  rintro e w' ⟨rfl, b⟩
  go_wp2_with fail
  go_ret
  exact ⟨rfl, b⟩
end Go.Proofs.YtijfnnjgcgmnaaaGreatDoor.Par
