/- The law ParseNames: the examples of the chapter. -/
import Derived.Test.YtijfnnjgcgmnaaaGreatDoorPNames1
import Derived.Test.YtijfnnjgcgmnaaaGreatDoorPNames2
namespace Go.Proofs.YtijfnnjgcgmnaaaGreatDoor.Par
open Go.RowKit Go.Shelf
set_option linter.unusedVariables false
set_option linter.unusedSimpArgs false

def tab2 : List Fact := [.fn (⟨4, 1, 0, [], .nil⟩ : Fn), .ex (nameX [97]), .ex (valX 1), .ex (twoX (⟨4, 1, 0, [], .nil⟩ : Fn) (nameX [97]) (valX 1)), .lit (.bool true), .lit (.bool true), .fn (⟨5, 1, 3, [], .nil⟩ : Fn), .ex (nameX [97]), .ex (valX 1), .ex (twoX (⟨5, 1, 3, [], .nil⟩ : Fn) (nameX [97]) (valX 1)), .lit (.bool true), .lit (.bool true), .lit (.bool true), .fn (⟨3, 2, 0, [], .nil⟩ : Fn), .ex (nameX [97]), .ex (oneX (⟨3, 2, 0, [], .nil⟩ : Fn) (nameX [97])), .lit (.bool true), .lit (.bool true), .lit (.bool true), .fn (primF 31), .ex (nameX [97]), .ex (valX 1), .ex (twoX (primF 31) (nameX [97]) (valX 1)), .lit (.bool true), .lit (.bool true), .lit (.bool true), .fn (⟨6, 0, 0, [102], .nil⟩ : Fn), .ex (valX 1), .ex (nameX [97]), .ex (twoX (⟨6, 0, 0, [102], .nil⟩ : Fn) (valX 1) (nameX [97])), .strs [[102]], .lit (.bool true), .lit (.bool true), .lit (.bool true), .fn (⟨6, 0, 0, [102], .nil⟩ : Fn), .ex (valX 1), .ex (oneX (⟨6, 0, 0, [102], .nil⟩ : Fn) (valX 1)), .strs [[102]], .lit (.bool true), .lit (.bool true), .lit (.bool true), .ex (nameX [97]), .lit (.bool true), .lit (.bool true), .lit (.bool true), .fn (primF 2), .ex (valX 1), .ex (valX 2), .ex (twoX (primF 2) (valX 1) (valX 2)), .lit (.bool true), .lit (.bool true), .lit (.bool true), .fn (primF 2), .fn (primF 20), .ex (nameX [97]), .ex (oneX (primF 20) (nameX [97])), .ex (oneX (primF 2) (oneX (primF 20) (nameX [97]))), .lit (.bool true), .lit (.bool true), .lit (.bool true)]
def sl2 (k : Nat) : Nat := if k = 59 then 2 else 30 + k
theorem sl2_inj : ∀ i j, sl2 i = sl2 j → i = j := by
  intro i j h
  unfold sl2 at h
  split at h <;> split at h <;> omega
def ds2 : List Nat := (List.range 59).map (fun k => 30 + k) ++ [2]
theorem ds2_nodup : ds2.Nodup := by decide
theorem nm2_4 : treeOf [] [97, 226, 136, 152, 46, 43, 49] = (⟨1, [], (twoX (⟨4, 1, 0, [], .nil⟩ : Fn) (nameX [97]) (valX 1)), .nil⟩, 0) := by decide +kernel
theorem nm2_10 : treeOf [] [97, 43, 46, 195, 151, 49] = (⟨1, [], (twoX (⟨5, 1, 3, [], .nil⟩ : Fn) (nameX [97]) (valX 1)), .nil⟩, 0) := by decide +kernel
theorem nm2_16 : treeOf [] [45, 92, 97] = (⟨1, [], (oneX (⟨3, 2, 0, [], .nil⟩ : Fn) (nameX [97])), .nil⟩, 0) := by decide +kernel
theorem nm2_23 : treeOf [] [97, 47, 49] = (⟨1, [], (twoX (primF 31) (nameX [97]) (valX 1)), .nil⟩, 0) := by decide +kernel
theorem nm2_31 : treeOf [[102]] [49, 32, 102, 32, 97] = (⟨1, [], (twoX (⟨6, 0, 0, [102], .nil⟩ : Fn) (valX 1) (nameX [97])), .nil⟩, 0) := by decide +kernel
theorem nm2_38 : treeOf [[102]] [102, 32, 49] = (⟨1, [], (oneX (⟨6, 0, 0, [102], .nil⟩ : Fn) (valX 1)), .nil⟩, 0) := by decide +kernel
theorem nm2_42 : treeOf [] [40, 40, 97, 41, 41] = (⟨1, [], (nameX [97]), .nil⟩, 0) := by decide +kernel
theorem nm2_49 : treeOf [] [40, 49, 41, 45, 40, 50, 41] = (⟨1, [], (twoX (primF 2) (valX 1) (valX 2)), .nil⟩, 0) := by decide +kernel
theorem nm2_57 : treeOf [] [45, 226, 141, 180, 97] = (⟨1, [], (oneX (primF 2) (oneX (primF 20) (nameX [97]))), .nil⟩, 0) := by decide +kernel
def t3 : Tr := (nameX [97]).cons ((valX 1).cons ((⟨8, [], noArr, noFn, .nil⟩ : Ex).cons .nil))
def tab3 : List Fact := [.ex (nameX [97]), .ex (valX 1), .ex (⟨8, [], noArr, noFn, .nil⟩ : Ex), .exs 3 t3, .exv 3 t3, .any, .any]
def sl3 (k : Nat) : Nat := if k = 5 then 3 else 89 + k
theorem sl3_inj : ∀ i j, sl3 i = sl3 j → i = j := by
  intro i j h
  unfold sl3 at h
  (repeat' split at h) <;> omega
def ds3 : List Nat := [89, 90, 91, 92, 93, 3]
theorem ds3_nodup : ds3.Nodup := by decide
def Dn3 (vs : Nat → Value) (w : World) : Prop := ∃ b g, vs 3 = .pointer (some ⟨b, 0, none⟩) ∧ w.heap[b]? = some (.cells #[.int .i64 7, .string ⟨#[]⟩, .int .i64 0, .slice none 0 0, .slice none 0 0, .int .i64 0, .int .i64 0, .int .i64 0, .string ⟨#[]⟩, .slice none 0 0, .slice (some ⟨g, 0, none⟩) 3 3] 34) ∧ IsTs w (.slice (some ⟨g, 0, none⟩) 3 3) t3
def t5a : Tr := (twoX (primF 9) (⟨4, [], noArr, noFn, .nil⟩ : Ex) (valX 0)).cons ((valX 1).cons .nil)
def t5b : Tr := (⟨3, [], noArr, noFn, .nil⟩ : Ex).cons .nil
def t5c : Tr := (oneX (⟨8, 0, 0, [], .nil⟩ : Fn) (⟨4, [], noArr, noFn, .nil⟩ : Ex)).cons .nil
def t5 : Tr := (⟨3, [], t5a⟩ : Ln).cons ((⟨2, [120], t5b⟩ : Ln).cons ((⟨1, [], t5c⟩ : Ln).cons .nil))
def tab5 : List Fact := [.fn (primF 9), .ex (⟨4, [], noArr, noFn, .nil⟩ : Ex), .ex (valX 0), .ex (twoX (primF 9) (⟨4, [], noArr, noFn, .nil⟩ : Ex) (valX 0)), .ex (valX 1), .exs 2 t5a, .lnv 3 [] 2 t5a, .ex (⟨3, [], noArr, noFn, .nil⟩ : Ex), .exs 1 t5b, .lnv 2 [120] 1 t5b, .fn (⟨8, 0, 0, [], .nil⟩ : Fn), .ex (⟨4, [], noArr, noFn, .nil⟩ : Ex), .ex (oneX (⟨8, 0, 0, [], .nil⟩ : Fn) (⟨4, [], noArr, noFn, .nil⟩ : Ex)), .exs 1 t5c, .lnv 1 [] 1 t5c, .exs 3 t5, .fnv 3 t5, .any, .any]
def sl5 (k : Nat) : Nat := if k = 17 then 5 else 95 + k
theorem sl5_inj : ∀ i j, sl5 i = sl5 j → i = j := by
  intro i j h
  unfold sl5 at h
  (repeat' split at h) <;> omega
def ds5 : List Nat := [95, 96, 97, 98, 99, 100, 101, 102, 103, 104, 105, 106, 107, 108, 109, 110, 111, 5]
theorem ds5_nodup : ds5.Nodup := by decide
def Dn5 (vs : Nat → Value) (w : World) : Prop := ∃ b g, vs 5 = .pointer (some ⟨b, 0, none⟩) ∧ w.heap[b]? = some (.cells #[.int .i64 7, .int .i64 0, .int .i64 0, .string ⟨#[]⟩, .slice (some ⟨g, 0, none⟩) 3 3] 31) ∧ IsTs w (.slice (some ⟨g, 0, none⟩) 3 3) t5
def ix3 : Ex := ⟨7, [], noArr, noFn, t3⟩
def t6 : Tr := ix3.cons ((valX 2).cons .nil)
def ix6 : Ex := ⟨7, [], noArr, noFn, t6⟩
def fn5 : Fn := ⟨7, 0, 0, [], t5⟩
theorem fr_ex {b : Nat → Prop} {w : World} {vc : Value} {t : Tr} (h : Fresh b w (IsTs · vc t)) : Fresh b w (IsE · (.agg #[.int .i64 7, .string ⟨#[]⟩, .int .i64 0, .slice none 0 0, .slice none 0 0, .int .i64 0, .int .i64 0, .int .i64 0, .string ⟨#[]⟩, .slice none 0 0, vc]) ⟨7, [], noArr, noFn, t⟩) :=
  Fresh.mkEx (x := ⟨7, [], noArr, noFn, t⟩) (Fresh.ints0 _ _) (Fresh.ints0 _ _) (fun i hi => by simp [noArr] at hi) (Fresh.nil _ _) h
theorem fr_fn {b : Nat → Prop} {w : World} {vc : Value} {t : Tr} (h : Fresh b w (IsTs · vc t)) : Fresh b w (IsF · (.agg #[.int .i64 7, .int .i64 0, .int .i64 0, .string ⟨#[]⟩, vc]) ⟨7, 0, 0, [], t⟩) := Fresh.mkFn (f := ⟨7, 0, 0, [], t⟩) h
def tab6 : List Fact := [.ex ix3, .lit (.bool true), .lit (.bool true), .ex ix3, .ex (valX 2), .exs 2 t6, .ex ix6, .lit (.bool true), .lit (.bool true), .lit (.bool true), .fn fn5, .ex (valX 1), .ex (oneX fn5 (valX 1)), .lit (.bool true), .lit (.bool true), .lit (.bool true)]
def sl6 (k : Nat) : Nat := if k = 15 then 6 else 112 + k
theorem sl6_inj : ∀ i j, sl6 i = sl6 j → i = j := by
  intro i j h
  unfold sl6 at h
  (repeat' split at h) <;> omega
def ds6 : List Nat := [112, 113, 114, 115, 116, 117, 118, 119, 120, 121, 122, 123, 124, 125, 126, 6]
theorem ds6_nodup : ds6.Nodup := by decide
theorem nm6_1 : treeOf [] [97, 91, 49, 59, 93] = (⟨1, [], ix3, .nil⟩, 0) := by decide +kernel
theorem nm6_7 : treeOf [] [97, 91, 49, 59, 93, 91, 50, 93] = (⟨1, [], ix6, .nil⟩, 0) := by decide +kernel
theorem nm6_13 : treeOf [] [123, 226, 141, 181, 61, 48, 58, 49, 226, 139, 132, 226, 139, 132, 120, 226, 134, 144, 226, 141, 186, 10, 226, 136, 135, 226, 141, 181, 125, 32, 49] = (⟨1, [], (oneX fn5 (valX 1)), .nil⟩, 0) := by decide +kernel
theorem dp1x : ∃ x b, treeOf [] (dp 50 50 [49]) = (⟨1, [], x, b⟩, 0) ∧ Hid (x = valX 1) := ⟨valX 1, .nil, dp1, hid rfl⟩
def tab24 (b : Nat) : List Fact := [.lit (.bool true), .lit (.bool true), .lit (.bool true), .lit (.bool true), .lit (.bool true), .lit (.bool true), .lit (.bool true), .lit (.bool true), .lit (.bool true), .lit (.bool true), .lit (.bool true), .lit (.bool true), .lit (.bool true), .lit (.bool true), .lit (.bool true), .lit (.bool true), .lit (.int .i64 0), .lit (.bool true), .lit (.bool true), .lit (.bool true), .lit (.pointer (some ⟨b, 2, none⟩)), .ex (valX 1), .ex (valX 1), .lit (.bool true), .lit (.bool true), .lit (.bool true), .lit (.int .i64 9), .lit (.bool true), .lit (.bool true), .lit (.bool true), .lit (.int .i64 170), .lit (.bool true), .lit (.bool true), .lit (.bool true), .lit (.int .i64 9), .lit (.bool true), .lit (.bool true), .lit (.bool true), .lit (.bool true), .lit (.bool true), .lit (.bool true), .lit (.bool true), .lit (.bool true), .lit (.bool true), .lit (.bool true), .lit (.bool true), .lit (.bool true), .lit (.bool false), .lit (.bool true), .lit (.bool true), .lit (.bool true), .lit (.string ⟨#[47]⟩), .lit (.bool true), .lit (.bool true), .lit (.bool true), .lit (.string ⟨#[]⟩), .lit (.bool true), .lit (.bool true), .lit (.bool true), .lit (.int .i64 28), .lit (.bool true), .lit (.bool true), .lit (.bool true), .lit (.int .i64 0), .lit (.bool true), .lit (.bool true), .lit (.bool true)]
def sl24 (k : Nat) : Nat := if k = 66 then 0 else 257 + k
theorem sl24_inj : ∀ i j, sl24 i = sl24 j → i = j := by
  intro i j h
  unfold sl24 at h
  (repeat' split at h) <;> omega
def ds24 : List Nat := (List.range 66).map (fun k => 257 + k) ++ [0]
theorem ds24_nodup : ds24.Nodup := by decide
def v24 (k : Nat) : Value := if k = 0 then .bool false else undef
theorem fn24 : fnF [226, 134, 145] = 28 := by decide +kernel
theorem fn24b : fnF [226, 134, 144] = 0 := by decide +kernel
set_option maxRecDepth 100000 in
set_option maxHeartbeats 16000000 in
theorem names_walk (w : World) (hG : Glob w) (hgy : Gly w) : Calls Tryz.prog 5 #[] w fun e w' => e = .returned (.bool true) ∧ Below w.heap.size w w' := by
  have hX := heap_alloc_new w (.cells #[.int .i64 2, .string ⟨#[97]⟩, .int .i64 0, .slice none 0 0, .slice none 0 0, .int .i64 0, .int .i64 0, .int .i64 0, .string ⟨#[]⟩, .slice none 0 0, .slice none 0 0] 34)
  have hB := (Below.refl _ w).alloc (Nat.le_refl _) (.cells #[.int .i64 2, .string ⟨#[97]⟩, .int .i64 0, .slice none 0 0, .slice none 0 0, .int .i64 0, .int .i64 0, .int .i64 0, .string ⟨#[]⟩, .slice none 0 0, .slice none 0 0] 34)
  go_enter Tryz.func5, Tryz.ntmps5
  go_upto_region 2 with fail
  generalize w.alloc (.cells #[.int .i64 2, .string ⟨#[97]⟩, .int .i64 0, .slice none 0 0, .slice none 0 0, .int .i64 0, .int .i64 0, .int .i64 0, .string ⟨#[]⟩, .slice none 0 0, .slice none 0 0] 34) = w1 at *
  have hGV : ∀ V, Below w1.heap.size w1 V → Glob V ∧ Gly V := fun V hV => ⟨hG.below (hB.trans (hV.mono hB.size)), hgy.below (hB.trans (hV.mono hB.size))⟩
  have hA : ∀ V, Below w1.heap.size w1 V → V.heap[w.heap.size]? = some (.cells #[.int .i64 2, .string ⟨#[97]⟩, .int .i64 0, .slice none 0 0, .slice none 0 0, .int .i64 0, .int .i64 0, .int .i64 0, .string ⟨#[]⟩, .slice none 0 0, .slice none 0 0] 34) := fun V hV => (hV.block _ (Array.getElem?_eq_some_iff.1 hX).1).trans hX
  refine region_vals ds2 ds2_nodup _ (RS0 w1 sl2 tab2) (fun _ => undef) (by kernel_rfl) (by kernel_rfl) rfl (by kernel_rfl) (by kernel_rfl) ⟨(Below.refl _ _).drew, fun k f _ hd => by cases hd⟩ ?_ ?_
  · intro i hi d vs V A hfar hv hd hdep hJ
    have hi2 : i < 60 := hi
    have hgr := hJ.gr
    have p1 : A.tmps[1]? = some (.pointer (some ⟨w.heap.size, 0, none⟩)) := (hfar 1 (by decide)).trans rfl
    clear hfar hi
    rcases (by omega : i = 0 ∨ i = 1 ∨ i = 2 ∨ i = 3 ∨ i = 4 ∨ i = 5 ∨ i = 6 ∨ i = 7 ∨ i = 8 ∨ i = 9 ∨ i = 10 ∨ i = 11 ∨ i = 12 ∨ i = 13 ∨ i = 14 ∨ i = 15 ∨ i = 16 ∨ i = 17 ∨ i = 18 ∨ i = 19 ∨ i = 20 ∨ i = 21 ∨ i = 22 ∨ i = 23 ∨ i = 24 ∨ i = 25 ∨ i = 26 ∨ i = 27 ∨ i = 28 ∨ i = 29 ∨ i = 30 ∨ i = 31 ∨ i = 32 ∨ i = 33 ∨ i = 34 ∨ i = 35 ∨ i = 36 ∨ i = 37 ∨ i = 38 ∨ i = 39 ∨ i = 40 ∨ i = 41 ∨ i = 42 ∨ i = 43 ∨ i = 44 ∨ i = 45 ∨ i = 46 ∨ i = 47 ∨ i = 48 ∨ i = 49 ∨ i = 50 ∨ i = 51 ∨ i = 52 ∨ i = 53 ∨ i = 54 ∨ i = 55 ∨ i = 56 ∨ i = 57 ∨ i = 58 ∨ i = 59) with rfl | rfl | rfl | rfl | rfl | rfl | rfl | rfl | rfl | rfl | rfl | rfl | rfl | rfl | rfl | rfl | rfl | rfl | rfl | rfl | rfl | rfl | rfl | rfl | rfl | rfl | rfl | rfl | rfl | rfl | rfl | rfl | rfl | rfl | rfl | rfl | rfl | rfl | rfl | rfl | rfl | rfl | rfl | rfl | rfl | rfl | rfl | rfl | rfl | rfl | rfl | rfl | rfl | rfl | rfl | rfl | rfl | rfl | rfl | rfl
    · refine step_free rfl rfl (fun K' hK => ?_)
      clear hv hdep
      go_simp
      exact hK _ _ ⟨upd vs 30 (.agg #[.int .i64 4, .int .i64 1, .int .i64 0, .string ⟨#[]⟩, .slice none 0 0]), .inr ⟨30, .agg #[.int .i64 4, .int .i64 1, .int .i64 0, .string ⟨#[]⟩, .slice none 0 0], by decide, rfl, rfl⟩, hJ.step sl2_inj 0 _ rfl (Below.refl _ _) (.agg #[.int .i64 4, .int .i64 1, .int .i64 0, .string ⟨#[]⟩, .slice none 0 0]) (fn_lit _ _ 4 1 0 [])⟩
    · refine step_free rfl rfl (fun K' hK => ?_)
      clear hv hdep
      obtain ⟨⟨c0, c1, c2, c3, c4, c5, c6, c7, c8, c9, c10⟩, -⟩ := ex_facts (hA V hgr)
      go_simp
      exact hK _ _ ⟨upd vs 31 (.agg #[.int .i64 2, .string ⟨#[97]⟩, .int .i64 0, .slice none 0 0, .slice none 0 0, .int .i64 0, .int .i64 0, .int .i64 0, .string ⟨#[]⟩, .slice none 0 0, .slice none 0 0]), .inr ⟨31, .agg #[.int .i64 2, .string ⟨#[97]⟩, .int .i64 0, .slice none 0 0, .slice none 0 0, .int .i64 0, .int .i64 0, .int .i64 0, .string ⟨#[]⟩, .slice none 0 0, .slice none 0 0], by decide, rfl, rfl⟩, hJ.step sl2_inj 1 _ rfl (Below.refl _ _) (.agg #[.int .i64 2, .string ⟨#[97]⟩, .int .i64 0, .slice none 0 0, .slice none 0 0, .int .i64 0, .int .i64 0, .int .i64 0, .string ⟨#[]⟩, .slice none 0 0, .slice none 0 0]) (ex_lit _ _ 2 [97])⟩
    · refine step_free rfl rfl (fun K' hK => ?_)
      clear hv hdep
      go_simp
      go_at_call 14
      refine (value18_new 1 _ (by decide) (by decide)).mono ?_
      rintro e W ⟨⟨v, rfl, f⟩, b⟩
      exact hK _ _ ⟨upd vs 32 (v), .inr ⟨32, v, by decide, rfl, rfl⟩, hJ.step sl2_inj 2 _ rfl (b) (v) (f.weak (fun _ _ => trivial))⟩
    · have e0 := hJ.val 0 _ rfl (hdep 0 (by decide))
      have e1 := hJ.val 1 _ rfl (hdep 1 (by decide))
      have e2 := hJ.val 2 _ rfl (hdep 2 (by decide))
      have a30 : A.tmps[30]? = some (vs 30) := hv 30 (by decide)
      have a31 : A.tmps[31]? = some (vs 31) := hv 31 (by decide)
      have a32 : A.tmps[32]? = some (vs 32) := hv 32 (by decide)
      refine step_free rfl rfl (fun K' hK => ?_)
      clear hv hdep
      go_simp
      go_at_call 13
      refine (two18_new (fun _ => True) _ _ _ _ _ _ _ (fun _ _ => trivial) e0 e1 e2).mono ?_
      rintro e W ⟨⟨v, rfl, f⟩, b⟩
      exact hK _ _ ⟨upd vs 33 (v), .inr ⟨33, v, by decide, rfl, rfl⟩, hJ.step sl2_inj 3 _ rfl (b) (v) (f)⟩
    · have e3 := hJ.val 3 _ rfl (hdep 3 (by decide))
      have a33 : A.tmps[33]? = some (vs 33) := hv 33 (by decide)
      refine step_free rfl rfl (fun K' hK => ?_)
      clear hv hdep
      go_simp
      go_at_call 12
      refine (gives18_F [] (by decide) [97, 226, 136, 152, 46, 43, 49] _ rfl _ _ _ _ (by decide) (strs_nil _) (hGV _ hgr).1 (hGV _ hgr).2 (by decide) (Fresh.self e3) nm2_4).mono ?_
      rintro e W ⟨rfl, b⟩
      exact hK _ _ ⟨upd vs 34 (.bool true), .inr ⟨34, .bool true, by decide, rfl, rfl⟩, hJ.step sl2_inj 4 _ rfl (b) (.bool true) (rfl)⟩
    · have e4 := hJ.val 4 _ rfl (hdep 4 (by decide))
      have e4 : vs 34 = .bool true := e4
      have a34 : A.tmps[34]? = some (vs 34) := hv 34 (by decide)
      rw [e4] at a34
      refine step_free rfl rfl (fun K' hK => ?_)
      clear hv hdep
      go_simp
      exact hK _ _ ⟨upd vs 35 (.bool true), .inr ⟨35, .bool true, by decide, rfl, rfl⟩, hJ.step sl2_inj 5 _ rfl (Below.refl _ _) (.bool true) (rfl)⟩
    · have e5 := hJ.val 5 _ rfl (hdep 5 (by decide))
      have e5 : vs 35 = .bool true := e5
      refine step_guard (j := 5) (s := 35) rfl rfl rfl (by rw [hv 35 (by decide), e5]) (fun K' hK => ?_)
      clear hv hdep
      go_simp
      exact hK _ _ ⟨upd vs 36 (.agg #[.int .i64 5, .int .i64 1, .int .i64 3, .string ⟨#[]⟩, .slice none 0 0]), .inr ⟨36, .agg #[.int .i64 5, .int .i64 1, .int .i64 3, .string ⟨#[]⟩, .slice none 0 0], by decide, rfl, rfl⟩, hJ.step sl2_inj 6 _ rfl (Below.refl _ _) (.agg #[.int .i64 5, .int .i64 1, .int .i64 3, .string ⟨#[]⟩, .slice none 0 0]) (fn_lit _ _ 5 1 3 [])⟩
    · have e5 := hJ.val 5 _ rfl (hdep 5 (by decide))
      have e5 : vs 35 = .bool true := e5
      refine step_guard (j := 5) (s := 35) rfl rfl rfl (by rw [hv 35 (by decide), e5]) (fun K' hK => ?_)
      clear hv hdep
      obtain ⟨⟨c0, c1, c2, c3, c4, c5, c6, c7, c8, c9, c10⟩, -⟩ := ex_facts (hA V hgr)
      go_simp
      exact hK _ _ ⟨upd vs 37 (.agg #[.int .i64 2, .string ⟨#[97]⟩, .int .i64 0, .slice none 0 0, .slice none 0 0, .int .i64 0, .int .i64 0, .int .i64 0, .string ⟨#[]⟩, .slice none 0 0, .slice none 0 0]), .inr ⟨37, .agg #[.int .i64 2, .string ⟨#[97]⟩, .int .i64 0, .slice none 0 0, .slice none 0 0, .int .i64 0, .int .i64 0, .int .i64 0, .string ⟨#[]⟩, .slice none 0 0, .slice none 0 0], by decide, rfl, rfl⟩, hJ.step sl2_inj 7 _ rfl (Below.refl _ _) (.agg #[.int .i64 2, .string ⟨#[97]⟩, .int .i64 0, .slice none 0 0, .slice none 0 0, .int .i64 0, .int .i64 0, .int .i64 0, .string ⟨#[]⟩, .slice none 0 0, .slice none 0 0]) (ex_lit _ _ 2 [97])⟩
    · have e5 := hJ.val 5 _ rfl (hdep 5 (by decide))
      have e5 : vs 35 = .bool true := e5
      refine step_guard (j := 5) (s := 35) rfl rfl rfl (by rw [hv 35 (by decide), e5]) (fun K' hK => ?_)
      clear hv hdep
      go_simp
      go_at_call 14
      refine (value18_new 1 _ (by decide) (by decide)).mono ?_
      rintro e W ⟨⟨v, rfl, f⟩, b⟩
      exact hK _ _ ⟨upd vs 38 (v), .inr ⟨38, v, by decide, rfl, rfl⟩, hJ.step sl2_inj 8 _ rfl (b) (v) (f.weak (fun _ _ => trivial))⟩
    · have e5 := hJ.val 5 _ rfl (hdep 5 (by decide))
      have e6 := hJ.val 6 _ rfl (hdep 6 (by decide))
      have e7 := hJ.val 7 _ rfl (hdep 7 (by decide))
      have e8 := hJ.val 8 _ rfl (hdep 8 (by decide))
      have e5 : vs 35 = .bool true := e5
      have a36 : A.tmps[36]? = some (vs 36) := hv 36 (by decide)
      have a37 : A.tmps[37]? = some (vs 37) := hv 37 (by decide)
      have a38 : A.tmps[38]? = some (vs 38) := hv 38 (by decide)
      refine step_guard (j := 5) (s := 35) rfl rfl rfl (by rw [hv 35 (by decide), e5]) (fun K' hK => ?_)
      clear hv hdep
      go_simp
      go_at_call 13
      refine (two18_new (fun _ => True) _ _ _ _ _ _ _ (fun _ _ => trivial) e6 e7 e8).mono ?_
      rintro e W ⟨⟨v, rfl, f⟩, b⟩
      exact hK _ _ ⟨upd vs 39 (v), .inr ⟨39, v, by decide, rfl, rfl⟩, hJ.step sl2_inj 9 _ rfl (b) (v) (f)⟩
    · have e5 := hJ.val 5 _ rfl (hdep 5 (by decide))
      have e9 := hJ.val 9 _ rfl (hdep 9 (by decide))
      have e5 : vs 35 = .bool true := e5
      have a39 : A.tmps[39]? = some (vs 39) := hv 39 (by decide)
      refine step_guard (j := 5) (s := 35) rfl rfl rfl (by rw [hv 35 (by decide), e5]) (fun K' hK => ?_)
      clear hv hdep
      go_simp
      go_at_call 12
      refine (gives18_F [] (by decide) [97, 43, 46, 195, 151, 49] _ rfl _ _ _ _ (by decide) (strs_nil _) (hGV _ hgr).1 (hGV _ hgr).2 (by decide) (Fresh.self e9) nm2_10).mono ?_
      rintro e W ⟨rfl, b⟩
      exact hK _ _ ⟨upd vs 40 (.bool true), .inr ⟨40, .bool true, by decide, rfl, rfl⟩, hJ.step sl2_inj 10 _ rfl (b) (.bool true) (rfl)⟩
    · have e5 := hJ.val 5 _ rfl (hdep 5 (by decide))
      have e10 := hJ.val 10 _ rfl (hdep 10 (by decide))
      have e5 : vs 35 = .bool true := e5
      have e10 : vs 40 = .bool true := e10
      have a35 : A.tmps[35]? = some (vs 35) := hv 35 (by decide)
      rw [e5] at a35
      have a40 : A.tmps[40]? = some (vs 40) := hv 40 (by decide)
      rw [e10] at a40
      refine step_free rfl rfl (fun K' hK => ?_)
      clear hv hdep
      go_simp
      exact hK _ _ ⟨upd vs 41 (.bool true), .inr ⟨41, .bool true, by decide, rfl, rfl⟩, hJ.step sl2_inj 11 _ rfl (Below.refl _ _) (.bool true) (rfl)⟩
    · have e11 := hJ.val 11 _ rfl (hdep 11 (by decide))
      have e11 : vs 41 = .bool true := e11
      have a41 : A.tmps[41]? = some (vs 41) := hv 41 (by decide)
      rw [e11] at a41
      refine step_free rfl rfl (fun K' hK => ?_)
      clear hv hdep
      go_simp
      exact hK _ _ ⟨upd vs 42 (.bool true), .inr ⟨42, .bool true, by decide, rfl, rfl⟩, hJ.step sl2_inj 12 _ rfl (Below.refl _ _) (.bool true) (rfl)⟩
    · have e12 := hJ.val 12 _ rfl (hdep 12 (by decide))
      have e12 : vs 42 = .bool true := e12
      refine step_guard (j := 12) (s := 42) rfl rfl rfl (by rw [hv 42 (by decide), e12]) (fun K' hK => ?_)
      clear hv hdep
      go_simp
      exact hK _ _ ⟨upd vs 43 (.agg #[.int .i64 3, .int .i64 2, .int .i64 0, .string ⟨#[]⟩, .slice none 0 0]), .inr ⟨43, .agg #[.int .i64 3, .int .i64 2, .int .i64 0, .string ⟨#[]⟩, .slice none 0 0], by decide, rfl, rfl⟩, hJ.step sl2_inj 13 _ rfl (Below.refl _ _) (.agg #[.int .i64 3, .int .i64 2, .int .i64 0, .string ⟨#[]⟩, .slice none 0 0]) (fn_lit _ _ 3 2 0 [])⟩
    · have e12 := hJ.val 12 _ rfl (hdep 12 (by decide))
      have e12 : vs 42 = .bool true := e12
      refine step_guard (j := 12) (s := 42) rfl rfl rfl (by rw [hv 42 (by decide), e12]) (fun K' hK => ?_)
      clear hv hdep
      obtain ⟨⟨c0, c1, c2, c3, c4, c5, c6, c7, c8, c9, c10⟩, -⟩ := ex_facts (hA V hgr)
      go_simp
      exact hK _ _ ⟨upd vs 44 (.agg #[.int .i64 2, .string ⟨#[97]⟩, .int .i64 0, .slice none 0 0, .slice none 0 0, .int .i64 0, .int .i64 0, .int .i64 0, .string ⟨#[]⟩, .slice none 0 0, .slice none 0 0]), .inr ⟨44, .agg #[.int .i64 2, .string ⟨#[97]⟩, .int .i64 0, .slice none 0 0, .slice none 0 0, .int .i64 0, .int .i64 0, .int .i64 0, .string ⟨#[]⟩, .slice none 0 0, .slice none 0 0], by decide, rfl, rfl⟩, hJ.step sl2_inj 14 _ rfl (Below.refl _ _) (.agg #[.int .i64 2, .string ⟨#[97]⟩, .int .i64 0, .slice none 0 0, .slice none 0 0, .int .i64 0, .int .i64 0, .int .i64 0, .string ⟨#[]⟩, .slice none 0 0, .slice none 0 0]) (ex_lit _ _ 2 [97])⟩
    · have e12 := hJ.val 12 _ rfl (hdep 12 (by decide))
      have e13 := hJ.val 13 _ rfl (hdep 13 (by decide))
      have e14 := hJ.val 14 _ rfl (hdep 14 (by decide))
      have e12 : vs 42 = .bool true := e12
      have a43 : A.tmps[43]? = some (vs 43) := hv 43 (by decide)
      have a44 : A.tmps[44]? = some (vs 44) := hv 44 (by decide)
      refine step_guard (j := 12) (s := 42) rfl rfl rfl (by rw [hv 42 (by decide), e12]) (fun K' hK => ?_)
      clear hv hdep
      go_simp
      go_at_call 15
      refine (one18_new (fun _ => True) _ _ _ _ _ (fun _ _ => trivial) e13 e14).mono ?_
      rintro e W ⟨⟨v, rfl, f⟩, b⟩
      exact hK _ _ ⟨upd vs 45 (v), .inr ⟨45, v, by decide, rfl, rfl⟩, hJ.step sl2_inj 15 _ rfl (b) (v) (f)⟩
    · have e12 := hJ.val 12 _ rfl (hdep 12 (by decide))
      have e15 := hJ.val 15 _ rfl (hdep 15 (by decide))
      have e12 : vs 42 = .bool true := e12
      have a45 : A.tmps[45]? = some (vs 45) := hv 45 (by decide)
      refine step_guard (j := 12) (s := 42) rfl rfl rfl (by rw [hv 42 (by decide), e12]) (fun K' hK => ?_)
      clear hv hdep
      go_simp
      go_at_call 12
      refine (gives18_F [] (by decide) [45, 92, 97] _ rfl _ _ _ _ (by decide) (strs_nil _) (hGV _ hgr).1 (hGV _ hgr).2 (by decide) (Fresh.self e15) nm2_16).mono ?_
      rintro e W ⟨rfl, b⟩
      exact hK _ _ ⟨upd vs 46 (.bool true), .inr ⟨46, .bool true, by decide, rfl, rfl⟩, hJ.step sl2_inj 16 _ rfl (b) (.bool true) (rfl)⟩
    · have e12 := hJ.val 12 _ rfl (hdep 12 (by decide))
      have e16 := hJ.val 16 _ rfl (hdep 16 (by decide))
      have e12 : vs 42 = .bool true := e12
      have e16 : vs 46 = .bool true := e16
      have a42 : A.tmps[42]? = some (vs 42) := hv 42 (by decide)
      rw [e12] at a42
      have a46 : A.tmps[46]? = some (vs 46) := hv 46 (by decide)
      rw [e16] at a46
      refine step_free rfl rfl (fun K' hK => ?_)
      clear hv hdep
      go_simp
      exact hK _ _ ⟨upd vs 47 (.bool true), .inr ⟨47, .bool true, by decide, rfl, rfl⟩, hJ.step sl2_inj 17 _ rfl (Below.refl _ _) (.bool true) (rfl)⟩
    · have e17 := hJ.val 17 _ rfl (hdep 17 (by decide))
      have e17 : vs 47 = .bool true := e17
      have a47 : A.tmps[47]? = some (vs 47) := hv 47 (by decide)
      rw [e17] at a47
      refine step_free rfl rfl (fun K' hK => ?_)
      clear hv hdep
      go_simp
      exact hK _ _ ⟨upd vs 48 (.bool true), .inr ⟨48, .bool true, by decide, rfl, rfl⟩, hJ.step sl2_inj 18 _ rfl (Below.refl _ _) (.bool true) (rfl)⟩
    · have e18 := hJ.val 18 _ rfl (hdep 18 (by decide))
      have e18 : vs 48 = .bool true := e18
      refine step_guard (j := 18) (s := 48) rfl rfl rfl (by rw [hv 48 (by decide), e18]) (fun K' hK => ?_)
      clear hv hdep
      go_simp
      go_at_call 16
      refine (prim18_any 31 _).mono ?_
      rintro e W ⟨⟨v, rfl, f⟩, b⟩
      obtain ⟨vb, rfl, -⟩ := id f
      exact hK _ _ ⟨upd vs 49 (_), .inr ⟨49, _, by decide, rfl, rfl⟩, hJ.step sl2_inj 19 _ rfl (b) (_) (fun W' hW => f.soft (fun p v hp hv => hW p v trivial hp hv))⟩
    · have e18 := hJ.val 18 _ rfl (hdep 18 (by decide))
      have e18 : vs 48 = .bool true := e18
      refine step_guard (j := 18) (s := 48) rfl rfl rfl (by rw [hv 48 (by decide), e18]) (fun K' hK => ?_)
      clear hv hdep
      obtain ⟨⟨c0, c1, c2, c3, c4, c5, c6, c7, c8, c9, c10⟩, -⟩ := ex_facts (hA V hgr)
      go_simp
      exact hK _ _ ⟨upd vs 50 (.agg #[.int .i64 2, .string ⟨#[97]⟩, .int .i64 0, .slice none 0 0, .slice none 0 0, .int .i64 0, .int .i64 0, .int .i64 0, .string ⟨#[]⟩, .slice none 0 0, .slice none 0 0]), .inr ⟨50, .agg #[.int .i64 2, .string ⟨#[97]⟩, .int .i64 0, .slice none 0 0, .slice none 0 0, .int .i64 0, .int .i64 0, .int .i64 0, .string ⟨#[]⟩, .slice none 0 0, .slice none 0 0], by decide, rfl, rfl⟩, hJ.step sl2_inj 20 _ rfl (Below.refl _ _) (.agg #[.int .i64 2, .string ⟨#[97]⟩, .int .i64 0, .slice none 0 0, .slice none 0 0, .int .i64 0, .int .i64 0, .int .i64 0, .string ⟨#[]⟩, .slice none 0 0, .slice none 0 0]) (ex_lit _ _ 2 [97])⟩
    · have e18 := hJ.val 18 _ rfl (hdep 18 (by decide))
      have e18 : vs 48 = .bool true := e18
      refine step_guard (j := 18) (s := 48) rfl rfl rfl (by rw [hv 48 (by decide), e18]) (fun K' hK => ?_)
      clear hv hdep
      go_simp
      go_at_call 14
      refine (value18_new 1 _ (by decide) (by decide)).mono ?_
      rintro e W ⟨⟨v, rfl, f⟩, b⟩
      exact hK _ _ ⟨upd vs 51 (v), .inr ⟨51, v, by decide, rfl, rfl⟩, hJ.step sl2_inj 21 _ rfl (b) (v) (f.weak (fun _ _ => trivial))⟩
    · have e18 := hJ.val 18 _ rfl (hdep 18 (by decide))
      have e19 := hJ.val 19 _ rfl (hdep 19 (by decide))
      have e20 := hJ.val 20 _ rfl (hdep 20 (by decide))
      have e21 := hJ.val 21 _ rfl (hdep 21 (by decide))
      have e18 : vs 48 = .bool true := e18
      have a49 : A.tmps[49]? = some (vs 49) := hv 49 (by decide)
      have a50 : A.tmps[50]? = some (vs 50) := hv 50 (by decide)
      have a51 : A.tmps[51]? = some (vs 51) := hv 51 (by decide)
      refine step_guard (j := 18) (s := 48) rfl rfl rfl (by rw [hv 48 (by decide), e18]) (fun K' hK => ?_)
      clear hv hdep
      go_simp
      go_at_call 13
      refine (two18_new (fun _ => True) _ _ _ _ _ _ _ (fun _ _ => trivial) e19 e20 e21).mono ?_
      rintro e W ⟨⟨v, rfl, f⟩, b⟩
      exact hK _ _ ⟨upd vs 52 (v), .inr ⟨52, v, by decide, rfl, rfl⟩, hJ.step sl2_inj 22 _ rfl (b) (v) (f)⟩
    · have e18 := hJ.val 18 _ rfl (hdep 18 (by decide))
      have e22 := hJ.val 22 _ rfl (hdep 22 (by decide))
      have e18 : vs 48 = .bool true := e18
      have a52 : A.tmps[52]? = some (vs 52) := hv 52 (by decide)
      refine step_guard (j := 18) (s := 48) rfl rfl rfl (by rw [hv 48 (by decide), e18]) (fun K' hK => ?_)
      clear hv hdep
      go_simp
      go_at_call 12
      refine (gives18_F [] (by decide) [97, 47, 49] _ rfl _ _ _ _ (by decide) (strs_nil _) (hGV _ hgr).1 (hGV _ hgr).2 (by decide) (Fresh.self e22) nm2_23).mono ?_
      rintro e W ⟨rfl, b⟩
      exact hK _ _ ⟨upd vs 53 (.bool true), .inr ⟨53, .bool true, by decide, rfl, rfl⟩, hJ.step sl2_inj 23 _ rfl (b) (.bool true) (rfl)⟩
    · have e18 := hJ.val 18 _ rfl (hdep 18 (by decide))
      have e23 := hJ.val 23 _ rfl (hdep 23 (by decide))
      have e18 : vs 48 = .bool true := e18
      have e23 : vs 53 = .bool true := e23
      have a48 : A.tmps[48]? = some (vs 48) := hv 48 (by decide)
      rw [e18] at a48
      have a53 : A.tmps[53]? = some (vs 53) := hv 53 (by decide)
      rw [e23] at a53
      refine step_free rfl rfl (fun K' hK => ?_)
      clear hv hdep
      go_simp
      exact hK _ _ ⟨upd vs 54 (.bool true), .inr ⟨54, .bool true, by decide, rfl, rfl⟩, hJ.step sl2_inj 24 _ rfl (Below.refl _ _) (.bool true) (rfl)⟩
    · have e24 := hJ.val 24 _ rfl (hdep 24 (by decide))
      have e24 : vs 54 = .bool true := e24
      have a54 : A.tmps[54]? = some (vs 54) := hv 54 (by decide)
      rw [e24] at a54
      refine step_free rfl rfl (fun K' hK => ?_)
      clear hv hdep
      go_simp
      exact hK _ _ ⟨upd vs 55 (.bool true), .inr ⟨55, .bool true, by decide, rfl, rfl⟩, hJ.step sl2_inj 25 _ rfl (Below.refl _ _) (.bool true) (rfl)⟩
    · have e25 := hJ.val 25 _ rfl (hdep 25 (by decide))
      have e25 : vs 55 = .bool true := e25
      refine step_guard (j := 25) (s := 55) rfl rfl rfl (by rw [hv 55 (by decide), e25]) (fun K' hK => ?_)
      clear hv hdep
      go_simp
      exact hK _ _ ⟨upd vs 56 (.agg #[.int .i64 6, .int .i64 0, .int .i64 0, .string ⟨#[102]⟩, .slice none 0 0]), .inr ⟨56, .agg #[.int .i64 6, .int .i64 0, .int .i64 0, .string ⟨#[102]⟩, .slice none 0 0], by decide, rfl, rfl⟩, hJ.step sl2_inj 26 _ rfl (Below.refl _ _) (.agg #[.int .i64 6, .int .i64 0, .int .i64 0, .string ⟨#[102]⟩, .slice none 0 0]) (fn_lit _ _ 6 0 0 [102])⟩
    · have e25 := hJ.val 25 _ rfl (hdep 25 (by decide))
      have e25 : vs 55 = .bool true := e25
      refine step_guard (j := 25) (s := 55) rfl rfl rfl (by rw [hv 55 (by decide), e25]) (fun K' hK => ?_)
      clear hv hdep
      go_simp
      go_at_call 14
      refine (value18_new 1 _ (by decide) (by decide)).mono ?_
      rintro e W ⟨⟨v, rfl, f⟩, b⟩
      exact hK _ _ ⟨upd vs 57 (v), .inr ⟨57, v, by decide, rfl, rfl⟩, hJ.step sl2_inj 27 _ rfl (b) (v) (f.weak (fun _ _ => trivial))⟩
    · have e25 := hJ.val 25 _ rfl (hdep 25 (by decide))
      have e25 : vs 55 = .bool true := e25
      refine step_guard (j := 25) (s := 55) rfl rfl rfl (by rw [hv 55 (by decide), e25]) (fun K' hK => ?_)
      clear hv hdep
      obtain ⟨⟨c0, c1, c2, c3, c4, c5, c6, c7, c8, c9, c10⟩, -⟩ := ex_facts (hA V hgr)
      go_simp
      exact hK _ _ ⟨upd vs 58 (.agg #[.int .i64 2, .string ⟨#[97]⟩, .int .i64 0, .slice none 0 0, .slice none 0 0, .int .i64 0, .int .i64 0, .int .i64 0, .string ⟨#[]⟩, .slice none 0 0, .slice none 0 0]), .inr ⟨58, .agg #[.int .i64 2, .string ⟨#[97]⟩, .int .i64 0, .slice none 0 0, .slice none 0 0, .int .i64 0, .int .i64 0, .int .i64 0, .string ⟨#[]⟩, .slice none 0 0, .slice none 0 0], by decide, rfl, rfl⟩, hJ.step sl2_inj 28 _ rfl (Below.refl _ _) (.agg #[.int .i64 2, .string ⟨#[97]⟩, .int .i64 0, .slice none 0 0, .slice none 0 0, .int .i64 0, .int .i64 0, .int .i64 0, .string ⟨#[]⟩, .slice none 0 0, .slice none 0 0]) (ex_lit _ _ 2 [97])⟩
    · have e25 := hJ.val 25 _ rfl (hdep 25 (by decide))
      have e26 := hJ.val 26 _ rfl (hdep 26 (by decide))
      have e27 := hJ.val 27 _ rfl (hdep 27 (by decide))
      have e28 := hJ.val 28 _ rfl (hdep 28 (by decide))
      have e25 : vs 55 = .bool true := e25
      have a56 : A.tmps[56]? = some (vs 56) := hv 56 (by decide)
      have a57 : A.tmps[57]? = some (vs 57) := hv 57 (by decide)
      have a58 : A.tmps[58]? = some (vs 58) := hv 58 (by decide)
      refine step_guard (j := 25) (s := 55) rfl rfl rfl (by rw [hv 55 (by decide), e25]) (fun K' hK => ?_)
      clear hv hdep
      go_simp
      go_at_call 13
      refine (two18_new (fun _ => True) _ _ _ _ _ _ _ (fun _ _ => trivial) e26 e27 e28).mono ?_
      rintro e W ⟨⟨v, rfl, f⟩, b⟩
      exact hK _ _ ⟨upd vs 59 (v), .inr ⟨59, v, by decide, rfl, rfl⟩, hJ.step sl2_inj 29 _ rfl (b) (v) (f)⟩
    · have e25 := hJ.val 25 _ rfl (hdep 25 (by decide))
      have e25 : vs 55 = .bool true := e25
      refine step_guard (j := 25) (s := 55) rfl rfl rfl (by rw [hv 55 (by decide), e25]) (fun K' hK => ?_)
      clear hv hdep
      go_simp
      exact hK _ _ ⟨upd vs 60 (.slice (some ⟨V.heap.size, 0, none⟩) 1 1), .inr ⟨60, .slice (some ⟨V.heap.size, 0, none⟩) 1 1, by decide, rfl, rfl⟩, hJ.step sl2_inj 30 _ rfl ((Below.refl _ _).alloc (Nat.le_refl _) _) (.slice (some ⟨V.heap.size, 0, none⟩) 1 1) (Fresh.strs (strs_one (s := [102]) rfl (heap_alloc_new V _)) (fun _ _ _ => trivial))⟩
    · have e25 := hJ.val 25 _ rfl (hdep 25 (by decide))
      have e29 := hJ.val 29 _ rfl (hdep 29 (by decide))
      have e30 := hJ.val 30 _ rfl (hdep 30 (by decide))
      have e25 : vs 55 = .bool true := e25
      have a59 : A.tmps[59]? = some (vs 59) := hv 59 (by decide)
      have a60 : A.tmps[60]? = some (vs 60) := hv 60 (by decide)
      refine step_guard (j := 25) (s := 55) rfl rfl rfl (by rw [hv 55 (by decide), e25]) (fun K' hK => ?_)
      clear hv hdep
      go_simp
      go_at_call 12
      refine (gives18_F [[102]] (by decide) [49, 32, 102, 32, 97] _ rfl _ _ _ _ (by decide) (Fresh.self e30) (hGV _ hgr).1 (hGV _ hgr).2 (by decide) (Fresh.self e29) nm2_31).mono ?_
      rintro e W ⟨rfl, b⟩
      exact hK _ _ ⟨upd vs 61 (.bool true), .inr ⟨61, .bool true, by decide, rfl, rfl⟩, hJ.step sl2_inj 31 _ rfl (b) (.bool true) (rfl)⟩
    · have e25 := hJ.val 25 _ rfl (hdep 25 (by decide))
      have e31 := hJ.val 31 _ rfl (hdep 31 (by decide))
      have e25 : vs 55 = .bool true := e25
      have e31 : vs 61 = .bool true := e31
      have a55 : A.tmps[55]? = some (vs 55) := hv 55 (by decide)
      rw [e25] at a55
      have a61 : A.tmps[61]? = some (vs 61) := hv 61 (by decide)
      rw [e31] at a61
      refine step_free rfl rfl (fun K' hK => ?_)
      clear hv hdep
      go_simp
      exact hK _ _ ⟨upd vs 62 (.bool true), .inr ⟨62, .bool true, by decide, rfl, rfl⟩, hJ.step sl2_inj 32 _ rfl (Below.refl _ _) (.bool true) (rfl)⟩
    · have e32 := hJ.val 32 _ rfl (hdep 32 (by decide))
      have e32 : vs 62 = .bool true := e32
      have a62 : A.tmps[62]? = some (vs 62) := hv 62 (by decide)
      rw [e32] at a62
      refine step_free rfl rfl (fun K' hK => ?_)
      clear hv hdep
      go_simp
      exact hK _ _ ⟨upd vs 63 (.bool true), .inr ⟨63, .bool true, by decide, rfl, rfl⟩, hJ.step sl2_inj 33 _ rfl (Below.refl _ _) (.bool true) (rfl)⟩
    · have e33 := hJ.val 33 _ rfl (hdep 33 (by decide))
      have e33 : vs 63 = .bool true := e33
      refine step_guard (j := 33) (s := 63) rfl rfl rfl (by rw [hv 63 (by decide), e33]) (fun K' hK => ?_)
      clear hv hdep
      go_simp
      exact hK _ _ ⟨upd vs 64 (.agg #[.int .i64 6, .int .i64 0, .int .i64 0, .string ⟨#[102]⟩, .slice none 0 0]), .inr ⟨64, .agg #[.int .i64 6, .int .i64 0, .int .i64 0, .string ⟨#[102]⟩, .slice none 0 0], by decide, rfl, rfl⟩, hJ.step sl2_inj 34 _ rfl (Below.refl _ _) (.agg #[.int .i64 6, .int .i64 0, .int .i64 0, .string ⟨#[102]⟩, .slice none 0 0]) (fn_lit _ _ 6 0 0 [102])⟩
    · have e33 := hJ.val 33 _ rfl (hdep 33 (by decide))
      have e33 : vs 63 = .bool true := e33
      refine step_guard (j := 33) (s := 63) rfl rfl rfl (by rw [hv 63 (by decide), e33]) (fun K' hK => ?_)
      clear hv hdep
      go_simp
      go_at_call 14
      refine (value18_new 1 _ (by decide) (by decide)).mono ?_
      rintro e W ⟨⟨v, rfl, f⟩, b⟩
      exact hK _ _ ⟨upd vs 65 (v), .inr ⟨65, v, by decide, rfl, rfl⟩, hJ.step sl2_inj 35 _ rfl (b) (v) (f.weak (fun _ _ => trivial))⟩
    · have e33 := hJ.val 33 _ rfl (hdep 33 (by decide))
      have e34 := hJ.val 34 _ rfl (hdep 34 (by decide))
      have e35 := hJ.val 35 _ rfl (hdep 35 (by decide))
      have e33 : vs 63 = .bool true := e33
      have a64 : A.tmps[64]? = some (vs 64) := hv 64 (by decide)
      have a65 : A.tmps[65]? = some (vs 65) := hv 65 (by decide)
      refine step_guard (j := 33) (s := 63) rfl rfl rfl (by rw [hv 63 (by decide), e33]) (fun K' hK => ?_)
      clear hv hdep
      go_simp
      go_at_call 15
      refine (one18_new (fun _ => True) _ _ _ _ _ (fun _ _ => trivial) e34 e35).mono ?_
      rintro e W ⟨⟨v, rfl, f⟩, b⟩
      exact hK _ _ ⟨upd vs 66 (v), .inr ⟨66, v, by decide, rfl, rfl⟩, hJ.step sl2_inj 36 _ rfl (b) (v) (f)⟩
    · have e33 := hJ.val 33 _ rfl (hdep 33 (by decide))
      have e33 : vs 63 = .bool true := e33
      refine step_guard (j := 33) (s := 63) rfl rfl rfl (by rw [hv 63 (by decide), e33]) (fun K' hK => ?_)
      clear hv hdep
      go_simp
      exact hK _ _ ⟨upd vs 67 (.slice (some ⟨V.heap.size, 0, none⟩) 1 1), .inr ⟨67, .slice (some ⟨V.heap.size, 0, none⟩) 1 1, by decide, rfl, rfl⟩, hJ.step sl2_inj 37 _ rfl ((Below.refl _ _).alloc (Nat.le_refl _) _) (.slice (some ⟨V.heap.size, 0, none⟩) 1 1) (Fresh.strs (strs_one (s := [102]) rfl (heap_alloc_new V _)) (fun _ _ _ => trivial))⟩
    · have e33 := hJ.val 33 _ rfl (hdep 33 (by decide))
      have e36 := hJ.val 36 _ rfl (hdep 36 (by decide))
      have e37 := hJ.val 37 _ rfl (hdep 37 (by decide))
      have e33 : vs 63 = .bool true := e33
      have a66 : A.tmps[66]? = some (vs 66) := hv 66 (by decide)
      have a67 : A.tmps[67]? = some (vs 67) := hv 67 (by decide)
      refine step_guard (j := 33) (s := 63) rfl rfl rfl (by rw [hv 63 (by decide), e33]) (fun K' hK => ?_)
      clear hv hdep
      go_simp
      go_at_call 12
      refine (gives18_F [[102]] (by decide) [102, 32, 49] _ rfl _ _ _ _ (by decide) (Fresh.self e37) (hGV _ hgr).1 (hGV _ hgr).2 (by decide) (Fresh.self e36) nm2_38).mono ?_
      rintro e W ⟨rfl, b⟩
      exact hK _ _ ⟨upd vs 68 (.bool true), .inr ⟨68, .bool true, by decide, rfl, rfl⟩, hJ.step sl2_inj 38 _ rfl (b) (.bool true) (rfl)⟩
    · have e33 := hJ.val 33 _ rfl (hdep 33 (by decide))
      have e38 := hJ.val 38 _ rfl (hdep 38 (by decide))
      have e33 : vs 63 = .bool true := e33
      have e38 : vs 68 = .bool true := e38
      have a63 : A.tmps[63]? = some (vs 63) := hv 63 (by decide)
      rw [e33] at a63
      have a68 : A.tmps[68]? = some (vs 68) := hv 68 (by decide)
      rw [e38] at a68
      refine step_free rfl rfl (fun K' hK => ?_)
      clear hv hdep
      go_simp
      exact hK _ _ ⟨upd vs 69 (.bool true), .inr ⟨69, .bool true, by decide, rfl, rfl⟩, hJ.step sl2_inj 39 _ rfl (Below.refl _ _) (.bool true) (rfl)⟩
    · have e39 := hJ.val 39 _ rfl (hdep 39 (by decide))
      have e39 : vs 69 = .bool true := e39
      have a69 : A.tmps[69]? = some (vs 69) := hv 69 (by decide)
      rw [e39] at a69
      refine step_free rfl rfl (fun K' hK => ?_)
      clear hv hdep
      go_simp
      exact hK _ _ ⟨upd vs 70 (.bool true), .inr ⟨70, .bool true, by decide, rfl, rfl⟩, hJ.step sl2_inj 40 _ rfl (Below.refl _ _) (.bool true) (rfl)⟩
    · have e40 := hJ.val 40 _ rfl (hdep 40 (by decide))
      have e40 : vs 70 = .bool true := e40
      refine step_guard (j := 40) (s := 70) rfl rfl rfl (by rw [hv 70 (by decide), e40]) (fun K' hK => ?_)
      clear hv hdep
      obtain ⟨⟨c0, c1, c2, c3, c4, c5, c6, c7, c8, c9, c10⟩, -⟩ := ex_facts (hA V hgr)
      go_simp
      exact hK _ _ ⟨upd vs 71 (.agg #[.int .i64 2, .string ⟨#[97]⟩, .int .i64 0, .slice none 0 0, .slice none 0 0, .int .i64 0, .int .i64 0, .int .i64 0, .string ⟨#[]⟩, .slice none 0 0, .slice none 0 0]), .inr ⟨71, .agg #[.int .i64 2, .string ⟨#[97]⟩, .int .i64 0, .slice none 0 0, .slice none 0 0, .int .i64 0, .int .i64 0, .int .i64 0, .string ⟨#[]⟩, .slice none 0 0, .slice none 0 0], by decide, rfl, rfl⟩, hJ.step sl2_inj 41 _ rfl (Below.refl _ _) (.agg #[.int .i64 2, .string ⟨#[97]⟩, .int .i64 0, .slice none 0 0, .slice none 0 0, .int .i64 0, .int .i64 0, .int .i64 0, .string ⟨#[]⟩, .slice none 0 0, .slice none 0 0]) (ex_lit _ _ 2 [97])⟩
    · have e40 := hJ.val 40 _ rfl (hdep 40 (by decide))
      have e41 := hJ.val 41 _ rfl (hdep 41 (by decide))
      have e40 : vs 70 = .bool true := e40
      have a71 : A.tmps[71]? = some (vs 71) := hv 71 (by decide)
      refine step_guard (j := 40) (s := 70) rfl rfl rfl (by rw [hv 70 (by decide), e40]) (fun K' hK => ?_)
      clear hv hdep
      go_simp
      go_at_call 12
      refine (gives18_F [] (by decide) [40, 40, 97, 41, 41] _ rfl _ _ _ _ (by decide) (strs_nil _) (hGV _ hgr).1 (hGV _ hgr).2 (by decide) (Fresh.self e41) nm2_42).mono ?_
      rintro e W ⟨rfl, b⟩
      exact hK _ _ ⟨upd vs 72 (.bool true), .inr ⟨72, .bool true, by decide, rfl, rfl⟩, hJ.step sl2_inj 42 _ rfl (b) (.bool true) (rfl)⟩
    · have e40 := hJ.val 40 _ rfl (hdep 40 (by decide))
      have e42 := hJ.val 42 _ rfl (hdep 42 (by decide))
      have e40 : vs 70 = .bool true := e40
      have e42 : vs 72 = .bool true := e42
      have a70 : A.tmps[70]? = some (vs 70) := hv 70 (by decide)
      rw [e40] at a70
      have a72 : A.tmps[72]? = some (vs 72) := hv 72 (by decide)
      rw [e42] at a72
      refine step_free rfl rfl (fun K' hK => ?_)
      clear hv hdep
      go_simp
      exact hK _ _ ⟨upd vs 73 (.bool true), .inr ⟨73, .bool true, by decide, rfl, rfl⟩, hJ.step sl2_inj 43 _ rfl (Below.refl _ _) (.bool true) (rfl)⟩
    · have e43 := hJ.val 43 _ rfl (hdep 43 (by decide))
      have e43 : vs 73 = .bool true := e43
      have a73 : A.tmps[73]? = some (vs 73) := hv 73 (by decide)
      rw [e43] at a73
      refine step_free rfl rfl (fun K' hK => ?_)
      clear hv hdep
      go_simp
      exact hK _ _ ⟨upd vs 74 (.bool true), .inr ⟨74, .bool true, by decide, rfl, rfl⟩, hJ.step sl2_inj 44 _ rfl (Below.refl _ _) (.bool true) (rfl)⟩
    · have e44 := hJ.val 44 _ rfl (hdep 44 (by decide))
      have e44 : vs 74 = .bool true := e44
      refine step_guard (j := 44) (s := 74) rfl rfl rfl (by rw [hv 74 (by decide), e44]) (fun K' hK => ?_)
      clear hv hdep
      go_simp
      go_at_call 16
      refine (prim18_any 2 _).mono ?_
      rintro e W ⟨⟨v, rfl, f⟩, b⟩
      obtain ⟨vb, rfl, -⟩ := id f
      exact hK _ _ ⟨upd vs 75 (_), .inr ⟨75, _, by decide, rfl, rfl⟩, hJ.step sl2_inj 45 _ rfl (b) (_) (fun W' hW => f.soft (fun p v hp hv => hW p v trivial hp hv))⟩
    · have e44 := hJ.val 44 _ rfl (hdep 44 (by decide))
      have e44 : vs 74 = .bool true := e44
      refine step_guard (j := 44) (s := 74) rfl rfl rfl (by rw [hv 74 (by decide), e44]) (fun K' hK => ?_)
      clear hv hdep
      go_simp
      go_at_call 14
      refine (value18_new 1 _ (by decide) (by decide)).mono ?_
      rintro e W ⟨⟨v, rfl, f⟩, b⟩
      exact hK _ _ ⟨upd vs 76 (v), .inr ⟨76, v, by decide, rfl, rfl⟩, hJ.step sl2_inj 46 _ rfl (b) (v) (f.weak (fun _ _ => trivial))⟩
    · have e44 := hJ.val 44 _ rfl (hdep 44 (by decide))
      have e44 : vs 74 = .bool true := e44
      refine step_guard (j := 44) (s := 74) rfl rfl rfl (by rw [hv 74 (by decide), e44]) (fun K' hK => ?_)
      clear hv hdep
      go_simp
      go_at_call 14
      refine (value18_new 2 _ (by decide) (by decide)).mono ?_
      rintro e W ⟨⟨v, rfl, f⟩, b⟩
      exact hK _ _ ⟨upd vs 77 (v), .inr ⟨77, v, by decide, rfl, rfl⟩, hJ.step sl2_inj 47 _ rfl (b) (v) (f.weak (fun _ _ => trivial))⟩
    · have e44 := hJ.val 44 _ rfl (hdep 44 (by decide))
      have e45 := hJ.val 45 _ rfl (hdep 45 (by decide))
      have e46 := hJ.val 46 _ rfl (hdep 46 (by decide))
      have e47 := hJ.val 47 _ rfl (hdep 47 (by decide))
      have e44 : vs 74 = .bool true := e44
      have a75 : A.tmps[75]? = some (vs 75) := hv 75 (by decide)
      have a76 : A.tmps[76]? = some (vs 76) := hv 76 (by decide)
      have a77 : A.tmps[77]? = some (vs 77) := hv 77 (by decide)
      refine step_guard (j := 44) (s := 74) rfl rfl rfl (by rw [hv 74 (by decide), e44]) (fun K' hK => ?_)
      clear hv hdep
      go_simp
      go_at_call 13
      refine (two18_new (fun _ => True) _ _ _ _ _ _ _ (fun _ _ => trivial) e45 e46 e47).mono ?_
      rintro e W ⟨⟨v, rfl, f⟩, b⟩
      exact hK _ _ ⟨upd vs 78 (v), .inr ⟨78, v, by decide, rfl, rfl⟩, hJ.step sl2_inj 48 _ rfl (b) (v) (f)⟩
    · have e44 := hJ.val 44 _ rfl (hdep 44 (by decide))
      have e48 := hJ.val 48 _ rfl (hdep 48 (by decide))
      have e44 : vs 74 = .bool true := e44
      have a78 : A.tmps[78]? = some (vs 78) := hv 78 (by decide)
      refine step_guard (j := 44) (s := 74) rfl rfl rfl (by rw [hv 74 (by decide), e44]) (fun K' hK => ?_)
      clear hv hdep
      go_simp
      go_at_call 12
      refine (gives18_F [] (by decide) [40, 49, 41, 45, 40, 50, 41] _ rfl _ _ _ _ (by decide) (strs_nil _) (hGV _ hgr).1 (hGV _ hgr).2 (by decide) (Fresh.self e48) nm2_49).mono ?_
      rintro e W ⟨rfl, b⟩
      exact hK _ _ ⟨upd vs 79 (.bool true), .inr ⟨79, .bool true, by decide, rfl, rfl⟩, hJ.step sl2_inj 49 _ rfl (b) (.bool true) (rfl)⟩
    · have e44 := hJ.val 44 _ rfl (hdep 44 (by decide))
      have e49 := hJ.val 49 _ rfl (hdep 49 (by decide))
      have e44 : vs 74 = .bool true := e44
      have e49 : vs 79 = .bool true := e49
      have a74 : A.tmps[74]? = some (vs 74) := hv 74 (by decide)
      rw [e44] at a74
      have a79 : A.tmps[79]? = some (vs 79) := hv 79 (by decide)
      rw [e49] at a79
      refine step_free rfl rfl (fun K' hK => ?_)
      clear hv hdep
      go_simp
      exact hK _ _ ⟨upd vs 80 (.bool true), .inr ⟨80, .bool true, by decide, rfl, rfl⟩, hJ.step sl2_inj 50 _ rfl (Below.refl _ _) (.bool true) (rfl)⟩
    · have e50 := hJ.val 50 _ rfl (hdep 50 (by decide))
      have e50 : vs 80 = .bool true := e50
      have a80 : A.tmps[80]? = some (vs 80) := hv 80 (by decide)
      rw [e50] at a80
      refine step_free rfl rfl (fun K' hK => ?_)
      clear hv hdep
      go_simp
      exact hK _ _ ⟨upd vs 81 (.bool true), .inr ⟨81, .bool true, by decide, rfl, rfl⟩, hJ.step sl2_inj 51 _ rfl (Below.refl _ _) (.bool true) (rfl)⟩
    · have e51 := hJ.val 51 _ rfl (hdep 51 (by decide))
      have e51 : vs 81 = .bool true := e51
      refine step_guard (j := 51) (s := 81) rfl rfl rfl (by rw [hv 81 (by decide), e51]) (fun K' hK => ?_)
      clear hv hdep
      go_simp
      go_at_call 16
      refine (prim18_any 2 _).mono ?_
      rintro e W ⟨⟨v, rfl, f⟩, b⟩
      obtain ⟨vb, rfl, -⟩ := id f
      exact hK _ _ ⟨upd vs 82 (_), .inr ⟨82, _, by decide, rfl, rfl⟩, hJ.step sl2_inj 52 _ rfl (b) (_) (fun W' hW => f.soft (fun p v hp hv => hW p v trivial hp hv))⟩
    · have e51 := hJ.val 51 _ rfl (hdep 51 (by decide))
      have e51 : vs 81 = .bool true := e51
      refine step_guard (j := 51) (s := 81) rfl rfl rfl (by rw [hv 81 (by decide), e51]) (fun K' hK => ?_)
      clear hv hdep
      go_simp
      go_at_call 16
      refine (prim18_any 20 _).mono ?_
      rintro e W ⟨⟨v, rfl, f⟩, b⟩
      obtain ⟨vb, rfl, -⟩ := id f
      exact hK _ _ ⟨upd vs 83 (_), .inr ⟨83, _, by decide, rfl, rfl⟩, hJ.step sl2_inj 53 _ rfl (b) (_) (fun W' hW => f.soft (fun p v hp hv => hW p v trivial hp hv))⟩
    · have e51 := hJ.val 51 _ rfl (hdep 51 (by decide))
      have e51 : vs 81 = .bool true := e51
      refine step_guard (j := 51) (s := 81) rfl rfl rfl (by rw [hv 81 (by decide), e51]) (fun K' hK => ?_)
      clear hv hdep
      obtain ⟨⟨c0, c1, c2, c3, c4, c5, c6, c7, c8, c9, c10⟩, -⟩ := ex_facts (hA V hgr)
      go_simp
      exact hK _ _ ⟨upd vs 84 (.agg #[.int .i64 2, .string ⟨#[97]⟩, .int .i64 0, .slice none 0 0, .slice none 0 0, .int .i64 0, .int .i64 0, .int .i64 0, .string ⟨#[]⟩, .slice none 0 0, .slice none 0 0]), .inr ⟨84, .agg #[.int .i64 2, .string ⟨#[97]⟩, .int .i64 0, .slice none 0 0, .slice none 0 0, .int .i64 0, .int .i64 0, .int .i64 0, .string ⟨#[]⟩, .slice none 0 0, .slice none 0 0], by decide, rfl, rfl⟩, hJ.step sl2_inj 54 _ rfl (Below.refl _ _) (.agg #[.int .i64 2, .string ⟨#[97]⟩, .int .i64 0, .slice none 0 0, .slice none 0 0, .int .i64 0, .int .i64 0, .int .i64 0, .string ⟨#[]⟩, .slice none 0 0, .slice none 0 0]) (ex_lit _ _ 2 [97])⟩
    · have e51 := hJ.val 51 _ rfl (hdep 51 (by decide))
      have e53 := hJ.val 53 _ rfl (hdep 53 (by decide))
      have e54 := hJ.val 54 _ rfl (hdep 54 (by decide))
      have e51 : vs 81 = .bool true := e51
      have a83 : A.tmps[83]? = some (vs 83) := hv 83 (by decide)
      have a84 : A.tmps[84]? = some (vs 84) := hv 84 (by decide)
      refine step_guard (j := 51) (s := 81) rfl rfl rfl (by rw [hv 81 (by decide), e51]) (fun K' hK => ?_)
      clear hv hdep
      go_simp
      go_at_call 15
      refine (one18_new (fun _ => True) _ _ _ _ _ (fun _ _ => trivial) e53 e54).mono ?_
      rintro e W ⟨⟨v, rfl, f⟩, b⟩
      exact hK _ _ ⟨upd vs 85 (v), .inr ⟨85, v, by decide, rfl, rfl⟩, hJ.step sl2_inj 55 _ rfl (b) (v) (f)⟩
    · have e51 := hJ.val 51 _ rfl (hdep 51 (by decide))
      have e52 := hJ.val 52 _ rfl (hdep 52 (by decide))
      have e55 := hJ.val 55 _ rfl (hdep 55 (by decide))
      have e51 : vs 81 = .bool true := e51
      have a82 : A.tmps[82]? = some (vs 82) := hv 82 (by decide)
      have a85 : A.tmps[85]? = some (vs 85) := hv 85 (by decide)
      refine step_guard (j := 51) (s := 81) rfl rfl rfl (by rw [hv 81 (by decide), e51]) (fun K' hK => ?_)
      clear hv hdep
      go_simp
      go_at_call 15
      refine (one18_new (fun _ => True) _ _ _ _ _ (fun _ _ => trivial) e52 e55).mono ?_
      rintro e W ⟨⟨v, rfl, f⟩, b⟩
      exact hK _ _ ⟨upd vs 86 (v), .inr ⟨86, v, by decide, rfl, rfl⟩, hJ.step sl2_inj 56 _ rfl (b) (v) (f)⟩
    · have e51 := hJ.val 51 _ rfl (hdep 51 (by decide))
      have e56 := hJ.val 56 _ rfl (hdep 56 (by decide))
      have e51 : vs 81 = .bool true := e51
      have a86 : A.tmps[86]? = some (vs 86) := hv 86 (by decide)
      refine step_guard (j := 51) (s := 81) rfl rfl rfl (by rw [hv 81 (by decide), e51]) (fun K' hK => ?_)
      clear hv hdep
      go_simp
      go_at_call 12
      refine (gives18_F [] (by decide) [45, 226, 141, 180, 97] _ rfl _ _ _ _ (by decide) (strs_nil _) (hGV _ hgr).1 (hGV _ hgr).2 (by decide) (Fresh.self e56) nm2_57).mono ?_
      rintro e W ⟨rfl, b⟩
      exact hK _ _ ⟨upd vs 87 (.bool true), .inr ⟨87, .bool true, by decide, rfl, rfl⟩, hJ.step sl2_inj 57 _ rfl (b) (.bool true) (rfl)⟩
    · have e51 := hJ.val 51 _ rfl (hdep 51 (by decide))
      have e57 := hJ.val 57 _ rfl (hdep 57 (by decide))
      have e51 : vs 81 = .bool true := e51
      have e57 : vs 87 = .bool true := e57
      have a81 : A.tmps[81]? = some (vs 81) := hv 81 (by decide)
      rw [e51] at a81
      have a87 : A.tmps[87]? = some (vs 87) := hv 87 (by decide)
      rw [e57] at a87
      refine step_free rfl rfl (fun K' hK => ?_)
      clear hv hdep
      go_simp
      exact hK _ _ ⟨upd vs 88 (.bool true), .inr ⟨88, .bool true, by decide, rfl, rfl⟩, hJ.step sl2_inj 58 _ rfl (Below.refl _ _) (.bool true) (rfl)⟩
    · have e58 := hJ.val 58 _ rfl (hdep 58 (by decide))
      have e58 : vs 88 = .bool true := e58
      have a88 : A.tmps[88]? = some (vs 88) := hv 88 (by decide)
      rw [e58] at a88
      refine step_free rfl rfl (fun K' hK => ?_)
      clear hv hdep
      go_simp
      exact hK _ _ ⟨upd vs 2 (.bool true), .inr ⟨2, .bool true, by decide, rfl, rfl⟩, hJ.step sl2_inj 59 _ rfl (Below.refl _ _) (.bool true) (rfl)⟩
  · intro d vs V hall hJ
    have h2 : vs 2 = .bool true := hJ.val 59 _ rfl (hall 59 (show 59 < 60 by decide))
    have hB2 := hJ.gr
    clear hall hJ
    simp only [puts, ds2, List.range, List.range.loop, List.map_cons, List.map_nil, List.cons_append, List.nil_append, List.foldl_cons, List.foldl_nil, Act.put, List.setIfInBounds_toArray, List.set_cons_zero, List.set_cons_succ, Nat.reduceAdd]
    rw [h2]
    clear h2
    go_upto_region 3 with fail

    have hA3 : ∀ V', Below V.heap.size V V' → V'.heap[w.heap.size]? = some (.cells #[.int .i64 2, .string ⟨#[97]⟩, .int .i64 0, .slice none 0 0, .slice none 0 0, .int .i64 0, .int .i64 0, .int .i64 0, .string ⟨#[]⟩, .slice none 0 0, .slice none 0 0] 34) := fun V' h => hA V' (hB2.trans (h.mono hB2.size))
    go_upto_region 3 with fail
    refine region_vals ds3 ds3_nodup _ (RSA V 7 sl3 tab3 3 5 6 #[.int .i64 0, .string ⟨#[]⟩, .int .i64 0, .slice none 0 0, .slice none 0 0, .int .i64 0, .int .i64 0, .int .i64 0, .string ⟨#[]⟩, .slice none 0 0, .slice none 0 0] 34 Dn3) (fun _ => undef) (by kernel_rfl) (by kernel_rfl) rfl (by kernel_rfl) (by kernel_rfl) (RSA.start _ _ _ _ _ _ _ _ _ (Below.refl _ _).drew) ?_ ?_
    · intro i hi d vs V A hfar hv hd hdep hJ
      have hi2 : i < 7 := hi
      have hgr := hJ.gr
      have p1 : A.tmps[1]? = some (.pointer (some ⟨w.heap.size, 0, none⟩)) := (hfar 1 (by decide)).trans rfl
      clear hfar hi
      rcases (by omega : i = 0 ∨ i = 1 ∨ i = 2 ∨ i = 3 ∨ i = 4 ∨ i = 5 ∨ i = 6) with rfl | rfl | rfl | rfl | rfl | rfl | rfl
      · have hs : d 6 = false := by cases hh : d 6 with | false => rfl | true => (have := hJ.cl hh 0 (by decide); rw [hd] at this; cases this)
        refine step_free rfl rfl (fun K' hK => ?_)
        clear hv hdep
        obtain ⟨⟨c0, c1, c2, c3, c4, c5, c6, c7, c8, c9, c10⟩, -⟩ := ex_facts (hA3 V hgr)
        go_simp
        exact hK _ _ ⟨upd vs 89 (.agg #[.int .i64 2, .string ⟨#[97]⟩, .int .i64 0, .slice none 0 0, .slice none 0 0, .int .i64 0, .int .i64 0, .int .i64 0, .string ⟨#[]⟩, .slice none 0 0, .slice none 0 0]), .inr ⟨89, .agg #[.int .i64 2, .string ⟨#[97]⟩, .int .i64 0, .slice none 0 0, .slice none 0 0, .int .i64 0, .int .i64 0, .int .i64 0, .string ⟨#[]⟩, .slice none 0 0, .slice none 0 0], by decide, rfl, rfl⟩, hJ.step sl3_inj 0 (by decide) hd (by decide) (by decide) (by decide) _ rfl (Below.refl _ _) (.agg #[.int .i64 2, .string ⟨#[97]⟩, .int .i64 0, .slice none 0 0, .slice none 0 0, .int .i64 0, .int .i64 0, .int .i64 0, .string ⟨#[]⟩, .slice none 0 0, .slice none 0 0]) (ex_lit _ _ 2 [97])⟩
      · have hs : d 6 = false := by cases hh : d 6 with | false => rfl | true => (have := hJ.cl hh 1 (by decide); rw [hd] at this; cases this)
        refine step_free rfl rfl (fun K' hK => ?_)
        clear hv hdep
        go_simp
        go_at_call 14
        refine (value18_new 1 _ (by decide) (by decide)).mono ?_
        rintro e W ⟨⟨v, rfl, f⟩, b⟩
        exact hK _ _ ⟨upd vs 90 (v), .inr ⟨90, v, by decide, rfl, rfl⟩, hJ.step sl3_inj 1 (by decide) hd (by decide) (by decide) (by decide) _ rfl (b) (v) (f.weak (fun j hj => hJ.new (k := 1) (by decide) hd j hj))⟩
      · have hs : d 6 = false := by cases hh : d 6 with | false => rfl | true => (have := hJ.cl hh 2 (by decide); rw [hd] at this; cases this)
        refine step_free rfl rfl (fun K' hK => ?_)
        clear hv hdep
        go_simp
        exact hK _ _ ⟨upd vs 91 (.agg #[.int .i64 8, .string ⟨#[]⟩, .int .i64 0, .slice none 0 0, .slice none 0 0, .int .i64 0, .int .i64 0, .int .i64 0, .string ⟨#[]⟩, .slice none 0 0, .slice none 0 0]), .inr ⟨91, .agg #[.int .i64 8, .string ⟨#[]⟩, .int .i64 0, .slice none 0 0, .slice none 0 0, .int .i64 0, .int .i64 0, .int .i64 0, .string ⟨#[]⟩, .slice none 0 0, .slice none 0 0], by decide, rfl, rfl⟩, hJ.step sl3_inj 2 (by decide) hd (by decide) (by decide) (by decide) _ rfl (Below.refl _ _) (.agg #[.int .i64 8, .string ⟨#[]⟩, .int .i64 0, .slice none 0 0, .slice none 0 0, .int .i64 0, .int .i64 0, .int .i64 0, .string ⟨#[]⟩, .slice none 0 0, .slice none 0 0]) (ex_lit _ _ 8 [])⟩
      · have hs : d 6 = false := by cases hh : d 6 with | false => rfl | true => (have := hJ.cl hh 3 (by decide); rw [hd] at this; cases this)
        have e0 := hJ.val 0 _ rfl (hdep 0 (by decide)) hs
        rw [show sl3 0 = 89 from rfl] at e0
        have a89 : A.tmps[89]? = some (vs 89) := hv 89 (by decide)
        obtain ⟨xvs, xve, xvb, xvc, xq, x1, x2, x3, x4, x5⟩ := Fresh.ex e0
        obtain ⟨xa, xc, rfl, -⟩ := x1.self.parts
        obtain ⟨xe, xec, rfl, -⟩ := x2.self.parts
        obtain ⟨xb, xbc, rfl, -⟩ := x4.self.parts
        obtain ⟨xk, xkc, rfl, -⟩ := x5.self.parts
        rw [xq] at a89
        have e1 := hJ.val 1 _ rfl (hdep 1 (by decide)) hs
        rw [show sl3 1 = 90 from rfl] at e1
        have a90 : A.tmps[90]? = some (vs 90) := hv 90 (by decide)
        obtain ⟨yvs, yve, yvb, yvc, yq, y1, y2, y3, y4, y5⟩ := Fresh.ex e1
        obtain ⟨ya, yc, rfl, -⟩ := y1.self.parts
        obtain ⟨ye, yec, rfl, -⟩ := y2.self.parts
        obtain ⟨yb, ybc, rfl, -⟩ := y4.self.parts
        obtain ⟨yk, ykc, rfl, -⟩ := y5.self.parts
        rw [yq] at a90
        have e2 := hJ.val 2 _ rfl (hdep 2 (by decide)) hs
        rw [show sl3 2 = 91 from rfl] at e2
        have a91 : A.tmps[91]? = some (vs 91) := hv 91 (by decide)
        obtain ⟨zvs, zve, zvb, zvc, zq, z1, z2, z3, z4, z5⟩ := Fresh.ex e2
        obtain ⟨za, zc, rfl, -⟩ := z1.self.parts
        obtain ⟨ze, zec, rfl, -⟩ := z2.self.parts
        obtain ⟨zb, zbc, rfl, -⟩ := z4.self.parts
        obtain ⟨zk, zkc, rfl, -⟩ := z5.self.parts
        rw [zq] at a91
        refine step_free rfl rfl (fun K' hK => ?_)
        clear hv hdep
        go_simp
        exact hK _ _ ⟨upd vs 92 (.slice (some ⟨V.heap.size, 0, none⟩) 3 3), .inr ⟨92, .slice (some ⟨V.heap.size, 0, none⟩) 3 3, by decide, rfl, rfl⟩, hJ.step sl3_inj 3 (by decide) hd (by decide) (by decide) (by decide) _ rfl ((Below.refl _ _).alloc (Nat.le_refl _) _) (.slice (some ⟨V.heap.size, 0, none⟩) 3 3) (⟨V.heap.size, rfl, Cells.row (Cells.soft (Cells.ex _ _ _ _ _ _ _ x1 x2 x3 x4 x5 (Cells.ex _ _ _ _ _ _ _ y1 y2 y3 y4 y5 (Cells.ex _ _ _ _ _ _ _ z1 z2 z3 z4 z5 .nil))) (Soft.alloc V _)) (hJ.new (k := 3) (by decide) hd _ (Nat.le_refl _)) (heap_alloc_new V _) rfl (Nat.le_refl _) (by omega) (by intro i u hu; simpa [exL] using hu)⟩)⟩
      · have hs : d 6 = false := by cases hh : d 6 with | false => rfl | true => (have := hJ.cl hh 4 (by decide); rw [hd] at this; cases this)
        have e3 := hJ.val 3 _ rfl (hdep 3 (by decide)) hs
        rw [show sl3 3 = 92 from rfl] at e3
        have a92 : A.tmps[92]? = some (vs 92) := hv 92 (by decide)
        obtain ⟨g, hg, f⟩ := e3
        rw [hg] at a92
        refine step_free rfl rfl (fun K' hK => ?_)
        clear hv hdep
        go_simp
        exact hK _ _ ⟨upd vs 93 (.agg #[.int .i64 7, .string ⟨#[]⟩, .int .i64 0, .slice none 0 0, .slice none 0 0, .int .i64 0, .int .i64 0, .int .i64 0, .string ⟨#[]⟩, .slice none 0 0, .slice (some ⟨g, 0, none⟩) 3 3]), .inr ⟨93, .agg #[.int .i64 7, .string ⟨#[]⟩, .int .i64 0, .slice none 0 0, .slice none 0 0, .int .i64 0, .int .i64 0, .int .i64 0, .string ⟨#[]⟩, .slice none 0 0, .slice (some ⟨g, 0, none⟩) 3 3], by decide, rfl, rfl⟩, hJ.step sl3_inj 4 (by decide) hd (by decide) (by decide) (by decide) _ rfl (Below.refl _ _) (.agg #[.int .i64 7, .string ⟨#[]⟩, .int .i64 0, .slice none 0 0, .slice none 0 0, .int .i64 0, .int .i64 0, .int .i64 0, .string ⟨#[]⟩, .slice none 0 0, .slice (some ⟨g, 0, none⟩) 3 3]) (⟨g, rfl, f⟩)⟩
      · have hal := hJ.alloc (by decide) hd (by decide) (by intro k hk; unfold sl3; (repeat' split) <;> omega) rfl
        refine step_free rfl rfl (fun K' hK => ?_)
        clear hv hdep
        go_simp
        exact hK _ _ ⟨_, .inr ⟨3, _, by decide, rfl, rfl⟩, hal⟩
      · have e4 := hJ.val 4 _ rfl (hdep 4 (by decide)) hd
        rw [show sl3 4 = 93 from rfl] at e4
        have a93 : A.tmps[93]? = some (vs 93) := hv 93 (by decide)
        have aA : A.tmps[3]? = some (vs 3) := hv 3 (by decide)
        obtain ⟨g, hg, f⟩ := e4
        rw [hg] at a93
        obtain ⟨b, eb, q1, q2⟩ := hJ.al (hdep 5 (by decide)) hd
        rw [eb] at aA
        have hall : ∀ k, k < 7 → k ≠ 6 → d k = true := fun k hk hne => hdep k (by rcases (by omega : k = 0 ∨ k = 1 ∨ k = 2 ∨ k = 3 ∨ k = 4 ∨ k = 5) with rfl | rfl | rfl | rfl | rfl | rfl <;> decide)
        have hal := hdep 5 (by decide)
        obtain ⟨⟨c0, c1, c2, c3, c4, c5, c6, c7, c8, c9, c10⟩, ⟨z0, z1, z2, z3, z4, z5, z6, z7, z8, z9, z10⟩⟩ := ex_facts q2
        refine step_free rfl rfl (fun K' hK => ?_)
        have fin : ∀ W', Oth b V W' → W'.heap[b]? = some (.cells #[.int .i64 7, .string ⟨#[]⟩, .int .i64 0, .slice none 0 0, .slice none 0 0, .int .i64 0, .int .i64 0, .int .i64 0, .string ⟨#[]⟩, .slice none 0 0, .slice (some ⟨g, 0, none⟩) 3 3] 34) → K' A W' := fun W' ho hb => hK _ _ ⟨vs, .inl ⟨rfl, rfl⟩, hJ.store (by decide) hall hal (ho.below hgr q1) ⟨b, g, eb, hb, (f.softF (ho.soft (fun h => h eb))).self⟩⟩
        clear hv hdep hall
        go_simp
        refine fin _ ?_ (ex_set q2 (.int .i64 7) (.string ⟨#[]⟩) (.int .i64 0) (.slice none 0 0) (.slice none 0 0) (.int .i64 0) (.int .i64 0) (.int .i64 0) (.string ⟨#[]⟩) (.slice none 0 0) (.slice (some ⟨g, 0, none⟩) 3 3))
        repeat (with_reducible refine Oth.put ?_ _ _)
        exact Oth.refl _ _
    · intro d vs3 V3 hall hJ
      obtain ⟨b3, g3, hv3, hb3, ht3⟩ := hJ.dn (hall 6 (show 6 < 7 by decide))
      have hB3 := hJ.gr
      clear hall hJ
      simp only [puts, ds3, List.range, List.range.loop, List.map_cons, List.map_nil, List.cons_append, List.nil_append, List.foldl_cons, List.foldl_nil, Act.put, List.setIfInBounds_toArray, List.set_cons_zero, List.set_cons_succ, Nat.reduceAdd]
      rw [hv3]
      clear hv3
      have h4 := heap_alloc_new V3 (.cells #[.int .i64 4, .string ⟨#[]⟩, .int .i64 0, .slice none 0 0, .slice none 0 0, .int .i64 0, .int .i64 0, .int .i64 0, .string ⟨#[]⟩, .slice none 0 0, .slice none 0 0] 34)
      have hB4 := (Below.refl _ V3).alloc (Nat.le_refl _) (.cells #[.int .i64 4, .string ⟨#[]⟩, .int .i64 0, .slice none 0 0, .slice none 0 0, .int .i64 0, .int .i64 0, .int .i64 0, .string ⟨#[]⟩, .slice none 0 0, .slice none 0 0] 34)
      go_upto_region 5 with fail
      generalize V3.alloc (.cells #[.int .i64 4, .string ⟨#[]⟩, .int .i64 0, .slice none 0 0, .slice none 0 0, .int .i64 0, .int .i64 0, .int .i64 0, .string ⟨#[]⟩, .slice none 0 0, .slice none 0 0] 34) = V4 at *
      have hA4 : ∀ V', Below V4.heap.size V4 V' → V'.heap[V3.heap.size]? = some (.cells #[.int .i64 4, .string ⟨#[]⟩, .int .i64 0, .slice none 0 0, .slice none 0 0, .int .i64 0, .int .i64 0, .int .i64 0, .string ⟨#[]⟩, .slice none 0 0, .slice none 0 0] 34) := fun V' h => (h.block _ (Array.getElem?_eq_some_iff.1 h4).1).trans h4
      go_upto_region 5 with fail
      refine region_vals ds5 ds5_nodup _ (RSA V4 19 sl5 tab5 5 17 18 #[.int .i64 0, .int .i64 0, .int .i64 0, .string ⟨#[]⟩, .slice none 0 0] 31 Dn5) (fun _ => undef) (by kernel_rfl) (by kernel_rfl) rfl (by kernel_rfl) (by kernel_rfl) (RSA.start _ _ _ _ _ _ _ _ _ (Below.refl _ _).drew) ?_ ?_
      · intro i hi d vs V A hfar hv hd hdep hJ
        have hi2 : i < 19 := hi
        have hgr := hJ.gr
        have p4 : A.tmps[4]? = some (.pointer (some ⟨V3.heap.size, 0, none⟩)) := (hfar 4 (by decide)).trans rfl
        clear hfar hi
        rcases (by omega : i = 0 ∨ i = 1 ∨ i = 2 ∨ i = 3 ∨ i = 4 ∨ i = 5 ∨ i = 6 ∨ i = 7 ∨ i = 8 ∨ i = 9 ∨ i = 10 ∨ i = 11 ∨ i = 12 ∨ i = 13 ∨ i = 14 ∨ i = 15 ∨ i = 16 ∨ i = 17 ∨ i = 18) with rfl | rfl | rfl | rfl | rfl | rfl | rfl | rfl | rfl | rfl | rfl | rfl | rfl | rfl | rfl | rfl | rfl | rfl | rfl
        · have hs : d 18 = false := by cases hh : d 18 with | false => rfl | true => (have := hJ.cl hh 0 (by decide); rw [hd] at this; cases this)
          refine step_free rfl rfl (fun K' hK => ?_)
          clear hv hdep
          go_simp
          go_at_call 16
          refine (prim18_new 9 _).mono ?_
          rintro e W ⟨⟨v, rfl, f⟩, b⟩
          exact hK _ _ ⟨upd vs 95 (v), .inr ⟨95, v, by decide, rfl, rfl⟩, hJ.step sl5_inj 0 (by decide) hd (by decide) (by decide) (by decide) _ rfl (b) (v) (f _)⟩
        · have hs : d 18 = false := by cases hh : d 18 with | false => rfl | true => (have := hJ.cl hh 1 (by decide); rw [hd] at this; cases this)
          refine step_free rfl rfl (fun K' hK => ?_)
          clear hv hdep
          obtain ⟨⟨c0, c1, c2, c3, c4, c5, c6, c7, c8, c9, c10⟩, -⟩ := ex_facts (hA4 V hgr)
          go_simp
          exact hK _ _ ⟨upd vs 96 (.agg #[.int .i64 4, .string ⟨#[]⟩, .int .i64 0, .slice none 0 0, .slice none 0 0, .int .i64 0, .int .i64 0, .int .i64 0, .string ⟨#[]⟩, .slice none 0 0, .slice none 0 0]), .inr ⟨96, .agg #[.int .i64 4, .string ⟨#[]⟩, .int .i64 0, .slice none 0 0, .slice none 0 0, .int .i64 0, .int .i64 0, .int .i64 0, .string ⟨#[]⟩, .slice none 0 0, .slice none 0 0], by decide, rfl, rfl⟩, hJ.step sl5_inj 1 (by decide) hd (by decide) (by decide) (by decide) _ rfl (Below.refl _ _) (.agg #[.int .i64 4, .string ⟨#[]⟩, .int .i64 0, .slice none 0 0, .slice none 0 0, .int .i64 0, .int .i64 0, .int .i64 0, .string ⟨#[]⟩, .slice none 0 0, .slice none 0 0]) (ex_lit _ _ 4 [])⟩
        · have hs : d 18 = false := by cases hh : d 18 with | false => rfl | true => (have := hJ.cl hh 2 (by decide); rw [hd] at this; cases this)
          refine step_free rfl rfl (fun K' hK => ?_)
          clear hv hdep
          go_simp
          go_at_call 14
          refine (value18_new 0 _ (by decide) (by decide)).mono ?_
          rintro e W ⟨⟨v, rfl, f⟩, b⟩
          exact hK _ _ ⟨upd vs 97 (v), .inr ⟨97, v, by decide, rfl, rfl⟩, hJ.step sl5_inj 2 (by decide) hd (by decide) (by decide) (by decide) _ rfl (b) (v) (f.weak (fun j hj => hJ.new (k := 2) (by decide) hd j hj))⟩
        · have hs : d 18 = false := by cases hh : d 18 with | false => rfl | true => (have := hJ.cl hh 3 (by decide); rw [hd] at this; cases this)
          have e0 := hJ.val 0 _ rfl (hdep 0 (by decide)) hs
          rw [show sl5 0 = 95 from rfl] at e0
          have a95 : A.tmps[95]? = some (vs 95) := hv 95 (by decide)
          have e1 := hJ.val 1 _ rfl (hdep 1 (by decide)) hs
          rw [show sl5 1 = 96 from rfl] at e1
          have a96 : A.tmps[96]? = some (vs 96) := hv 96 (by decide)
          have e2 := hJ.val 2 _ rfl (hdep 2 (by decide)) hs
          rw [show sl5 2 = 97 from rfl] at e2
          have a97 : A.tmps[97]? = some (vs 97) := hv 97 (by decide)
          refine step_free rfl rfl (fun K' hK => ?_)
          clear hv hdep
          go_simp
          go_at_call 13
          refine (two18_new (baseA vs 5) _ _ _ _ _ _ _ (hJ.new (k := 3) (by decide) hd) e0 e1 e2).mono ?_
          rintro e W ⟨⟨v, rfl, f⟩, b⟩
          exact hK _ _ ⟨upd vs 98 (v), .inr ⟨98, v, by decide, rfl, rfl⟩, hJ.step sl5_inj 3 (by decide) hd (by decide) (by decide) (by decide) _ rfl (b) (v) (f)⟩
        · have hs : d 18 = false := by cases hh : d 18 with | false => rfl | true => (have := hJ.cl hh 4 (by decide); rw [hd] at this; cases this)
          refine step_free rfl rfl (fun K' hK => ?_)
          clear hv hdep
          go_simp
          go_at_call 14
          refine (value18_new 1 _ (by decide) (by decide)).mono ?_
          rintro e W ⟨⟨v, rfl, f⟩, b⟩
          exact hK _ _ ⟨upd vs 99 (v), .inr ⟨99, v, by decide, rfl, rfl⟩, hJ.step sl5_inj 4 (by decide) hd (by decide) (by decide) (by decide) _ rfl (b) (v) (f.weak (fun j hj => hJ.new (k := 4) (by decide) hd j hj))⟩
        · have hs : d 18 = false := by cases hh : d 18 with | false => rfl | true => (have := hJ.cl hh 5 (by decide); rw [hd] at this; cases this)
          have e3 := hJ.val 3 _ rfl (hdep 3 (by decide)) hs
          rw [show sl5 3 = 98 from rfl] at e3
          have a98 : A.tmps[98]? = some (vs 98) := hv 98 (by decide)
          obtain ⟨xvs, xve, xvb, xvc, xq, x1, x2, x3, x4, x5⟩ := Fresh.ex e3
          obtain ⟨xa, xc, rfl, -⟩ := x1.self.parts
          obtain ⟨xe, xec, rfl, -⟩ := x2.self.parts
          obtain ⟨xb, xbc, rfl, -⟩ := x4.self.parts
          obtain ⟨xk, xkc, rfl, -⟩ := x5.self.parts
          rw [xq] at a98
          have e4 := hJ.val 4 _ rfl (hdep 4 (by decide)) hs
          rw [show sl5 4 = 99 from rfl] at e4
          have a99 : A.tmps[99]? = some (vs 99) := hv 99 (by decide)
          obtain ⟨yvs, yve, yvb, yvc, yq, y1, y2, y3, y4, y5⟩ := Fresh.ex e4
          obtain ⟨ya, yc, rfl, -⟩ := y1.self.parts
          obtain ⟨ye, yec, rfl, -⟩ := y2.self.parts
          obtain ⟨yb, ybc, rfl, -⟩ := y4.self.parts
          obtain ⟨yk, ykc, rfl, -⟩ := y5.self.parts
          rw [yq] at a99
          refine step_free rfl rfl (fun K' hK => ?_)
          clear hv hdep
          go_simp
          exact hK _ _ ⟨upd vs 100 (.slice (some ⟨V.heap.size, 0, none⟩) 2 2), .inr ⟨100, .slice (some ⟨V.heap.size, 0, none⟩) 2 2, by decide, rfl, rfl⟩, hJ.step sl5_inj 5 (by decide) hd (by decide) (by decide) (by decide) _ rfl ((Below.refl _ _).alloc (Nat.le_refl _) _) (.slice (some ⟨V.heap.size, 0, none⟩) 2 2) (⟨V.heap.size, rfl, Cells.row (Cells.soft (Cells.ex _ _ _ _ _ _ _ x1 x2 x3 x4 x5 (Cells.ex _ _ _ _ _ _ _ y1 y2 y3 y4 y5 .nil)) (Soft.alloc V _)) (hJ.new (k := 5) (by decide) hd _ (Nat.le_refl _)) (heap_alloc_new V _) rfl (Nat.le_refl _) (by omega) (by intro i u hu; simpa [exL] using hu)⟩)⟩
        · have hs : d 18 = false := by cases hh : d 18 with | false => rfl | true => (have := hJ.cl hh 6 (by decide); rw [hd] at this; cases this)
          have e5 := hJ.val 5 _ rfl (hdep 5 (by decide)) hs
          rw [show sl5 5 = 100 from rfl] at e5
          have a100 : A.tmps[100]? = some (vs 100) := hv 100 (by decide)
          obtain ⟨g, hg, f⟩ := e5
          rw [hg] at a100
          refine step_free rfl rfl (fun K' hK => ?_)
          clear hv hdep
          go_simp
          exact hK _ _ ⟨upd vs 101 (.agg #[.int .i64 3, .string ⟨#[]⟩, .slice (some ⟨g, 0, none⟩) 2 2]), .inr ⟨101, .agg #[.int .i64 3, .string ⟨#[]⟩, .slice (some ⟨g, 0, none⟩) 2 2], by decide, rfl, rfl⟩, hJ.step sl5_inj 6 (by decide) hd (by decide) (by decide) (by decide) _ rfl (Below.refl _ _) (.agg #[.int .i64 3, .string ⟨#[]⟩, .slice (some ⟨g, 0, none⟩) 2 2]) (⟨g, rfl, f⟩)⟩
        · have hs : d 18 = false := by cases hh : d 18 with | false => rfl | true => (have := hJ.cl hh 7 (by decide); rw [hd] at this; cases this)
          refine step_free rfl rfl (fun K' hK => ?_)
          clear hv hdep
          go_simp
          exact hK _ _ ⟨upd vs 102 (.agg #[.int .i64 3, .string ⟨#[]⟩, .int .i64 0, .slice none 0 0, .slice none 0 0, .int .i64 0, .int .i64 0, .int .i64 0, .string ⟨#[]⟩, .slice none 0 0, .slice none 0 0]), .inr ⟨102, .agg #[.int .i64 3, .string ⟨#[]⟩, .int .i64 0, .slice none 0 0, .slice none 0 0, .int .i64 0, .int .i64 0, .int .i64 0, .string ⟨#[]⟩, .slice none 0 0, .slice none 0 0], by decide, rfl, rfl⟩, hJ.step sl5_inj 7 (by decide) hd (by decide) (by decide) (by decide) _ rfl (Below.refl _ _) (.agg #[.int .i64 3, .string ⟨#[]⟩, .int .i64 0, .slice none 0 0, .slice none 0 0, .int .i64 0, .int .i64 0, .int .i64 0, .string ⟨#[]⟩, .slice none 0 0, .slice none 0 0]) (ex_lit _ _ 3 [])⟩
        · have hs : d 18 = false := by cases hh : d 18 with | false => rfl | true => (have := hJ.cl hh 8 (by decide); rw [hd] at this; cases this)
          have e7 := hJ.val 7 _ rfl (hdep 7 (by decide)) hs
          rw [show sl5 7 = 102 from rfl] at e7
          have a102 : A.tmps[102]? = some (vs 102) := hv 102 (by decide)
          obtain ⟨xvs, xve, xvb, xvc, xq, x1, x2, x3, x4, x5⟩ := Fresh.ex e7
          obtain ⟨xa, xc, rfl, -⟩ := x1.self.parts
          obtain ⟨xe, xec, rfl, -⟩ := x2.self.parts
          obtain ⟨xb, xbc, rfl, -⟩ := x4.self.parts
          obtain ⟨xk, xkc, rfl, -⟩ := x5.self.parts
          rw [xq] at a102
          refine step_free rfl rfl (fun K' hK => ?_)
          clear hv hdep
          go_simp
          exact hK _ _ ⟨upd vs 103 (.slice (some ⟨V.heap.size, 0, none⟩) 1 1), .inr ⟨103, .slice (some ⟨V.heap.size, 0, none⟩) 1 1, by decide, rfl, rfl⟩, hJ.step sl5_inj 8 (by decide) hd (by decide) (by decide) (by decide) _ rfl ((Below.refl _ _).alloc (Nat.le_refl _) _) (.slice (some ⟨V.heap.size, 0, none⟩) 1 1) (⟨V.heap.size, rfl, Cells.row (Cells.soft (Cells.ex _ _ _ _ _ _ _ x1 x2 x3 x4 x5 .nil) (Soft.alloc V _)) (hJ.new (k := 8) (by decide) hd _ (Nat.le_refl _)) (heap_alloc_new V _) rfl (Nat.le_refl _) (by omega) (by intro i u hu; simpa [exL] using hu)⟩)⟩
        · have hs : d 18 = false := by cases hh : d 18 with | false => rfl | true => (have := hJ.cl hh 9 (by decide); rw [hd] at this; cases this)
          have e8 := hJ.val 8 _ rfl (hdep 8 (by decide)) hs
          rw [show sl5 8 = 103 from rfl] at e8
          have a103 : A.tmps[103]? = some (vs 103) := hv 103 (by decide)
          obtain ⟨g, hg, f⟩ := e8
          rw [hg] at a103
          refine step_free rfl rfl (fun K' hK => ?_)
          clear hv hdep
          go_simp
          exact hK _ _ ⟨upd vs 104 (.agg #[.int .i64 2, .string ⟨#[120]⟩, .slice (some ⟨g, 0, none⟩) 1 1]), .inr ⟨104, .agg #[.int .i64 2, .string ⟨#[120]⟩, .slice (some ⟨g, 0, none⟩) 1 1], by decide, rfl, rfl⟩, hJ.step sl5_inj 9 (by decide) hd (by decide) (by decide) (by decide) _ rfl (Below.refl _ _) (.agg #[.int .i64 2, .string ⟨#[120]⟩, .slice (some ⟨g, 0, none⟩) 1 1]) (⟨g, rfl, f⟩)⟩
        · have hs : d 18 = false := by cases hh : d 18 with | false => rfl | true => (have := hJ.cl hh 10 (by decide); rw [hd] at this; cases this)
          refine step_free rfl rfl (fun K' hK => ?_)
          clear hv hdep
          go_simp
          exact hK _ _ ⟨upd vs 105 (.agg #[.int .i64 8, .int .i64 0, .int .i64 0, .string ⟨#[]⟩, .slice none 0 0]), .inr ⟨105, .agg #[.int .i64 8, .int .i64 0, .int .i64 0, .string ⟨#[]⟩, .slice none 0 0], by decide, rfl, rfl⟩, hJ.step sl5_inj 10 (by decide) hd (by decide) (by decide) (by decide) _ rfl (Below.refl _ _) (.agg #[.int .i64 8, .int .i64 0, .int .i64 0, .string ⟨#[]⟩, .slice none 0 0]) (fn_lit _ _ 8 0 0 [])⟩
        · have hs : d 18 = false := by cases hh : d 18 with | false => rfl | true => (have := hJ.cl hh 11 (by decide); rw [hd] at this; cases this)
          refine step_free rfl rfl (fun K' hK => ?_)
          clear hv hdep
          obtain ⟨⟨c0, c1, c2, c3, c4, c5, c6, c7, c8, c9, c10⟩, -⟩ := ex_facts (hA4 V hgr)
          go_simp
          exact hK _ _ ⟨upd vs 106 (.agg #[.int .i64 4, .string ⟨#[]⟩, .int .i64 0, .slice none 0 0, .slice none 0 0, .int .i64 0, .int .i64 0, .int .i64 0, .string ⟨#[]⟩, .slice none 0 0, .slice none 0 0]), .inr ⟨106, .agg #[.int .i64 4, .string ⟨#[]⟩, .int .i64 0, .slice none 0 0, .slice none 0 0, .int .i64 0, .int .i64 0, .int .i64 0, .string ⟨#[]⟩, .slice none 0 0, .slice none 0 0], by decide, rfl, rfl⟩, hJ.step sl5_inj 11 (by decide) hd (by decide) (by decide) (by decide) _ rfl (Below.refl _ _) (.agg #[.int .i64 4, .string ⟨#[]⟩, .int .i64 0, .slice none 0 0, .slice none 0 0, .int .i64 0, .int .i64 0, .int .i64 0, .string ⟨#[]⟩, .slice none 0 0, .slice none 0 0]) (ex_lit _ _ 4 [])⟩
        · have hs : d 18 = false := by cases hh : d 18 with | false => rfl | true => (have := hJ.cl hh 12 (by decide); rw [hd] at this; cases this)
          have e10 := hJ.val 10 _ rfl (hdep 10 (by decide)) hs
          rw [show sl5 10 = 105 from rfl] at e10
          have a105 : A.tmps[105]? = some (vs 105) := hv 105 (by decide)
          have e11 := hJ.val 11 _ rfl (hdep 11 (by decide)) hs
          rw [show sl5 11 = 106 from rfl] at e11
          have a106 : A.tmps[106]? = some (vs 106) := hv 106 (by decide)
          refine step_free rfl rfl (fun K' hK => ?_)
          clear hv hdep
          go_simp
          go_at_call 15
          refine (one18_new (baseA vs 5) _ _ _ _ _ (hJ.new (k := 12) (by decide) hd) e10 e11).mono ?_
          rintro e W ⟨⟨v, rfl, f⟩, b⟩
          exact hK _ _ ⟨upd vs 107 (v), .inr ⟨107, v, by decide, rfl, rfl⟩, hJ.step sl5_inj 12 (by decide) hd (by decide) (by decide) (by decide) _ rfl (b) (v) (f)⟩
        · have hs : d 18 = false := by cases hh : d 18 with | false => rfl | true => (have := hJ.cl hh 13 (by decide); rw [hd] at this; cases this)
          have e12 := hJ.val 12 _ rfl (hdep 12 (by decide)) hs
          rw [show sl5 12 = 107 from rfl] at e12
          have a107 : A.tmps[107]? = some (vs 107) := hv 107 (by decide)
          obtain ⟨xvs, xve, xvb, xvc, xq, x1, x2, x3, x4, x5⟩ := Fresh.ex e12
          obtain ⟨xa, xc, rfl, -⟩ := x1.self.parts
          obtain ⟨xe, xec, rfl, -⟩ := x2.self.parts
          obtain ⟨xb, xbc, rfl, -⟩ := x4.self.parts
          obtain ⟨xk, xkc, rfl, -⟩ := x5.self.parts
          rw [xq] at a107
          refine step_free rfl rfl (fun K' hK => ?_)
          clear hv hdep
          go_simp
          exact hK _ _ ⟨upd vs 108 (.slice (some ⟨V.heap.size, 0, none⟩) 1 1), .inr ⟨108, .slice (some ⟨V.heap.size, 0, none⟩) 1 1, by decide, rfl, rfl⟩, hJ.step sl5_inj 13 (by decide) hd (by decide) (by decide) (by decide) _ rfl ((Below.refl _ _).alloc (Nat.le_refl _) _) (.slice (some ⟨V.heap.size, 0, none⟩) 1 1) (⟨V.heap.size, rfl, Cells.row (Cells.soft (Cells.ex _ _ _ _ _ _ _ x1 x2 x3 x4 x5 .nil) (Soft.alloc V _)) (hJ.new (k := 13) (by decide) hd _ (Nat.le_refl _)) (heap_alloc_new V _) rfl (Nat.le_refl _) (by omega) (by intro i u hu; simpa [exL] using hu)⟩)⟩
        · have hs : d 18 = false := by cases hh : d 18 with | false => rfl | true => (have := hJ.cl hh 14 (by decide); rw [hd] at this; cases this)
          have e13 := hJ.val 13 _ rfl (hdep 13 (by decide)) hs
          rw [show sl5 13 = 108 from rfl] at e13
          have a108 : A.tmps[108]? = some (vs 108) := hv 108 (by decide)
          obtain ⟨g, hg, f⟩ := e13
          rw [hg] at a108
          refine step_free rfl rfl (fun K' hK => ?_)
          clear hv hdep
          go_simp
          exact hK _ _ ⟨upd vs 109 (.agg #[.int .i64 1, .string ⟨#[]⟩, .slice (some ⟨g, 0, none⟩) 1 1]), .inr ⟨109, .agg #[.int .i64 1, .string ⟨#[]⟩, .slice (some ⟨g, 0, none⟩) 1 1], by decide, rfl, rfl⟩, hJ.step sl5_inj 14 (by decide) hd (by decide) (by decide) (by decide) _ rfl (Below.refl _ _) (.agg #[.int .i64 1, .string ⟨#[]⟩, .slice (some ⟨g, 0, none⟩) 1 1]) (⟨g, rfl, f⟩)⟩
        · have hs : d 18 = false := by cases hh : d 18 with | false => rfl | true => (have := hJ.cl hh 15 (by decide); rw [hd] at this; cases this)
          have e6 := hJ.val 6 _ rfl (hdep 6 (by decide)) hs
          rw [show sl5 6 = 101 from rfl] at e6
          have a101 : A.tmps[101]? = some (vs 101) := hv 101 (by decide)
          obtain ⟨xg, xq, xf⟩ := e6
          rw [xq] at a101
          have e9 := hJ.val 9 _ rfl (hdep 9 (by decide)) hs
          rw [show sl5 9 = 104 from rfl] at e9
          have a104 : A.tmps[104]? = some (vs 104) := hv 104 (by decide)
          obtain ⟨yg, yq, yf⟩ := e9
          rw [yq] at a104
          have e14 := hJ.val 14 _ rfl (hdep 14 (by decide)) hs
          rw [show sl5 14 = 109 from rfl] at e14
          have a109 : A.tmps[109]? = some (vs 109) := hv 109 (by decide)
          obtain ⟨zg, zq, zf⟩ := e14
          rw [zq] at a109
          refine step_free rfl rfl (fun K' hK => ?_)
          clear hv hdep
          go_simp
          exact hK _ _ ⟨upd vs 110 (.slice (some ⟨V.heap.size, 0, none⟩) 3 3), .inr ⟨110, .slice (some ⟨V.heap.size, 0, none⟩) 3 3, by decide, rfl, rfl⟩, hJ.step sl5_inj 15 (by decide) hd (by decide) (by decide) (by decide) _ rfl ((Below.refl _ _).alloc (Nat.le_refl _) _) (.slice (some ⟨V.heap.size, 0, none⟩) 3 3) (⟨V.heap.size, rfl, Cells.row (Cells.soft (Cells.ln ⟨3, [], t5a⟩ _ _ _ xf (Cells.ln ⟨2, [120], t5b⟩ _ _ _ yf (Cells.ln ⟨1, [], t5c⟩ _ _ _ zf .nil))) (Soft.alloc V _)) (hJ.new (k := 15) (by decide) hd _ (Nat.le_refl _)) (heap_alloc_new V _) rfl (Nat.le_refl _) (by omega) (by intro i u hu; simpa [lnL] using hu)⟩)⟩
        · have hs : d 18 = false := by cases hh : d 18 with | false => rfl | true => (have := hJ.cl hh 16 (by decide); rw [hd] at this; cases this)
          have e15 := hJ.val 15 _ rfl (hdep 15 (by decide)) hs
          rw [show sl5 15 = 110 from rfl] at e15
          have a110 : A.tmps[110]? = some (vs 110) := hv 110 (by decide)
          obtain ⟨g, hg, f⟩ := e15
          rw [hg] at a110
          refine step_free rfl rfl (fun K' hK => ?_)
          clear hv hdep
          go_simp
          exact hK _ _ ⟨upd vs 111 (.agg #[.int .i64 7, .int .i64 0, .int .i64 0, .string ⟨#[]⟩, .slice (some ⟨g, 0, none⟩) 3 3]), .inr ⟨111, .agg #[.int .i64 7, .int .i64 0, .int .i64 0, .string ⟨#[]⟩, .slice (some ⟨g, 0, none⟩) 3 3], by decide, rfl, rfl⟩, hJ.step sl5_inj 16 (by decide) hd (by decide) (by decide) (by decide) _ rfl (Below.refl _ _) (.agg #[.int .i64 7, .int .i64 0, .int .i64 0, .string ⟨#[]⟩, .slice (some ⟨g, 0, none⟩) 3 3]) (⟨g, rfl, f⟩)⟩
        · have hal := hJ.alloc (by decide) hd (by decide) (by intro k hk; unfold sl5; (repeat' split) <;> omega) rfl
          refine step_free rfl rfl (fun K' hK => ?_)
          clear hv hdep
          go_simp
          exact hK _ _ ⟨_, .inr ⟨5, _, by decide, rfl, rfl⟩, hal⟩
        · have e16 := hJ.val 16 _ rfl (hdep 16 (by decide)) hd
          rw [show sl5 16 = 111 from rfl] at e16
          have a111 : A.tmps[111]? = some (vs 111) := hv 111 (by decide)
          have aA : A.tmps[5]? = some (vs 5) := hv 5 (by decide)
          obtain ⟨g, hg, f⟩ := e16
          rw [hg] at a111
          obtain ⟨b, eb, q1, q2⟩ := hJ.al (hdep 17 (by decide)) hd
          rw [eb] at aA
          have hall : ∀ k, k < 19 → k ≠ 18 → d k = true := fun k hk hne => hdep k (by rcases (by omega : k = 0 ∨ k = 1 ∨ k = 2 ∨ k = 3 ∨ k = 4 ∨ k = 5 ∨ k = 6 ∨ k = 7 ∨ k = 8 ∨ k = 9 ∨ k = 10 ∨ k = 11 ∨ k = 12 ∨ k = 13 ∨ k = 14 ∨ k = 15 ∨ k = 16 ∨ k = 17) with rfl | rfl | rfl | rfl | rfl | rfl | rfl | rfl | rfl | rfl | rfl | rfl | rfl | rfl | rfl | rfl | rfl | rfl <;> decide)
          have hal := hdep 17 (by decide)
          obtain ⟨⟨c0, c1, c2, c3, c4⟩, ⟨z0, z1, z2, z3, z4⟩⟩ := fn_facts q2
          refine step_free rfl rfl (fun K' hK => ?_)
          have fin : ∀ W', Oth b V W' → W'.heap[b]? = some (.cells #[.int .i64 7, .int .i64 0, .int .i64 0, .string ⟨#[]⟩, .slice (some ⟨g, 0, none⟩) 3 3] 31) → K' A W' := fun W' ho hb => hK _ _ ⟨vs, .inl ⟨rfl, rfl⟩, hJ.store (by decide) hall hal (ho.below hgr q1) ⟨b, g, eb, hb, (f.softF (ho.soft (fun h => h eb))).self⟩⟩
          clear hv hdep hall
          go_simp
          refine fin _ ?_ (fn_set q2 (.int .i64 7) (.int .i64 0) (.int .i64 0) (.string ⟨#[]⟩) (.slice (some ⟨g, 0, none⟩) 3 3))
          repeat (with_reducible refine Oth.put ?_ _ _)
          exact Oth.refl _ _
      · intro d vs5 V5 hall hJ
        obtain ⟨b5, g5, hv5, hb5, ht5⟩ := hJ.dn (hall 18 (show 18 < 19 by decide))
        have hB5 := hJ.gr
        clear hall hJ
        simp only [puts, ds5, List.range, List.range.loop, List.map_cons, List.map_nil, List.cons_append, List.nil_append, List.foldl_cons, List.foldl_nil, Act.put, List.setIfInBounds_toArray, List.set_cons_zero, List.set_cons_succ, Nat.reduceAdd]
        rw [hv5]
        clear hv5
        have hL3 := hB2.trans (hB3.mono hB2.size)
        have hL4 := hL3.trans (hB4.mono hL3.size)
        have hL5 := hL4.trans (hB5.mono hL4.size)
        have hG6 : ∀ V', Below V5.heap.size V5 V' → Glob V' ∧ Gly V' := fun V' h => hGV V' (hL5.trans (h.mono hL5.size))
        have hX3 : ∀ V', Below V5.heap.size V5 V' → V'.heap[b3]? = some (.cells #[.int .i64 7, .string ⟨#[]⟩, .int .i64 0, .slice none 0 0, .slice none 0 0, .int .i64 0, .int .i64 0, .int .i64 0, .string ⟨#[]⟩, .slice none 0 0, .slice (some ⟨g3, 0, none⟩) 3 3] 34) ∧ Fresh (fun _ => True) V' (IsTs · (.slice (some ⟨g3, 0, none⟩) 3 3) t3) := fun V' h => by
          have hh := hB4.trans ((hB5.trans (h.mono hB5.size)).mono hB4.size)
          exact ⟨(hh.block _ (Array.getElem?_eq_some_iff.1 hb3).1).trans hb3, fresh_ts (ht3.below hh)⟩
        have hX5 : ∀ V', Below V5.heap.size V5 V' → V'.heap[b5]? = some (.cells #[.int .i64 7, .int .i64 0, .int .i64 0, .string ⟨#[]⟩, .slice (some ⟨g5, 0, none⟩) 3 3] 31) ∧ Fresh (fun _ => True) V' (IsTs · (.slice (some ⟨g5, 0, none⟩) 3 3) t5) := fun V' h => ⟨(h.block _ (Array.getElem?_eq_some_iff.1 hb5).1).trans hb5, fresh_ts (ht5.below h)⟩
        go_upto_region 6 with fail
        refine region_vals ds6 ds6_nodup _ (RS0 V5 sl6 tab6) (fun _ => undef) (by kernel_rfl) (by kernel_rfl) rfl (by kernel_rfl) (by kernel_rfl) ⟨(Below.refl _ _).drew, fun k f _ hd => by cases hd⟩ ?_ ?_
        · intro i hi d vs V A hfar hv hd hdep hJ
          have hi2 : i < 16 := hi
          have hgr := hJ.gr
          have p3 : A.tmps[3]? = some (.pointer (some ⟨b3, 0, none⟩)) := (hfar 3 (by decide)).trans rfl
          have p5 : A.tmps[5]? = some (.pointer (some ⟨b5, 0, none⟩)) := (hfar 5 (by decide)).trans rfl
          clear hfar hi
          rcases (by omega : i = 0 ∨ i = 1 ∨ i = 2 ∨ i = 3 ∨ i = 4 ∨ i = 5 ∨ i = 6 ∨ i = 7 ∨ i = 8 ∨ i = 9 ∨ i = 10 ∨ i = 11 ∨ i = 12 ∨ i = 13 ∨ i = 14 ∨ i = 15) with rfl | rfl | rfl | rfl | rfl | rfl | rfl | rfl | rfl | rfl | rfl | rfl | rfl | rfl | rfl | rfl
          · refine step_free rfl rfl (fun K' hK => ?_)
            clear hv hdep
            obtain ⟨⟨c0, c1, c2, c3, c4, c5, c6, c7, c8, c9, c10⟩, -⟩ := ex_facts (hX3 V hgr).1
            go_simp
            exact hK _ _ ⟨upd vs 112 (.agg #[.int .i64 7, .string ⟨#[]⟩, .int .i64 0, .slice none 0 0, .slice none 0 0, .int .i64 0, .int .i64 0, .int .i64 0, .string ⟨#[]⟩, .slice none 0 0, .slice (some ⟨g3, 0, none⟩) 3 3]), .inr ⟨112, .agg #[.int .i64 7, .string ⟨#[]⟩, .int .i64 0, .slice none 0 0, .slice none 0 0, .int .i64 0, .int .i64 0, .int .i64 0, .string ⟨#[]⟩, .slice none 0 0, .slice (some ⟨g3, 0, none⟩) 3 3], by decide, rfl, rfl⟩, hJ.step sl6_inj 0 _ rfl (Below.refl _ _) (.agg #[.int .i64 7, .string ⟨#[]⟩, .int .i64 0, .slice none 0 0, .slice none 0 0, .int .i64 0, .int .i64 0, .int .i64 0, .string ⟨#[]⟩, .slice none 0 0, .slice (some ⟨g3, 0, none⟩) 3 3]) (fr_ex (hX3 V hgr).2)⟩
          · have e0 := hJ.val 0 _ rfl (hdep 0 (by decide))
            rw [show sl6 0 = 112 from rfl] at e0
            have a112 : A.tmps[112]? = some (vs 112) := hv 112 (by decide)
            refine step_free rfl rfl (fun K' hK => ?_)
            clear hv hdep
            go_simp
            go_at_call 12
            refine (gives18_F [] (by decide) [97, 91, 49, 59, 93] _ rfl _ _ _ _ (by decide) (strs_nil _) (hG6 _ hgr).1 (hG6 _ hgr).2 (by decide) (Fresh.self e0) nm6_1).mono ?_
            rintro e W ⟨rfl, b⟩
            exact hK _ _ ⟨upd vs 113 (.bool true), .inr ⟨113, .bool true, by decide, rfl, rfl⟩, hJ.step sl6_inj 1 _ rfl (b) (.bool true) (rfl)⟩
          · have e1 := hJ.val 1 _ rfl (hdep 1 (by decide))
            rw [show sl6 1 = 113 from rfl] at e1
            have e1 : vs 113 = .bool true := e1
            have a113 : A.tmps[113]? = some (vs 113) := hv 113 (by decide)
            rw [e1] at a113
            refine step_free rfl rfl (fun K' hK => ?_)
            clear hv hdep
            go_simp
            exact hK _ _ ⟨upd vs 114 (.bool true), .inr ⟨114, .bool true, by decide, rfl, rfl⟩, hJ.step sl6_inj 2 _ rfl (Below.refl _ _) (.bool true) (rfl)⟩
          · have e2 := hJ.val 2 _ rfl (hdep 2 (by decide))
            rw [show sl6 2 = 114 from rfl] at e2
            have e2 : vs 114 = .bool true := e2
            refine step_guard (j := 2) (s := 114) rfl rfl rfl (by rw [hv 114 (by decide), e2]) (fun K' hK => ?_)
            clear hv hdep
            obtain ⟨⟨c0, c1, c2, c3, c4, c5, c6, c7, c8, c9, c10⟩, -⟩ := ex_facts (hX3 V hgr).1
            go_simp
            exact hK _ _ ⟨upd vs 115 (.agg #[.int .i64 7, .string ⟨#[]⟩, .int .i64 0, .slice none 0 0, .slice none 0 0, .int .i64 0, .int .i64 0, .int .i64 0, .string ⟨#[]⟩, .slice none 0 0, .slice (some ⟨g3, 0, none⟩) 3 3]), .inr ⟨115, .agg #[.int .i64 7, .string ⟨#[]⟩, .int .i64 0, .slice none 0 0, .slice none 0 0, .int .i64 0, .int .i64 0, .int .i64 0, .string ⟨#[]⟩, .slice none 0 0, .slice (some ⟨g3, 0, none⟩) 3 3], by decide, rfl, rfl⟩, hJ.step sl6_inj 3 _ rfl (Below.refl _ _) (.agg #[.int .i64 7, .string ⟨#[]⟩, .int .i64 0, .slice none 0 0, .slice none 0 0, .int .i64 0, .int .i64 0, .int .i64 0, .string ⟨#[]⟩, .slice none 0 0, .slice (some ⟨g3, 0, none⟩) 3 3]) (fr_ex (hX3 V hgr).2)⟩
          · have e2 := hJ.val 2 _ rfl (hdep 2 (by decide))
            rw [show sl6 2 = 114 from rfl] at e2
            have e2 : vs 114 = .bool true := e2
            refine step_guard (j := 2) (s := 114) rfl rfl rfl (by rw [hv 114 (by decide), e2]) (fun K' hK => ?_)
            clear hv hdep
            go_simp
            go_at_call 14
            refine (value18_new 2 _ (by decide) (by decide)).mono ?_
            rintro e W ⟨⟨v, rfl, f⟩, b⟩
            exact hK _ _ ⟨upd vs 116 (v), .inr ⟨116, v, by decide, rfl, rfl⟩, hJ.step sl6_inj 4 _ rfl (b) (v) (f.weak (fun _ _ => trivial))⟩
          · have e2 := hJ.val 2 _ rfl (hdep 2 (by decide))
            rw [show sl6 2 = 114 from rfl] at e2
            have e2 : vs 114 = .bool true := e2
            have e3 := hJ.val 3 _ rfl (hdep 3 (by decide))
            rw [show sl6 3 = 115 from rfl] at e3
            have a115 : A.tmps[115]? = some (vs 115) := hv 115 (by decide)
            have e4 := hJ.val 4 _ rfl (hdep 4 (by decide))
            rw [show sl6 4 = 116 from rfl] at e4
            have a116 : A.tmps[116]? = some (vs 116) := hv 116 (by decide)
            obtain ⟨xvs, xve, xvb, xvc, xq, x1, x2, x3, x4, x5⟩ := Fresh.ex e3
            obtain ⟨xa, xc, rfl, -⟩ := x1.self.parts
            obtain ⟨xe, xec, rfl, -⟩ := x2.self.parts
            obtain ⟨xb, xbc, rfl, -⟩ := x4.self.parts
            obtain ⟨xk, xkc, rfl, -⟩ := x5.self.parts
            rw [xq] at a115
            obtain ⟨yvs, yve, yvb, yvc, yq, y1, y2, y3, y4, y5⟩ := Fresh.ex e4
            obtain ⟨ya, yc, rfl, -⟩ := y1.self.parts
            obtain ⟨ye, yec, rfl, -⟩ := y2.self.parts
            obtain ⟨yb, ybc, rfl, -⟩ := y4.self.parts
            obtain ⟨yk, ykc, rfl, -⟩ := y5.self.parts
            rw [yq] at a116
            refine step_guard (j := 2) (s := 114) rfl rfl rfl (by rw [hv 114 (by decide), e2]) (fun K' hK => ?_)
            clear hv hdep
            go_simp
            exact hK _ _ ⟨upd vs 117 (.slice (some ⟨V.heap.size, 0, none⟩) 2 2), .inr ⟨117, .slice (some ⟨V.heap.size, 0, none⟩) 2 2, by decide, rfl, rfl⟩, hJ.step sl6_inj 5 _ rfl ((Below.refl _ _).alloc (Nat.le_refl _) _) (.slice (some ⟨V.heap.size, 0, none⟩) 2 2) (⟨V.heap.size, rfl, Cells.row (Cells.soft (Cells.ex _ _ _ _ _ _ _ x1 x2 x3 x4 x5 (Cells.ex _ _ _ _ _ _ _ y1 y2 y3 y4 y5 .nil)) (Soft.alloc V _)) trivial (heap_alloc_new V _) rfl (Nat.le_refl _) (by omega) (by intro i u hu; simpa [exL] using hu)⟩)⟩
          · have e2 := hJ.val 2 _ rfl (hdep 2 (by decide))
            rw [show sl6 2 = 114 from rfl] at e2
            have e2 : vs 114 = .bool true := e2
            have e5 := hJ.val 5 _ rfl (hdep 5 (by decide))
            rw [show sl6 5 = 117 from rfl] at e5
            have a117 : A.tmps[117]? = some (vs 117) := hv 117 (by decide)
            obtain ⟨g, hg, f⟩ := e5
            rw [hg] at a117
            refine step_guard (j := 2) (s := 114) rfl rfl rfl (by rw [hv 114 (by decide), e2]) (fun K' hK => ?_)
            clear hv hdep
            go_simp
            exact hK _ _ ⟨upd vs 118 (.agg #[.int .i64 7, .string ⟨#[]⟩, .int .i64 0, .slice none 0 0, .slice none 0 0, .int .i64 0, .int .i64 0, .int .i64 0, .string ⟨#[]⟩, .slice none 0 0, .slice (some ⟨g, 0, none⟩) 2 2]), .inr ⟨118, .agg #[.int .i64 7, .string ⟨#[]⟩, .int .i64 0, .slice none 0 0, .slice none 0 0, .int .i64 0, .int .i64 0, .int .i64 0, .string ⟨#[]⟩, .slice none 0 0, .slice (some ⟨g, 0, none⟩) 2 2], by decide, rfl, rfl⟩, hJ.step sl6_inj 6 _ rfl (Below.refl _ _) (.agg #[.int .i64 7, .string ⟨#[]⟩, .int .i64 0, .slice none 0 0, .slice none 0 0, .int .i64 0, .int .i64 0, .int .i64 0, .string ⟨#[]⟩, .slice none 0 0, .slice (some ⟨g, 0, none⟩) 2 2]) (fr_ex f)⟩
          · have e2 := hJ.val 2 _ rfl (hdep 2 (by decide))
            rw [show sl6 2 = 114 from rfl] at e2
            have e2 : vs 114 = .bool true := e2
            have e6 := hJ.val 6 _ rfl (hdep 6 (by decide))
            rw [show sl6 6 = 118 from rfl] at e6
            have a118 : A.tmps[118]? = some (vs 118) := hv 118 (by decide)
            refine step_guard (j := 2) (s := 114) rfl rfl rfl (by rw [hv 114 (by decide), e2]) (fun K' hK => ?_)
            clear hv hdep
            go_simp
            go_at_call 12
            refine (gives18_F [] (by decide) [97, 91, 49, 59, 93, 91, 50, 93] _ rfl _ _ _ _ (by decide) (strs_nil _) (hG6 _ hgr).1 (hG6 _ hgr).2 (by decide) (Fresh.self e6) nm6_7).mono ?_
            rintro e W ⟨rfl, b⟩
            exact hK _ _ ⟨upd vs 119 (.bool true), .inr ⟨119, .bool true, by decide, rfl, rfl⟩, hJ.step sl6_inj 7 _ rfl (b) (.bool true) (rfl)⟩
          · have e2 := hJ.val 2 _ rfl (hdep 2 (by decide))
            rw [show sl6 2 = 114 from rfl] at e2
            have e2 : vs 114 = .bool true := e2
            have a114 : A.tmps[114]? = some (vs 114) := hv 114 (by decide)
            rw [e2] at a114
            have e7 := hJ.val 7 _ rfl (hdep 7 (by decide))
            rw [show sl6 7 = 119 from rfl] at e7
            have e7 : vs 119 = .bool true := e7
            have a119 : A.tmps[119]? = some (vs 119) := hv 119 (by decide)
            rw [e7] at a119
            refine step_free rfl rfl (fun K' hK => ?_)
            clear hv hdep
            go_simp
            exact hK _ _ ⟨upd vs 120 (.bool true), .inr ⟨120, .bool true, by decide, rfl, rfl⟩, hJ.step sl6_inj 8 _ rfl (Below.refl _ _) (.bool true) (rfl)⟩
          · have e8 := hJ.val 8 _ rfl (hdep 8 (by decide))
            rw [show sl6 8 = 120 from rfl] at e8
            have e8 : vs 120 = .bool true := e8
            have a120 : A.tmps[120]? = some (vs 120) := hv 120 (by decide)
            rw [e8] at a120
            refine step_free rfl rfl (fun K' hK => ?_)
            clear hv hdep
            go_simp
            exact hK _ _ ⟨upd vs 121 (.bool true), .inr ⟨121, .bool true, by decide, rfl, rfl⟩, hJ.step sl6_inj 9 _ rfl (Below.refl _ _) (.bool true) (rfl)⟩
          · have e9 := hJ.val 9 _ rfl (hdep 9 (by decide))
            rw [show sl6 9 = 121 from rfl] at e9
            have e9 : vs 121 = .bool true := e9
            refine step_guard (j := 9) (s := 121) rfl rfl rfl (by rw [hv 121 (by decide), e9]) (fun K' hK => ?_)
            clear hv hdep
            obtain ⟨⟨c0, c1, c2, c3, c4⟩, -⟩ := fn_facts (hX5 V hgr).1
            go_simp
            exact hK _ _ ⟨upd vs 122 (.agg #[.int .i64 7, .int .i64 0, .int .i64 0, .string ⟨#[]⟩, .slice (some ⟨g5, 0, none⟩) 3 3]), .inr ⟨122, .agg #[.int .i64 7, .int .i64 0, .int .i64 0, .string ⟨#[]⟩, .slice (some ⟨g5, 0, none⟩) 3 3], by decide, rfl, rfl⟩, hJ.step sl6_inj 10 _ rfl (Below.refl _ _) (.agg #[.int .i64 7, .int .i64 0, .int .i64 0, .string ⟨#[]⟩, .slice (some ⟨g5, 0, none⟩) 3 3]) (fr_fn (hX5 V hgr).2)⟩
          · have e9 := hJ.val 9 _ rfl (hdep 9 (by decide))
            rw [show sl6 9 = 121 from rfl] at e9
            have e9 : vs 121 = .bool true := e9
            refine step_guard (j := 9) (s := 121) rfl rfl rfl (by rw [hv 121 (by decide), e9]) (fun K' hK => ?_)
            clear hv hdep
            go_simp
            go_at_call 14
            refine (value18_new 1 _ (by decide) (by decide)).mono ?_
            rintro e W ⟨⟨v, rfl, f⟩, b⟩
            exact hK _ _ ⟨upd vs 123 (v), .inr ⟨123, v, by decide, rfl, rfl⟩, hJ.step sl6_inj 11 _ rfl (b) (v) (f.weak (fun _ _ => trivial))⟩
          · have e9 := hJ.val 9 _ rfl (hdep 9 (by decide))
            rw [show sl6 9 = 121 from rfl] at e9
            have e9 : vs 121 = .bool true := e9
            have e10 := hJ.val 10 _ rfl (hdep 10 (by decide))
            rw [show sl6 10 = 122 from rfl] at e10
            have a122 : A.tmps[122]? = some (vs 122) := hv 122 (by decide)
            have e11 := hJ.val 11 _ rfl (hdep 11 (by decide))
            rw [show sl6 11 = 123 from rfl] at e11
            have a123 : A.tmps[123]? = some (vs 123) := hv 123 (by decide)
            refine step_guard (j := 9) (s := 121) rfl rfl rfl (by rw [hv 121 (by decide), e9]) (fun K' hK => ?_)
            clear hv hdep
            go_simp
            go_at_call 15
            refine (one18_new (fun _ => True) _ _ _ _ _ (fun _ _ => trivial) e10 e11).mono ?_
            rintro e W ⟨⟨v, rfl, f⟩, b⟩
            exact hK _ _ ⟨upd vs 124 (v), .inr ⟨124, v, by decide, rfl, rfl⟩, hJ.step sl6_inj 12 _ rfl (b) (v) (f)⟩
          · have e9 := hJ.val 9 _ rfl (hdep 9 (by decide))
            rw [show sl6 9 = 121 from rfl] at e9
            have e9 : vs 121 = .bool true := e9
            have e12 := hJ.val 12 _ rfl (hdep 12 (by decide))
            rw [show sl6 12 = 124 from rfl] at e12
            have a124 : A.tmps[124]? = some (vs 124) := hv 124 (by decide)
            refine step_guard (j := 9) (s := 121) rfl rfl rfl (by rw [hv 121 (by decide), e9]) (fun K' hK => ?_)
            clear hv hdep
            go_simp
            go_at_call 12
            refine (gives18_F [] (by decide) [123, 226, 141, 181, 61, 48, 58, 49, 226, 139, 132, 226, 139, 132, 120, 226, 134, 144, 226, 141, 186, 10, 226, 136, 135, 226, 141, 181, 125, 32, 49] _ rfl _ _ _ _ (by decide) (strs_nil _) (hG6 _ hgr).1 (hG6 _ hgr).2 (by decide) (Fresh.self e12) nm6_13).mono ?_
            rintro e W ⟨rfl, b⟩
            exact hK _ _ ⟨upd vs 125 (.bool true), .inr ⟨125, .bool true, by decide, rfl, rfl⟩, hJ.step sl6_inj 13 _ rfl (b) (.bool true) (rfl)⟩
          · have e9 := hJ.val 9 _ rfl (hdep 9 (by decide))
            rw [show sl6 9 = 121 from rfl] at e9
            have e9 : vs 121 = .bool true := e9
            have a121 : A.tmps[121]? = some (vs 121) := hv 121 (by decide)
            rw [e9] at a121
            have e13 := hJ.val 13 _ rfl (hdep 13 (by decide))
            rw [show sl6 13 = 125 from rfl] at e13
            have e13 : vs 125 = .bool true := e13
            have a125 : A.tmps[125]? = some (vs 125) := hv 125 (by decide)
            rw [e13] at a125
            refine step_free rfl rfl (fun K' hK => ?_)
            clear hv hdep
            go_simp
            exact hK _ _ ⟨upd vs 126 (.bool true), .inr ⟨126, .bool true, by decide, rfl, rfl⟩, hJ.step sl6_inj 14 _ rfl (Below.refl _ _) (.bool true) (rfl)⟩
          · have e14 := hJ.val 14 _ rfl (hdep 14 (by decide))
            rw [show sl6 14 = 126 from rfl] at e14
            have e14 : vs 126 = .bool true := e14
            have a126 : A.tmps[126]? = some (vs 126) := hv 126 (by decide)
            rw [e14] at a126
            refine step_free rfl rfl (fun K' hK => ?_)
            clear hv hdep
            go_simp
            exact hK _ _ ⟨upd vs 6 (.bool true), .inr ⟨6, .bool true, by decide, rfl, rfl⟩, hJ.step sl6_inj 15 _ rfl (Below.refl _ _) (.bool true) (rfl)⟩
        · intro d vs6 V6 hall hJ
          have h6 : vs6 6 = .bool true := hJ.val 15 _ rfl (hall 15 (show 15 < 16 by decide))
          have hB6 := hJ.gr
          clear hall hJ
          simp only [puts, ds6, List.range, List.range.loop, List.map_cons, List.map_nil, List.cons_append, List.nil_append, List.foldl_cons, List.foldl_nil, Act.put, List.setIfInBounds_toArray, List.set_cons_zero, List.set_cons_succ, Nat.reduceAdd]
          rw [h6]
          clear h6
          have hL6 := hL5.trans (hB6.mono hL5.size)
          have hG7 := (hGV V6 hL6).1
          have hgy7 := (hGV V6 hL6).2
          have hW := hB.trans (hL6.mono hB.size)
          clear hGV hA hA3 hA4 hX3 hX5 hG6 hL5 hL4 hL3 hB6 hB5 hB4 hB3 hB2 hL6 h4 hb3 ht3 hb5 ht5 hX hB
          have hF7 := strs_nil V6
          obtain ⟨x7, d7, q7, l7, k7⟩ := tr7
          have T7 := tree_b [] (by decide) s7 _ rfl (.slice none 0 0) V6 (by decide) hF7 hG7 hgy7
          rw [q7] at T7
          go_wp2_with fail
          refine T7.mono ?_
          intro e W7 hst
          clear T7
          obtain ⟨p7a, p7c, p7e, p7ec, p7b, p7bc, p7k, p7kc, p7d, p7dc, rfl, iE7, iT7, b7⟩ := state_open (k := 3) (nm := [102]) ⟨#[102]⟩ rfl 2 l7 hst
          have hX7 := heap_alloc_new W7 (.cells #[.int .i64 3, .string ⟨#[102]⟩, .int .i64 x7.kind, .string (bs x7.name), .int .i64 x7.val.kind, .slice p7a x7.val.shape.length p7c, .slice p7e x7.val.elems.length p7ec, .int .i64 x7.fn.kind, .int .i64 x7.fn.f, .int .i64 x7.fn.g, .string (bs x7.fn.name), .slice p7b x7.fn.body.len p7bc, .slice p7k x7.kids.len p7kc, .slice p7d 2 p7dc] 36)
          have c7 := b7.trans (((Below.refl _ W7).alloc (Nat.le_refl _) (.cells #[.int .i64 3, .string ⟨#[102]⟩, .int .i64 x7.kind, .string (bs x7.name), .int .i64 x7.val.kind, .slice p7a x7.val.shape.length p7c, .slice p7e x7.val.elems.length p7ec, .int .i64 x7.fn.kind, .int .i64 x7.fn.f, .int .i64 x7.fn.g, .string (bs x7.fn.name), .slice p7b x7.fn.body.len p7bc, .slice p7k x7.kids.len p7kc, .slice p7d 2 p7dc] 36)).mono b7.size)
          have iT7 := iT7.below ((Below.refl _ W7).alloc (Nat.le_refl _) (.cells #[.int .i64 3, .string ⟨#[102]⟩, .int .i64 x7.kind, .string (bs x7.name), .int .i64 x7.val.kind, .slice p7a x7.val.shape.length p7c, .slice p7e x7.val.elems.length p7ec, .int .i64 x7.fn.kind, .int .i64 x7.fn.f, .int .i64 x7.fn.g, .string (bs x7.fn.name), .slice p7b x7.fn.body.len p7bc, .slice p7k x7.kids.len p7kc, .slice p7d 2 p7dc] 36))
          have iE7 := iE7.below ((Below.refl _ W7).alloc (Nat.le_refl _) (.cells #[.int .i64 3, .string ⟨#[102]⟩, .int .i64 x7.kind, .string (bs x7.name), .int .i64 x7.val.kind, .slice p7a x7.val.shape.length p7c, .slice p7e x7.val.elems.length p7ec, .int .i64 x7.fn.kind, .int .i64 x7.fn.f, .int .i64 x7.fn.g, .string (bs x7.fn.name), .slice p7b x7.fn.body.len p7bc, .slice p7k x7.kids.len p7kc, .slice p7d 2 p7dc] 36))
          clear hst b7 q7
          go_upto_region 8 with fail
          generalize W7.alloc (.cells #[.int .i64 3, .string ⟨#[102]⟩, .int .i64 x7.kind, .string (bs x7.name), .int .i64 x7.val.kind, .slice p7a x7.val.shape.length p7c, .slice p7e x7.val.elems.length p7ec, .int .i64 x7.fn.kind, .int .i64 x7.fn.f, .int .i64 x7.fn.g, .string (bs x7.fn.name), .slice p7b x7.fn.body.len p7bc, .slice p7k x7.kids.len p7kc, .slice p7d 2 p7dc] 36) = V7 at *
          have hW7 := hW.trans (c7.mono hW.size)
          have hX8a := heap_alloc_new V7 (.cells #[.string ⟨#[97]⟩] 9)
          have b8a := (Below.refl _ V7).alloc (Nat.le_refl _) (.cells #[.string ⟨#[97]⟩] 9)
          have hG8 := (hG7.below c7).below b8a
          have hgy8 := (hgy7.below c7).below b8a
          have hF8 := strs_one (s := [97]) rfl hX8a
          obtain ⟨x8, d8, q8⟩ := tr8
          have T8 := tree_b [[97]] (by decide) s8 _ rfl _ _ (by decide) hF8 hG8 hgy8
          rw [q8] at T8
          go_wp2_with fail
          refine T8.mono ?_
          intro e W8 hst
          clear T8
          obtain ⟨p8a, p8c, p8e, p8ec, p8b, p8bc, p8k, p8kc, p8d, p8dc, rfl, iE8, iT8, b8⟩ := state_open (k := 2) (nm := [97]) ⟨#[97]⟩ rfl d8.len rfl hst
          have hX8 := heap_alloc_new W8 (.cells #[.int .i64 2, .string ⟨#[97]⟩, .int .i64 x8.kind, .string (bs x8.name), .int .i64 x8.val.kind, .slice p8a x8.val.shape.length p8c, .slice p8e x8.val.elems.length p8ec, .int .i64 x8.fn.kind, .int .i64 x8.fn.f, .int .i64 x8.fn.g, .string (bs x8.fn.name), .slice p8b x8.fn.body.len p8bc, .slice p8k x8.kids.len p8kc, .slice p8d d8.len p8dc] 36)
          have c8 := b8.trans (((Below.refl _ W8).alloc (Nat.le_refl _) (.cells #[.int .i64 2, .string ⟨#[97]⟩, .int .i64 x8.kind, .string (bs x8.name), .int .i64 x8.val.kind, .slice p8a x8.val.shape.length p8c, .slice p8e x8.val.elems.length p8ec, .int .i64 x8.fn.kind, .int .i64 x8.fn.f, .int .i64 x8.fn.g, .string (bs x8.fn.name), .slice p8b x8.fn.body.len p8bc, .slice p8k x8.kids.len p8kc, .slice p8d d8.len p8dc] 36)).mono b8.size)
          have iT8 := iT8.below ((Below.refl _ W8).alloc (Nat.le_refl _) (.cells #[.int .i64 2, .string ⟨#[97]⟩, .int .i64 x8.kind, .string (bs x8.name), .int .i64 x8.val.kind, .slice p8a x8.val.shape.length p8c, .slice p8e x8.val.elems.length p8ec, .int .i64 x8.fn.kind, .int .i64 x8.fn.f, .int .i64 x8.fn.g, .string (bs x8.fn.name), .slice p8b x8.fn.body.len p8bc, .slice p8k x8.kids.len p8kc, .slice p8d d8.len p8dc] 36))
          have iE8 := iE8.below ((Below.refl _ W8).alloc (Nat.le_refl _) (.cells #[.int .i64 2, .string ⟨#[97]⟩, .int .i64 x8.kind, .string (bs x8.name), .int .i64 x8.val.kind, .slice p8a x8.val.shape.length p8c, .slice p8e x8.val.elems.length p8ec, .int .i64 x8.fn.kind, .int .i64 x8.fn.f, .int .i64 x8.fn.g, .string (bs x8.fn.name), .slice p8b x8.fn.body.len p8bc, .slice p8k x8.kids.len p8kc, .slice p8d d8.len p8dc] 36))
          clear hst b8 q8
          go_upto_region 9 with fail
          generalize W8.alloc (.cells #[.int .i64 2, .string ⟨#[97]⟩, .int .i64 x8.kind, .string (bs x8.name), .int .i64 x8.val.kind, .slice p8a x8.val.shape.length p8c, .slice p8e x8.val.elems.length p8ec, .int .i64 x8.fn.kind, .int .i64 x8.fn.f, .int .i64 x8.fn.g, .string (bs x8.fn.name), .slice p8b x8.fn.body.len p8bc, .slice p8k x8.kids.len p8kc, .slice p8d d8.len p8dc] 36) = V8 at *
          have hW8 := hW7.trans ((b8a.trans (c8.mono b8a.size)).mono hW7.size)
          have c78 := b8a.trans (c8.mono b8a.size)
          have hG9 := hG8.below c8
          have hgy9 := hgy8.below c8
          have hF9 := strs_nil V8
          obtain ⟨x9, d9, q9⟩ := tr9
          have T9 := tree_b [] (by decide) s9 _ rfl (.slice none 0 0) V8 (by decide) hF9 hG9 hgy9
          rw [q9] at T9
          go_wp2_with fail
          refine T9.mono ?_
          intro e W9 hst
          clear T9
          obtain ⟨p9a, p9c, p9e, p9ec, p9b, p9bc, p9k, p9kc, p9d, p9dc, rfl, iE9, iT9, b9⟩ := state_open (k := 2) (nm := [97]) ⟨#[97]⟩ rfl d9.len rfl hst
          have hX9 := heap_alloc_new W9 (.cells #[.int .i64 2, .string ⟨#[97]⟩, .int .i64 x9.kind, .string (bs x9.name), .int .i64 x9.val.kind, .slice p9a x9.val.shape.length p9c, .slice p9e x9.val.elems.length p9ec, .int .i64 x9.fn.kind, .int .i64 x9.fn.f, .int .i64 x9.fn.g, .string (bs x9.fn.name), .slice p9b x9.fn.body.len p9bc, .slice p9k x9.kids.len p9kc, .slice p9d d9.len p9dc] 36)
          have c9 := b9.trans (((Below.refl _ W9).alloc (Nat.le_refl _) (.cells #[.int .i64 2, .string ⟨#[97]⟩, .int .i64 x9.kind, .string (bs x9.name), .int .i64 x9.val.kind, .slice p9a x9.val.shape.length p9c, .slice p9e x9.val.elems.length p9ec, .int .i64 x9.fn.kind, .int .i64 x9.fn.f, .int .i64 x9.fn.g, .string (bs x9.fn.name), .slice p9b x9.fn.body.len p9bc, .slice p9k x9.kids.len p9kc, .slice p9d d9.len p9dc] 36)).mono b9.size)
          have iT9 := iT9.below ((Below.refl _ W9).alloc (Nat.le_refl _) (.cells #[.int .i64 2, .string ⟨#[97]⟩, .int .i64 x9.kind, .string (bs x9.name), .int .i64 x9.val.kind, .slice p9a x9.val.shape.length p9c, .slice p9e x9.val.elems.length p9ec, .int .i64 x9.fn.kind, .int .i64 x9.fn.f, .int .i64 x9.fn.g, .string (bs x9.fn.name), .slice p9b x9.fn.body.len p9bc, .slice p9k x9.kids.len p9kc, .slice p9d d9.len p9dc] 36))
          have iE9 := iE9.below ((Below.refl _ W9).alloc (Nat.le_refl _) (.cells #[.int .i64 2, .string ⟨#[97]⟩, .int .i64 x9.kind, .string (bs x9.name), .int .i64 x9.val.kind, .slice p9a x9.val.shape.length p9c, .slice p9e x9.val.elems.length p9ec, .int .i64 x9.fn.kind, .int .i64 x9.fn.f, .int .i64 x9.fn.g, .string (bs x9.fn.name), .slice p9b x9.fn.body.len p9bc, .slice p9k x9.kids.len p9kc, .slice p9d d9.len p9dc] 36))
          clear hst b9 q9
          go_upto_region 10 with fail
          generalize W9.alloc (.cells #[.int .i64 2, .string ⟨#[97]⟩, .int .i64 x9.kind, .string (bs x9.name), .int .i64 x9.val.kind, .slice p9a x9.val.shape.length p9c, .slice p9e x9.val.elems.length p9ec, .int .i64 x9.fn.kind, .int .i64 x9.fn.f, .int .i64 x9.fn.g, .string (bs x9.fn.name), .slice p9b x9.fn.body.len p9bc, .slice p9k x9.kids.len p9kc, .slice p9d d9.len p9dc] 36) = V9 at *
          have hW9 := hW8.trans (c9.mono hW8.size)
          have c79 := c78.trans (c9.mono c78.size)
          have hG10 := hG9.below c9
          have hgy10 := hgy9.below c9
          have hY7 := (c79.block _ (Array.getElem?_eq_some_iff.1 hX7).1).trans hX7
          have hY8 := (c9.block _ (Array.getElem?_eq_some_iff.1 hX8).1).trans hX8
          obtain ⟨g7, o7, rfl, hh7⟩ := line_head (iT7.below c79) l7 (by decide) k7
          obtain ⟨e0, e1, e2, e3, e4, e5, e6, e7, e8, e9, e10, e11, e12, e13⟩ := st_facts hY7
          obtain ⟨f0, f1, f2, f3, f4, f5, f6, f7, f8, f9, f10, f11, f12, f13⟩ := st_facts hY8
          obtain ⟨m0, m1, m2, m3, m4, m5, m6, m7, m8, m9, m10, m11, m12, m13⟩ := st_facts hX9
          clear c79 c78 c7 c8 c9 hF7 hF8 hF9 hX8a b8a hG7 hgy7 hG8 hgy8 hG9 hgy9 hW hW7 hW8 iT7 iT8 iT9 iE7 iE8 iE9 k7 l7
          go_upto_region 11 with fail
          clear hY7 hY8 hX7 hX8 hX9 e0 e1 e2 e3 e4 e5 e6 e7 e8 e9 e10 e11 e12 e13 f0 f1 f2 f3 f4 f5 f6 f7 f8 f9 f10 f11 f12 f13 m0 m1 m2 m3 m4 m5 m6 m7 m8 m9 m10 m11 m12 m13 hh7
          have hX11 := heap_alloc_new V9 (.cells #[.string ⟨#[]⟩, .string ⟨#[97, 91, 49, 59, 93, 226, 134, 144, 50]⟩, .string ⟨#[43]⟩, .string ⟨#[49, 32, 50, 32, 97]⟩, .string ⟨#[40]⟩, .string ⟨#[226, 141, 181]⟩, .string ⟨#[226, 136, 135, 32, 49]⟩, .string ⟨#[49, 43]⟩, .string ⟨#[40, 43, 41]⟩, .string ⟨#[49, 32, 40, 50]⟩, .string ⟨#[91, 49, 93]⟩, .string ⟨#[97, 226, 134, 144]⟩, .string ⟨#[226, 134, 144, 49]⟩, .string ⟨#[49, 43, 47, 97]⟩, .string ⟨#[226, 136, 152, 46, 43, 97]⟩, .string ⟨#[43, 46, 195, 151, 97]⟩, .string ⟨#[97, 43, 46, 44, 49]⟩, .string ⟨#[97, 226, 134, 145]⟩, .string ⟨#[226, 134, 145, 97]⟩, .string ⟨#[49, 226, 137, 162, 49]⟩, .string ⟨#[126]⟩, .string ⟨#[49, 126, 97]⟩, .string ⟨#[123, 125, 49]⟩, .string ⟨#[123, 226, 139, 132, 125, 49]⟩, .string ⟨#[123, 49, 58, 50, 58, 51, 125, 49]⟩, .string ⟨#[123, 58, 49, 125, 49]⟩, .string ⟨#[123, 97, 226, 134, 144, 125, 49]⟩, .string ⟨#[97, 46, 98]⟩, .string ⟨#[49, 58, 50]⟩, .string ⟨#[97, 59, 98]⟩, .string ⟨#[123, 49]⟩, .string ⟨#[49, 125]⟩, .string ⟨#[40, 49, 93]⟩, .string ⟨#[123, 49, 125]⟩, .string ⟨#[97, 226, 134, 144, 123, 49, 125, 226, 139, 132, 50]⟩, .string ⟨#[102, 226, 134, 144, 123, 102, 226, 134, 144, 49, 125]⟩, .string ⟨#[123, 49, 32, 50, 91, 125, 49]⟩] 9)
          have b11 := (Below.refl _ V9).alloc (Nat.le_refl _) (.cells #[.string ⟨#[]⟩, .string ⟨#[97, 91, 49, 59, 93, 226, 134, 144, 50]⟩, .string ⟨#[43]⟩, .string ⟨#[49, 32, 50, 32, 97]⟩, .string ⟨#[40]⟩, .string ⟨#[226, 141, 181]⟩, .string ⟨#[226, 136, 135, 32, 49]⟩, .string ⟨#[49, 43]⟩, .string ⟨#[40, 43, 41]⟩, .string ⟨#[49, 32, 40, 50]⟩, .string ⟨#[91, 49, 93]⟩, .string ⟨#[97, 226, 134, 144]⟩, .string ⟨#[226, 134, 144, 49]⟩, .string ⟨#[49, 43, 47, 97]⟩, .string ⟨#[226, 136, 152, 46, 43, 97]⟩, .string ⟨#[43, 46, 195, 151, 97]⟩, .string ⟨#[97, 43, 46, 44, 49]⟩, .string ⟨#[97, 226, 134, 145]⟩, .string ⟨#[226, 134, 145, 97]⟩, .string ⟨#[49, 226, 137, 162, 49]⟩, .string ⟨#[126]⟩, .string ⟨#[49, 126, 97]⟩, .string ⟨#[123, 125, 49]⟩, .string ⟨#[123, 226, 139, 132, 125, 49]⟩, .string ⟨#[123, 49, 58, 50, 58, 51, 125, 49]⟩, .string ⟨#[123, 58, 49, 125, 49]⟩, .string ⟨#[123, 97, 226, 134, 144, 125, 49]⟩, .string ⟨#[97, 46, 98]⟩, .string ⟨#[49, 58, 50]⟩, .string ⟨#[97, 59, 98]⟩, .string ⟨#[123, 49]⟩, .string ⟨#[49, 125]⟩, .string ⟨#[40, 49, 93]⟩, .string ⟨#[123, 49, 125]⟩, .string ⟨#[97, 226, 134, 144, 123, 49, 125, 226, 139, 132, 50]⟩, .string ⟨#[102, 226, 134, 144, 123, 102, 226, 134, 144, 49, 125]⟩, .string ⟨#[123, 49, 32, 50, 91, 125, 49]⟩] 9)
          go_wp2_with fail
          generalize V9.alloc (.cells #[.string ⟨#[]⟩, .string ⟨#[97, 91, 49, 59, 93, 226, 134, 144, 50]⟩, .string ⟨#[43]⟩, .string ⟨#[49, 32, 50, 32, 97]⟩, .string ⟨#[40]⟩, .string ⟨#[226, 141, 181]⟩, .string ⟨#[226, 136, 135, 32, 49]⟩, .string ⟨#[49, 43]⟩, .string ⟨#[40, 43, 41]⟩, .string ⟨#[49, 32, 40, 50]⟩, .string ⟨#[91, 49, 93]⟩, .string ⟨#[97, 226, 134, 144]⟩, .string ⟨#[226, 134, 144, 49]⟩, .string ⟨#[49, 43, 47, 97]⟩, .string ⟨#[226, 136, 152, 46, 43, 97]⟩, .string ⟨#[43, 46, 195, 151, 97]⟩, .string ⟨#[97, 43, 46, 44, 49]⟩, .string ⟨#[97, 226, 134, 145]⟩, .string ⟨#[226, 134, 145, 97]⟩, .string ⟨#[49, 226, 137, 162, 49]⟩, .string ⟨#[126]⟩, .string ⟨#[49, 126, 97]⟩, .string ⟨#[123, 125, 49]⟩, .string ⟨#[123, 226, 139, 132, 125, 49]⟩, .string ⟨#[123, 49, 58, 50, 58, 51, 125, 49]⟩, .string ⟨#[123, 58, 49, 125, 49]⟩, .string ⟨#[123, 97, 226, 134, 144, 125, 49]⟩, .string ⟨#[97, 46, 98]⟩, .string ⟨#[49, 58, 50]⟩, .string ⟨#[97, 59, 98]⟩, .string ⟨#[123, 49]⟩, .string ⟨#[49, 125]⟩, .string ⟨#[40, 49, 93]⟩, .string ⟨#[123, 49, 125]⟩, .string ⟨#[97, 226, 134, 144, 123, 49, 125, 226, 139, 132, 50]⟩, .string ⟨#[102, 226, 134, 144, 123, 102, 226, 134, 144, 49, 125]⟩, .string ⟨#[123, 49, 32, 50, 91, 125, 49]⟩] 9) = V11 at *
          rw [← bads_cells] at hX11
          have hG11 := hG10.below b11
          have hgy11 := hgy10.below b11
          have hW11 := hW9.trans (b11.mono hW9.size)
          have hc : ∀ V, Below V11.heap.size V11 V → ∀ k x, bads[k]? = some x → V.cell? ⟨V9.heap.size, k, none⟩ = some (.string (bs x)) := fun V h k x hk => by
            rw [Lib.cell_of_heap ((h.block _ (Array.getElem?_eq_some_iff.1 hX11).1).trans hX11)]
            simp [hk]
          clear hX11 b11
          go_loopw [14, 191] (fun vo vi wr => ∃ k : Nat, k ≤ 37 ∧ vo = .bool true ∧ vi = .int .i64 (k : Nat) ∧ Below V11.heap.size V11 wr) (fun _ vi _ => 37 - (intOf vi).toNat)
          case atStart => exact ⟨0, by decide, rfl, rfl, Below.refl _ _⟩
          case round =>
            obtain ⟨k, hk, rfl, rfl, hB⟩ := hrel
            by_cases hlt : k < 37
            · obtain ⟨x, hx⟩ : ∃ x, bads[k]? = some x := ⟨_, List.getElem?_eq_getElem (show k < bads.length from hlt)⟩
              have c0 := hc wr hB k x hx
              have hki : (k : Int) < 37 := by omega
              have hm := List.mem_of_getElem? hx
              have hcall := wrong18_so [] (by decide) x (bs x) rfl (.slice none 0 0) wr (bads_short x hm) (strs_nil _) (hG11.below hB) (hgy11.below hB) (bads_bad x hm)
              clear hx hm
              go_wp2_with fail
              refine hcall.mono ?_
              rintro e w' ⟨rfl, hb⟩
              go_wp2_with fail
              go_roundw
              case rel => exact ⟨k + 1, by omega, rfl, by go_num, hB.trans (hb.mono hB.size)⟩
              case measure => simp [intOf]; omega
            · have hki : ¬ (k : Int) < 37 := by omega
              have hU0 := hW11.trans (hB.mono hW11.size)
              have hGU : ∀ V, Below wr.heap.size wr V → Glob V ∧ Gly V := fun V h => ⟨(hG11.below hB).below h, (hgy11.below hB).below h⟩
              clear hc hG11 hgy11 hW11 hB hlt hk hG10 hgy10 hW9
              have u0 := Below.refl wr.heap.size wr
              have ba1 := (Below.refl _ wr).alloc (Nat.le_refl _) (.cells #[.string ⟨#[102]⟩] 9)
              have ua1 := u0.trans (ba1.mono u0.size)
              have call1 := wrong18_so [[102]] (by decide) [102] _ rfl _ _ (by decide) (strs_one (s := [102]) rfl (heap_alloc_new wr (.cells #[.string ⟨#[102]⟩] 9))) (hGU _ ua1).1 (hGU _ ua1).2 bd1
              go_wp2_with fail
              refine call1.mono ?_
              rintro e U1 ⟨rfl, bu1⟩
              have u1 := ua1.trans (bu1.mono ua1.size)
              clear ba1 ua1 bu1 call1 u0
              have ba2 := (Below.refl _ U1).alloc (Nat.le_refl _) (.cells #[.string ⟨#[102]⟩] 9)
              have ua2 := u1.trans (ba2.mono u1.size)
              have call2 := wrong18_so [[102]] (by decide) [102, 61, 49] _ rfl _ _ (by decide) (strs_one (s := [102]) rfl (heap_alloc_new U1 (.cells #[.string ⟨#[102]⟩] 9))) (hGU _ ua2).1 (hGU _ ua2).2 bd2
              go_wp2_with fail
              refine call2.mono ?_
              rintro e U2 ⟨rfl, bu2⟩
              have u2 := ua2.trans (bu2.mono ua2.size)
              clear ba2 ua2 bu2 call2 u1
              have ba3 := (Below.refl _ U2).alloc (Nat.le_refl _) (.cells #[.string ⟨#[102]⟩] 9)
              have ua3 := u2.trans (ba3.mono u2.size)
              have call3 := wrong18_so [[102]] (by decide) [49, 43, 102] _ rfl _ _ (by decide) (strs_one (s := [102]) rfl (heap_alloc_new U2 (.cells #[.string ⟨#[102]⟩] 9))) (hGU _ ua3).1 (hGU _ ua3).2 bd3
              go_wp2_with fail
              refine call3.mono ?_
              rintro e U3 ⟨rfl, bu3⟩
              have u3 := ua3.trans (bu3.mono ua3.size)
              clear ba3 ua3 bu3 call3 u2
              have ba4 := (Below.refl _ U3).alloc (Nat.le_refl _) (.cells #[.string ⟨#[102]⟩] 9)
              have ua4 := u3.trans (ba4.mono u3.size)
              have call4 := wrong18_so [[102]] (by decide) [123, 102, 226, 134, 144, 49, 226, 139, 132, 50, 125, 49] _ rfl _ _ (by decide) (strs_one (s := [102]) rfl (heap_alloc_new U3 (.cells #[.string ⟨#[102]⟩] 9))) (hGU _ ua4).1 (hGU _ ua4).2 bd4
              go_wp2_with fail
              refine call4.mono ?_
              rintro e U4 ⟨rfl, bu4⟩
              have u4 := ua4.trans (bu4.mono ua4.size)
              clear ba4 ua4 bu4 call4 u3
              go_upto_region 18 with fail
              have v17 := u4
              clear u4
              obtain ⟨x18, d18, q18, hx18⟩ := dp1x
              go_wp2_with fail
              refine (repeat_b [40] _ 50 _ _ rfl rfl (by decide) (by decide)).mono ?_
              rintro e R18 ⟨⟨S18, rfl, H18, z18⟩, r18⟩
              go_wp2_with fail
              refine (repeat_b [41] _ 50 _ _ rfl rfl (by decide) (by decide)).mono ?_
              rintro e Q18 ⟨⟨P18, rfl, J18, y18⟩, t18⟩
              have vb18 := v17.trans ((r18.trans (t18.mono r18.size)).mono v17.size)
              have T18 := tree_b [] (by decide) (dp 50 50 [49]) (S18 ++ ⟨#[49]⟩ ++ P18) (by rw [H18.out, J18.out, show (⟨#[49]⟩ : ByteArray) = bs [49] from rfl, bs_glue, bs_glue]; rfl) (.slice none 0 0) Q18 (by decide +kernel) (strs_nil _) (hGU _ vb18).1 (hGU _ vb18).2
              rw [q18] at T18
              go_wp2_with fail
              refine T18.mono ?_
              intro e W18 hst
              clear T18
              obtain ⟨p18a, p18c, p18e, p18ec, p18b, p18bc, p18k, p18kc, p18d, p18dc, rfl, iE18, iT18, b18⟩ := state_open (k := 1) (nm := []) ⟨#[]⟩ rfl d18.len rfl hst
              have hX18 := heap_alloc_new W18 (.cells #[.int .i64 1, .string ⟨#[]⟩, .int .i64 x18.kind, .string (bs x18.name), .int .i64 x18.val.kind, .slice p18a x18.val.shape.length p18c, .slice p18e x18.val.elems.length p18ec, .int .i64 x18.fn.kind, .int .i64 x18.fn.f, .int .i64 x18.fn.g, .string (bs x18.fn.name), .slice p18b x18.fn.body.len p18bc, .slice p18k x18.kids.len p18kc, .slice p18d d18.len p18dc] 36)
              have c18 := b18.trans (((Below.refl _ W18).alloc (Nat.le_refl _) (.cells #[.int .i64 1, .string ⟨#[]⟩, .int .i64 x18.kind, .string (bs x18.name), .int .i64 x18.val.kind, .slice p18a x18.val.shape.length p18c, .slice p18e x18.val.elems.length p18ec, .int .i64 x18.fn.kind, .int .i64 x18.fn.f, .int .i64 x18.fn.g, .string (bs x18.fn.name), .slice p18b x18.fn.body.len p18bc, .slice p18k x18.kids.len p18kc, .slice p18d d18.len p18dc] 36)).mono b18.size)
              have iE18 := iE18.below ((Below.refl _ W18).alloc (Nat.le_refl _) (.cells #[.int .i64 1, .string ⟨#[]⟩, .int .i64 x18.kind, .string (bs x18.name), .int .i64 x18.val.kind, .slice p18a x18.val.shape.length p18c, .slice p18e x18.val.elems.length p18ec, .int .i64 x18.fn.kind, .int .i64 x18.fn.f, .int .i64 x18.fn.g, .string (bs x18.fn.name), .slice p18b x18.fn.body.len p18bc, .slice p18k x18.kids.len p18kc, .slice p18d d18.len p18dc] 36))
              clear hst b18 q18 iT18
              go_upto_region 19 with fail
              generalize W18.alloc (.cells #[.int .i64 1, .string ⟨#[]⟩, .int .i64 x18.kind, .string (bs x18.name), .int .i64 x18.val.kind, .slice p18a x18.val.shape.length p18c, .slice p18e x18.val.elems.length p18ec, .int .i64 x18.fn.kind, .int .i64 x18.fn.f, .int .i64 x18.fn.g, .string (bs x18.fn.name), .slice p18b x18.fn.body.len p18bc, .slice p18k x18.kids.len p18kc, .slice p18d d18.len p18dc] 36) = V18 at *
              have v18 := vb18.trans (c18.mono vb18.size)
              clear H18 z18 J18 y18
              clear vb18 r18 t18 c18 v17
              obtain ⟨k19, nm19, x19, d19, q19⟩ := dp2
              go_wp2_with fail
              refine (repeat_b [40] _ 51 _ _ rfl rfl (by decide) (by decide)).mono ?_
              rintro e R19 ⟨⟨S19, rfl, H19, z19⟩, r19⟩
              go_wp2_with fail
              refine (repeat_b [41] _ 51 _ _ rfl rfl (by decide) (by decide)).mono ?_
              rintro e Q19 ⟨⟨P19, rfl, J19, y19⟩, t19⟩
              have vb19 := v18.trans ((r19.trans (t19.mono r19.size)).mono v18.size)
              have T19 := tree_b [] (by decide) (dp 51 51 [49]) (S19 ++ ⟨#[49]⟩ ++ P19) (by rw [H19.out, J19.out, show (⟨#[49]⟩ : ByteArray) = bs [49] from rfl, bs_glue, bs_glue]; rfl) (.slice none 0 0) Q19 (by decide +kernel) (strs_nil _) (hGU _ vb19).1 (hGU _ vb19).2
              rw [q19] at T19
              go_wp2_with fail
              refine T19.mono ?_
              intro e W19 hst
              clear T19
              obtain ⟨p19a, p19c, p19e, p19ec, p19b, p19bc, p19k, p19kc, p19d, p19dc, rfl, iE19, iT19, b19⟩ := state_open (k := k19) (nm := nm19) (bs nm19) rfl d19.len rfl hst
              have hX19 := heap_alloc_new W19 (.cells #[.int .i64 k19, .string (bs nm19), .int .i64 x19.kind, .string (bs x19.name), .int .i64 x19.val.kind, .slice p19a x19.val.shape.length p19c, .slice p19e x19.val.elems.length p19ec, .int .i64 x19.fn.kind, .int .i64 x19.fn.f, .int .i64 x19.fn.g, .string (bs x19.fn.name), .slice p19b x19.fn.body.len p19bc, .slice p19k x19.kids.len p19kc, .slice p19d d19.len p19dc] 36)
              have c19 := b19.trans (((Below.refl _ W19).alloc (Nat.le_refl _) (.cells #[.int .i64 k19, .string (bs nm19), .int .i64 x19.kind, .string (bs x19.name), .int .i64 x19.val.kind, .slice p19a x19.val.shape.length p19c, .slice p19e x19.val.elems.length p19ec, .int .i64 x19.fn.kind, .int .i64 x19.fn.f, .int .i64 x19.fn.g, .string (bs x19.fn.name), .slice p19b x19.fn.body.len p19bc, .slice p19k x19.kids.len p19kc, .slice p19d d19.len p19dc] 36)).mono b19.size)
              have iE19 := iE19.below ((Below.refl _ W19).alloc (Nat.le_refl _) (.cells #[.int .i64 k19, .string (bs nm19), .int .i64 x19.kind, .string (bs x19.name), .int .i64 x19.val.kind, .slice p19a x19.val.shape.length p19c, .slice p19e x19.val.elems.length p19ec, .int .i64 x19.fn.kind, .int .i64 x19.fn.f, .int .i64 x19.fn.g, .string (bs x19.fn.name), .slice p19b x19.fn.body.len p19bc, .slice p19k x19.kids.len p19kc, .slice p19d d19.len p19dc] 36))
              clear hst b19 q19 iT19
              go_upto_region 20 with fail
              generalize W19.alloc (.cells #[.int .i64 k19, .string (bs nm19), .int .i64 x19.kind, .string (bs x19.name), .int .i64 x19.val.kind, .slice p19a x19.val.shape.length p19c, .slice p19e x19.val.elems.length p19ec, .int .i64 x19.fn.kind, .int .i64 x19.fn.f, .int .i64 x19.fn.g, .string (bs x19.fn.name), .slice p19b x19.fn.body.len p19bc, .slice p19k x19.kids.len p19kc, .slice p19d d19.len p19dc] 36) = V19 at *
              have v19 := vb19.trans (c19.mono vb19.size)
              clear H19 z19 J19 y19
              have g19 := (r19.trans (t19.mono r19.size)).trans (c19.mono (r19.trans (t19.mono r19.size)).size)
              have hX18 := (g19.block _ (Array.getElem?_eq_some_iff.1 hX18).1).trans hX18
              have iE18 := iE18.below g19
              clear g19 iE19 hX19
              clear vb19 r19 t19 c19 v18
              obtain ⟨k20, nm20, x20, d20, q20⟩ := dp3
              go_wp2_with fail
              refine (repeat_b [40] _ 51 _ _ rfl rfl (by decide) (by decide)).mono ?_
              rintro e R20 ⟨⟨S20, rfl, H20, z20⟩, r20⟩
              go_wp2_with fail
              refine (repeat_b [41] _ 50 _ _ rfl rfl (by decide) (by decide)).mono ?_
              rintro e Q20 ⟨⟨P20, rfl, J20, y20⟩, t20⟩
              have vb20 := v19.trans ((r20.trans (t20.mono r20.size)).mono v19.size)
              have T20 := tree_b [] (by decide) (dp 51 50 [49]) (S20 ++ ⟨#[49]⟩ ++ P20) (by rw [H20.out, J20.out, show (⟨#[49]⟩ : ByteArray) = bs [49] from rfl, bs_glue, bs_glue]; rfl) (.slice none 0 0) Q20 (by decide +kernel) (strs_nil _) (hGU _ vb20).1 (hGU _ vb20).2
              rw [q20] at T20
              go_wp2_with fail
              refine T20.mono ?_
              intro e W20 hst
              clear T20
              obtain ⟨p20a, p20c, p20e, p20ec, p20b, p20bc, p20k, p20kc, p20d, p20dc, rfl, iE20, iT20, b20⟩ := state_open (k := k20) (nm := nm20) (bs nm20) rfl d20.len rfl hst
              have hX20 := heap_alloc_new W20 (.cells #[.int .i64 k20, .string (bs nm20), .int .i64 x20.kind, .string (bs x20.name), .int .i64 x20.val.kind, .slice p20a x20.val.shape.length p20c, .slice p20e x20.val.elems.length p20ec, .int .i64 x20.fn.kind, .int .i64 x20.fn.f, .int .i64 x20.fn.g, .string (bs x20.fn.name), .slice p20b x20.fn.body.len p20bc, .slice p20k x20.kids.len p20kc, .slice p20d d20.len p20dc] 36)
              have c20 := b20.trans (((Below.refl _ W20).alloc (Nat.le_refl _) (.cells #[.int .i64 k20, .string (bs nm20), .int .i64 x20.kind, .string (bs x20.name), .int .i64 x20.val.kind, .slice p20a x20.val.shape.length p20c, .slice p20e x20.val.elems.length p20ec, .int .i64 x20.fn.kind, .int .i64 x20.fn.f, .int .i64 x20.fn.g, .string (bs x20.fn.name), .slice p20b x20.fn.body.len p20bc, .slice p20k x20.kids.len p20kc, .slice p20d d20.len p20dc] 36)).mono b20.size)
              have iE20 := iE20.below ((Below.refl _ W20).alloc (Nat.le_refl _) (.cells #[.int .i64 k20, .string (bs nm20), .int .i64 x20.kind, .string (bs x20.name), .int .i64 x20.val.kind, .slice p20a x20.val.shape.length p20c, .slice p20e x20.val.elems.length p20ec, .int .i64 x20.fn.kind, .int .i64 x20.fn.f, .int .i64 x20.fn.g, .string (bs x20.fn.name), .slice p20b x20.fn.body.len p20bc, .slice p20k x20.kids.len p20kc, .slice p20d d20.len p20dc] 36))
              clear hst b20 q20 iT20
              go_upto_region 21 with fail
              generalize W20.alloc (.cells #[.int .i64 k20, .string (bs nm20), .int .i64 x20.kind, .string (bs x20.name), .int .i64 x20.val.kind, .slice p20a x20.val.shape.length p20c, .slice p20e x20.val.elems.length p20ec, .int .i64 x20.fn.kind, .int .i64 x20.fn.f, .int .i64 x20.fn.g, .string (bs x20.fn.name), .slice p20b x20.fn.body.len p20bc, .slice p20k x20.kids.len p20kc, .slice p20d d20.len p20dc] 36) = V20 at *
              have v20 := vb20.trans (c20.mono vb20.size)
              clear H20 z20 J20 y20
              have g20 := (r20.trans (t20.mono r20.size)).trans (c20.mono (r20.trans (t20.mono r20.size)).size)
              have hX18 := (g20.block _ (Array.getElem?_eq_some_iff.1 hX18).1).trans hX18
              have iE18 := iE18.below g20
              clear g20 iE20 hX20
              clear vb20 r20 t20 c20 v19
              obtain ⟨k21, nm21, x21, d21, q21⟩ := dp4
              go_wp2_with fail
              refine (repeat_b [40] _ 51 _ _ rfl rfl (by decide) (by decide)).mono ?_
              rintro e R21 ⟨⟨S21, rfl, H21, z21⟩, r21⟩
              go_wp2_with fail
              refine (repeat_b [41] _ 51 _ _ rfl rfl (by decide) (by decide)).mono ?_
              rintro e Q21 ⟨⟨P21, rfl, J21, y21⟩, t21⟩
              have vb21 := v20.trans ((r21.trans (t21.mono r21.size)).mono v20.size)
              have T21 := tree_b [] (by decide) (dp 51 51 []) (S21 ++ P21) (by rw [H21.out, J21.out, bs_glue]; rfl) (.slice none 0 0) Q21 (by decide +kernel) (strs_nil _) (hGU _ vb21).1 (hGU _ vb21).2
              rw [q21] at T21
              go_wp2_with fail
              refine T21.mono ?_
              intro e W21 hst
              clear T21
              obtain ⟨p21a, p21c, p21e, p21ec, p21b, p21bc, p21k, p21kc, p21d, p21dc, rfl, iE21, iT21, b21⟩ := state_open (k := k21) (nm := nm21) (bs nm21) rfl d21.len rfl hst
              have hX21 := heap_alloc_new W21 (.cells #[.int .i64 k21, .string (bs nm21), .int .i64 x21.kind, .string (bs x21.name), .int .i64 x21.val.kind, .slice p21a x21.val.shape.length p21c, .slice p21e x21.val.elems.length p21ec, .int .i64 x21.fn.kind, .int .i64 x21.fn.f, .int .i64 x21.fn.g, .string (bs x21.fn.name), .slice p21b x21.fn.body.len p21bc, .slice p21k x21.kids.len p21kc, .slice p21d d21.len p21dc] 36)
              have c21 := b21.trans (((Below.refl _ W21).alloc (Nat.le_refl _) (.cells #[.int .i64 k21, .string (bs nm21), .int .i64 x21.kind, .string (bs x21.name), .int .i64 x21.val.kind, .slice p21a x21.val.shape.length p21c, .slice p21e x21.val.elems.length p21ec, .int .i64 x21.fn.kind, .int .i64 x21.fn.f, .int .i64 x21.fn.g, .string (bs x21.fn.name), .slice p21b x21.fn.body.len p21bc, .slice p21k x21.kids.len p21kc, .slice p21d d21.len p21dc] 36)).mono b21.size)
              have iE21 := iE21.below ((Below.refl _ W21).alloc (Nat.le_refl _) (.cells #[.int .i64 k21, .string (bs nm21), .int .i64 x21.kind, .string (bs x21.name), .int .i64 x21.val.kind, .slice p21a x21.val.shape.length p21c, .slice p21e x21.val.elems.length p21ec, .int .i64 x21.fn.kind, .int .i64 x21.fn.f, .int .i64 x21.fn.g, .string (bs x21.fn.name), .slice p21b x21.fn.body.len p21bc, .slice p21k x21.kids.len p21kc, .slice p21d d21.len p21dc] 36))
              clear hst b21 q21 iT21
              go_upto_region 22 with fail
              generalize W21.alloc (.cells #[.int .i64 k21, .string (bs nm21), .int .i64 x21.kind, .string (bs x21.name), .int .i64 x21.val.kind, .slice p21a x21.val.shape.length p21c, .slice p21e x21.val.elems.length p21ec, .int .i64 x21.fn.kind, .int .i64 x21.fn.f, .int .i64 x21.fn.g, .string (bs x21.fn.name), .slice p21b x21.fn.body.len p21bc, .slice p21k x21.kids.len p21kc, .slice p21d d21.len p21dc] 36) = V21 at *
              have v21 := vb21.trans (c21.mono vb21.size)
              clear H21 z21 J21 y21
              have g21 := (r21.trans (t21.mono r21.size)).trans (c21.mono (r21.trans (t21.mono r21.size)).size)
              have hX18 := (g21.block _ (Array.getElem?_eq_some_iff.1 hX18).1).trans hX18
              have iE18 := iE18.below g21
              clear g21 iE21 hX21
              clear vb21 r21 t21 c21 v20
              have hv20 := val_any 20 V21
              rw [show (valF 20).1 = true by decide, show (valF 20).2 = true by decide] at hv20
              go_wp2_with fail
              refine hv20.mono ?_
              rintro e X1 ⟨rfl, bx1⟩
              have hv25 := val_any 25 X1
              rw [show (valF 25).1 = true by decide, show (valF 25).2 = false by decide] at hv25
              go_wp2_with fail
              refine hv25.mono ?_
              rintro e X2 ⟨rfl, bx2⟩
              have bx := bx1.trans (bx2.mono bx1.size)
              have hX24 := (bx.block _ (Array.getElem?_eq_some_iff.1 hX18).1).trans hX18
              have iE24 := iE18.below bx
              have v24 := v21.trans (bx.mono v21.size)
              rw [hx18.out] at iE24
              have hU24 := hU0.trans (v24.mono hU0.size)
              have hG24 : ∀ V, Below X2.heap.size X2 V → Glob V ∧ Gly V := fun V h => hGU V (v24.trans (h.mono v24.size))
              clear hv20 hv25 bx1 bx2 bx hX18 iE18 v21 v24 hGU hU0
              go_upto_region 24 with fail
              refine region_vals ds24 ds24_nodup _ (RS0 X2 sl24 (tab24 W18.heap.size)) v24 (by kernel_rfl) (by kernel_rfl) rfl (by kernel_rfl) (by kernel_rfl) ⟨(Below.refl _ _).drew, fun k f _ hd => by cases hd⟩ ?_ ?_
              · intro i hi d vs V A hfar hv hd hdep hJ
                have hi2 : i < 67 := hi
                have hgr := hJ.gr
                have p2 : A.tmps[2]? = some (.bool true) := (hfar 2 (by decide)).trans rfl
                have p6 : A.tmps[6]? = some (.bool true) := (hfar 6 (by decide)).trans rfl
                have p13 : A.tmps[13]? = some (.bool true) := (hfar 13 (by decide)).trans rfl
                have p14 : A.tmps[14]? = some (.bool true) := (hfar 14 (by decide)).trans rfl
                have p18 : A.tmps[18]? = some (.int .i64 0) := (hfar 18 (by decide)).trans rfl
                have p20 : A.tmps[20]? = some (.int .i64 9) := (hfar 20 (by decide)).trans rfl
                have p22 : A.tmps[22]? = some (.int .i64 170) := (hfar 22 (by decide)).trans rfl
                have p24 : A.tmps[24]? = some (.int .i64 9) := (hfar 24 (by decide)).trans rfl
                have p25 : A.tmps[25]? = some (.bool true) := (hfar 25 (by decide)).trans rfl
                have p26 : A.tmps[26]? = some (.bool true) := (hfar 26 (by decide)).trans rfl
                have p27 : A.tmps[27]? = some (.bool true) := (hfar 27 (by decide)).trans rfl
                have p28 : A.tmps[28]? = some (.bool false) := (hfar 28 (by decide)).trans rfl
                have p17 : A.tmps[17]? = some (.pointer (some ⟨W18.heap.size, 0, none⟩)) := (hfar 17 (by decide)).trans rfl
                clear hfar hi
                rcases (by omega : i = 0 ∨ i = 1 ∨ i = 2 ∨ i = 3 ∨ i = 4 ∨ i = 5 ∨ i = 6 ∨ i = 7 ∨ i = 8 ∨ i = 9 ∨ i = 10 ∨ i = 11 ∨ i = 12 ∨ i = 13 ∨ i = 14 ∨ i = 15 ∨ i = 16 ∨ i = 17 ∨ i = 18 ∨ i = 19 ∨ i = 20 ∨ i = 21 ∨ i = 22 ∨ i = 23 ∨ i = 24 ∨ i = 25 ∨ i = 26 ∨ i = 27 ∨ i = 28 ∨ i = 29 ∨ i = 30 ∨ i = 31 ∨ i = 32 ∨ i = 33 ∨ i = 34 ∨ i = 35 ∨ i = 36 ∨ i = 37 ∨ i = 38 ∨ i = 39 ∨ i = 40 ∨ i = 41 ∨ i = 42 ∨ i = 43 ∨ i = 44 ∨ i = 45 ∨ i = 46 ∨ i = 47 ∨ i = 48 ∨ i = 49 ∨ i = 50 ∨ i = 51 ∨ i = 52 ∨ i = 53 ∨ i = 54 ∨ i = 55 ∨ i = 56 ∨ i = 57 ∨ i = 58 ∨ i = 59 ∨ i = 60 ∨ i = 61 ∨ i = 62 ∨ i = 63 ∨ i = 64 ∨ i = 65 ∨ i = 66) with rfl | rfl | rfl | rfl | rfl | rfl | rfl | rfl | rfl | rfl | rfl | rfl | rfl | rfl | rfl | rfl | rfl | rfl | rfl | rfl | rfl | rfl | rfl | rfl | rfl | rfl | rfl | rfl | rfl | rfl | rfl | rfl | rfl | rfl | rfl | rfl | rfl | rfl | rfl | rfl | rfl | rfl | rfl | rfl | rfl | rfl | rfl | rfl | rfl | rfl | rfl | rfl | rfl | rfl | rfl | rfl | rfl | rfl | rfl | rfl | rfl | rfl | rfl | rfl | rfl | rfl | rfl
                · refine step_free rfl rfl (fun K' hK => ?_)
                  clear hv hdep
                  go_simp
                  exact hK _ _ ⟨upd vs 257 (.bool true), .inr ⟨257, .bool true, by decide, rfl, rfl⟩, hJ.step sl24_inj 0 _ rfl (Below.refl _ _) (.bool true) (rfl)⟩
                · have e0 := hJ.val 0 _ rfl (hdep 0 (by decide))
                  rw [show sl24 0 = 257 from rfl] at e0
                  have e0 : vs 257 = .bool true := e0
                  refine step_guard (j := 0) (s := 257) rfl rfl rfl (by rw [hv 257 (by decide), e0]) (fun K' hK => ?_)
                  clear hv hdep
                  go_simp
                  go_at_call 7
                  refine (alive18_any _ (hG24 _ hgr).1 (hG24 _ hgr).2).mono ?_
                  rintro e W ⟨rfl, b⟩
                  exact hK _ _ ⟨upd vs 258 (.bool true), .inr ⟨258, .bool true, by decide, rfl, rfl⟩, hJ.step sl24_inj 1 _ rfl (b) (.bool true) (rfl)⟩
                · have e0 := hJ.val 0 _ rfl (hdep 0 (by decide))
                  rw [show sl24 0 = 257 from rfl] at e0
                  have e0 : vs 257 = .bool true := e0
                  have a257 : A.tmps[257]? = some (vs 257) := hv 257 (by decide)
                  rw [e0] at a257
                  have e1 := hJ.val 1 _ rfl (hdep 1 (by decide))
                  rw [show sl24 1 = 258 from rfl] at e1
                  have e1 : vs 258 = .bool true := e1
                  have a258 : A.tmps[258]? = some (vs 258) := hv 258 (by decide)
                  rw [e1] at a258
                  refine step_free rfl rfl (fun K' hK => ?_)
                  clear hv hdep
                  go_simp
                  exact hK _ _ ⟨upd vs 259 (.bool true), .inr ⟨259, .bool true, by decide, rfl, rfl⟩, hJ.step sl24_inj 2 _ rfl (Below.refl _ _) (.bool true) (rfl)⟩
                · have e2 := hJ.val 2 _ rfl (hdep 2 (by decide))
                  rw [show sl24 2 = 259 from rfl] at e2
                  have e2 : vs 259 = .bool true := e2
                  have a259 : A.tmps[259]? = some (vs 259) := hv 259 (by decide)
                  rw [e2] at a259
                  refine step_free rfl rfl (fun K' hK => ?_)
                  clear hv hdep
                  go_simp
                  exact hK _ _ ⟨upd vs 260 (.bool true), .inr ⟨260, .bool true, by decide, rfl, rfl⟩, hJ.step sl24_inj 3 _ rfl (Below.refl _ _) (.bool true) (rfl)⟩
                · have e3 := hJ.val 3 _ rfl (hdep 3 (by decide))
                  rw [show sl24 3 = 260 from rfl] at e3
                  have e3 : vs 260 = .bool true := e3
                  refine step_guard (j := 3) (s := 260) rfl rfl rfl (by rw [hv 260 (by decide), e3]) (fun K' hK => ?_)
                  clear hv hdep
                  go_simp
                  exact hK _ _ ⟨upd vs 261 (.bool true), .inr ⟨261, .bool true, by decide, rfl, rfl⟩, hJ.step sl24_inj 4 _ rfl (Below.refl _ _) (.bool true) (rfl)⟩
                · have e3 := hJ.val 3 _ rfl (hdep 3 (by decide))
                  rw [show sl24 3 = 260 from rfl] at e3
                  have e3 : vs 260 = .bool true := e3
                  have a260 : A.tmps[260]? = some (vs 260) := hv 260 (by decide)
                  rw [e3] at a260
                  have e4 := hJ.val 4 _ rfl (hdep 4 (by decide))
                  rw [show sl24 4 = 261 from rfl] at e4
                  have e4 : vs 261 = .bool true := e4
                  have a261 : A.tmps[261]? = some (vs 261) := hv 261 (by decide)
                  rw [e4] at a261
                  refine step_free rfl rfl (fun K' hK => ?_)
                  clear hv hdep
                  go_simp
                  exact hK _ _ ⟨upd vs 262 (.bool true), .inr ⟨262, .bool true, by decide, rfl, rfl⟩, hJ.step sl24_inj 5 _ rfl (Below.refl _ _) (.bool true) (rfl)⟩
                · have e5 := hJ.val 5 _ rfl (hdep 5 (by decide))
                  rw [show sl24 5 = 262 from rfl] at e5
                  have e5 : vs 262 = .bool true := e5
                  have a262 : A.tmps[262]? = some (vs 262) := hv 262 (by decide)
                  rw [e5] at a262
                  refine step_free rfl rfl (fun K' hK => ?_)
                  clear hv hdep
                  go_simp
                  exact hK _ _ ⟨upd vs 263 (.bool true), .inr ⟨263, .bool true, by decide, rfl, rfl⟩, hJ.step sl24_inj 6 _ rfl (Below.refl _ _) (.bool true) (rfl)⟩
                · have e6 := hJ.val 6 _ rfl (hdep 6 (by decide))
                  rw [show sl24 6 = 263 from rfl] at e6
                  have e6 : vs 263 = .bool true := e6
                  refine step_guard (j := 6) (s := 263) rfl rfl rfl (by rw [hv 263 (by decide), e6]) (fun K' hK => ?_)
                  clear hv hdep
                  go_simp
                  exact hK _ _ ⟨upd vs 264 (.bool true), .inr ⟨264, .bool true, by decide, rfl, rfl⟩, hJ.step sl24_inj 7 _ rfl (Below.refl _ _) (.bool true) (rfl)⟩
                · have e6 := hJ.val 6 _ rfl (hdep 6 (by decide))
                  rw [show sl24 6 = 263 from rfl] at e6
                  have e6 : vs 263 = .bool true := e6
                  have a263 : A.tmps[263]? = some (vs 263) := hv 263 (by decide)
                  rw [e6] at a263
                  have e7 := hJ.val 7 _ rfl (hdep 7 (by decide))
                  rw [show sl24 7 = 264 from rfl] at e7
                  have e7 : vs 264 = .bool true := e7
                  have a264 : A.tmps[264]? = some (vs 264) := hv 264 (by decide)
                  rw [e7] at a264
                  refine step_free rfl rfl (fun K' hK => ?_)
                  clear hv hdep
                  go_simp
                  exact hK _ _ ⟨upd vs 265 (.bool true), .inr ⟨265, .bool true, by decide, rfl, rfl⟩, hJ.step sl24_inj 8 _ rfl (Below.refl _ _) (.bool true) (rfl)⟩
                · have e8 := hJ.val 8 _ rfl (hdep 8 (by decide))
                  rw [show sl24 8 = 265 from rfl] at e8
                  have e8 : vs 265 = .bool true := e8
                  have a265 : A.tmps[265]? = some (vs 265) := hv 265 (by decide)
                  rw [e8] at a265
                  refine step_free rfl rfl (fun K' hK => ?_)
                  clear hv hdep
                  go_simp
                  exact hK _ _ ⟨upd vs 266 (.bool true), .inr ⟨266, .bool true, by decide, rfl, rfl⟩, hJ.step sl24_inj 9 _ rfl (Below.refl _ _) (.bool true) (rfl)⟩
                · have e9 := hJ.val 9 _ rfl (hdep 9 (by decide))
                  rw [show sl24 9 = 266 from rfl] at e9
                  have e9 : vs 266 = .bool true := e9
                  refine step_guard (j := 9) (s := 266) rfl rfl rfl (by rw [hv 266 (by decide), e9]) (fun K' hK => ?_)
                  clear hv hdep
                  go_simp
                  exact hK _ _ ⟨upd vs 267 (.bool true), .inr ⟨267, .bool true, by decide, rfl, rfl⟩, hJ.step sl24_inj 10 _ rfl (Below.refl _ _) (.bool true) (rfl)⟩
                · have e9 := hJ.val 9 _ rfl (hdep 9 (by decide))
                  rw [show sl24 9 = 266 from rfl] at e9
                  have e9 : vs 266 = .bool true := e9
                  have a266 : A.tmps[266]? = some (vs 266) := hv 266 (by decide)
                  rw [e9] at a266
                  have e10 := hJ.val 10 _ rfl (hdep 10 (by decide))
                  rw [show sl24 10 = 267 from rfl] at e10
                  have e10 : vs 267 = .bool true := e10
                  have a267 : A.tmps[267]? = some (vs 267) := hv 267 (by decide)
                  rw [e10] at a267
                  refine step_free rfl rfl (fun K' hK => ?_)
                  clear hv hdep
                  go_simp
                  exact hK _ _ ⟨upd vs 268 (.bool true), .inr ⟨268, .bool true, by decide, rfl, rfl⟩, hJ.step sl24_inj 11 _ rfl (Below.refl _ _) (.bool true) (rfl)⟩
                · have e11 := hJ.val 11 _ rfl (hdep 11 (by decide))
                  rw [show sl24 11 = 268 from rfl] at e11
                  have e11 : vs 268 = .bool true := e11
                  have a268 : A.tmps[268]? = some (vs 268) := hv 268 (by decide)
                  rw [e11] at a268
                  refine step_free rfl rfl (fun K' hK => ?_)
                  clear hv hdep
                  go_simp
                  exact hK _ _ ⟨upd vs 269 (.bool true), .inr ⟨269, .bool true, by decide, rfl, rfl⟩, hJ.step sl24_inj 12 _ rfl (Below.refl _ _) (.bool true) (rfl)⟩
                · have e12 := hJ.val 12 _ rfl (hdep 12 (by decide))
                  rw [show sl24 12 = 269 from rfl] at e12
                  have e12 : vs 269 = .bool true := e12
                  refine step_guard (j := 12) (s := 269) rfl rfl rfl (by rw [hv 269 (by decide), e12]) (fun K' hK => ?_)
                  clear hv hdep
                  go_simp
                  exact hK _ _ ⟨upd vs 270 (.bool true), .inr ⟨270, .bool true, by decide, rfl, rfl⟩, hJ.step sl24_inj 13 _ rfl (Below.refl _ _) (.bool true) (rfl)⟩
                · have e12 := hJ.val 12 _ rfl (hdep 12 (by decide))
                  rw [show sl24 12 = 269 from rfl] at e12
                  have e12 : vs 269 = .bool true := e12
                  have a269 : A.tmps[269]? = some (vs 269) := hv 269 (by decide)
                  rw [e12] at a269
                  have e13 := hJ.val 13 _ rfl (hdep 13 (by decide))
                  rw [show sl24 13 = 270 from rfl] at e13
                  have e13 : vs 270 = .bool true := e13
                  have a270 : A.tmps[270]? = some (vs 270) := hv 270 (by decide)
                  rw [e13] at a270
                  refine step_free rfl rfl (fun K' hK => ?_)
                  clear hv hdep
                  go_simp
                  exact hK _ _ ⟨upd vs 271 (.bool true), .inr ⟨271, .bool true, by decide, rfl, rfl⟩, hJ.step sl24_inj 14 _ rfl (Below.refl _ _) (.bool true) (rfl)⟩
                · have e14 := hJ.val 14 _ rfl (hdep 14 (by decide))
                  rw [show sl24 14 = 271 from rfl] at e14
                  have e14 : vs 271 = .bool true := e14
                  have a271 : A.tmps[271]? = some (vs 271) := hv 271 (by decide)
                  rw [e14] at a271
                  refine step_free rfl rfl (fun K' hK => ?_)
                  clear hv hdep
                  go_simp
                  exact hK _ _ ⟨upd vs 272 (.bool true), .inr ⟨272, .bool true, by decide, rfl, rfl⟩, hJ.step sl24_inj 15 _ rfl (Below.refl _ _) (.bool true) (rfl)⟩
                · have e15 := hJ.val 15 _ rfl (hdep 15 (by decide))
                  rw [show sl24 15 = 272 from rfl] at e15
                  have e15 : vs 272 = .bool true := e15
                  refine step_guard (j := 15) (s := 272) rfl rfl rfl (by rw [hv 272 (by decide), e15]) (fun K' hK => ?_)
                  clear hv hdep
                  go_simp
                  exact hK _ _ ⟨upd vs 273 (.int .i64 0), .inr ⟨273, .int .i64 0, by decide, rfl, rfl⟩, hJ.step sl24_inj 16 _ rfl (Below.refl _ _) (.int .i64 0) (rfl)⟩
                · have e15 := hJ.val 15 _ rfl (hdep 15 (by decide))
                  rw [show sl24 15 = 272 from rfl] at e15
                  have e15 : vs 272 = .bool true := e15
                  have e16 := hJ.val 16 _ rfl (hdep 16 (by decide))
                  rw [show sl24 16 = 273 from rfl] at e16
                  have e16 : vs 273 = .int .i64 0 := e16
                  have a273 : A.tmps[273]? = some (vs 273) := hv 273 (by decide)
                  rw [e16] at a273
                  refine step_guard (j := 15) (s := 272) rfl rfl rfl (by rw [hv 272 (by decide), e15]) (fun K' hK => ?_)
                  clear hv hdep
                  go_simp
                  exact hK _ _ ⟨upd vs 274 (.bool true), .inr ⟨274, .bool true, by decide, rfl, rfl⟩, hJ.step sl24_inj 17 _ rfl (Below.refl _ _) (.bool true) (rfl)⟩
                · have e15 := hJ.val 15 _ rfl (hdep 15 (by decide))
                  rw [show sl24 15 = 272 from rfl] at e15
                  have e15 : vs 272 = .bool true := e15
                  have a272 : A.tmps[272]? = some (vs 272) := hv 272 (by decide)
                  rw [e15] at a272
                  have e17 := hJ.val 17 _ rfl (hdep 17 (by decide))
                  rw [show sl24 17 = 274 from rfl] at e17
                  have e17 : vs 274 = .bool true := e17
                  have a274 : A.tmps[274]? = some (vs 274) := hv 274 (by decide)
                  rw [e17] at a274
                  refine step_free rfl rfl (fun K' hK => ?_)
                  clear hv hdep
                  go_simp
                  exact hK _ _ ⟨upd vs 275 (.bool true), .inr ⟨275, .bool true, by decide, rfl, rfl⟩, hJ.step sl24_inj 18 _ rfl (Below.refl _ _) (.bool true) (rfl)⟩
                · have e18 := hJ.val 18 _ rfl (hdep 18 (by decide))
                  rw [show sl24 18 = 275 from rfl] at e18
                  have e18 : vs 275 = .bool true := e18
                  have a275 : A.tmps[275]? = some (vs 275) := hv 275 (by decide)
                  rw [e18] at a275
                  refine step_free rfl rfl (fun K' hK => ?_)
                  clear hv hdep
                  go_simp
                  exact hK _ _ ⟨upd vs 276 (.bool true), .inr ⟨276, .bool true, by decide, rfl, rfl⟩, hJ.step sl24_inj 19 _ rfl (Below.refl _ _) (.bool true) (rfl)⟩
                · have e19 := hJ.val 19 _ rfl (hdep 19 (by decide))
                  rw [show sl24 19 = 276 from rfl] at e19
                  have e19 : vs 276 = .bool true := e19
                  refine step_guard (j := 19) (s := 276) rfl rfl rfl (by rw [hv 276 (by decide), e19]) (fun K' hK => ?_)
                  clear hv hdep
                  go_simp
                  exact hK _ _ ⟨upd vs 277 (.pointer (some ⟨W18.heap.size, 2, none⟩)), .inr ⟨277, .pointer (some ⟨W18.heap.size, 2, none⟩), by decide, rfl, rfl⟩, hJ.step sl24_inj 20 _ rfl (Below.refl _ _) (.pointer (some ⟨W18.heap.size, 2, none⟩)) (rfl)⟩
                · have e19 := hJ.val 19 _ rfl (hdep 19 (by decide))
                  rw [show sl24 19 = 276 from rfl] at e19
                  have e19 : vs 276 = .bool true := e19
                  have e20 := hJ.val 20 _ rfl (hdep 20 (by decide))
                  rw [show sl24 20 = 277 from rfl] at e20
                  have e20 : vs 277 = .pointer (some ⟨W18.heap.size, 2, none⟩) := e20
                  have a277 : A.tmps[277]? = some (vs 277) := hv 277 (by decide)
                  rw [e20] at a277
                  refine step_guard (j := 19) (s := 276) rfl rfl rfl (by rw [hv 276 (by decide), e19]) (fun K' hK => ?_)
                  clear hv hdep
                  have hz := (hgr.block _ (Array.getElem?_eq_some_iff.1 hX24).1).trans hX24
                  rw [hx18.out] at hz
                  obtain ⟨m0, m1, m2, m3, m4, m5, m6, m7, m8, m9, m10, m11, m12, m13⟩ := st_facts hz
                  go_simp
                  exact hK _ _ ⟨upd vs 278 (.agg #[.int .i64 (valX 1).kind, .string (bs (valX 1).name), .int .i64 (valX 1).val.kind, .slice p18a (valX 1).val.shape.length p18c, .slice p18e (valX 1).val.elems.length p18ec, .int .i64 (valX 1).fn.kind, .int .i64 (valX 1).fn.f, .int .i64 (valX 1).fn.g, .string (bs (valX 1).fn.name), .slice p18b (valX 1).fn.body.len p18bc, .slice p18k (valX 1).kids.len p18kc]), .inr ⟨278, .agg #[.int .i64 (valX 1).kind, .string (bs (valX 1).name), .int .i64 (valX 1).val.kind, .slice p18a (valX 1).val.shape.length p18c, .slice p18e (valX 1).val.elems.length p18ec, .int .i64 (valX 1).fn.kind, .int .i64 (valX 1).fn.f, .int .i64 (valX 1).fn.g, .string (bs (valX 1).fn.name), .slice p18b (valX 1).fn.body.len p18bc, .slice p18k (valX 1).kids.len p18kc], by decide, rfl, rfl⟩, hJ.step sl24_inj 21 _ rfl (Below.refl _ _) (.agg #[.int .i64 (valX 1).kind, .string (bs (valX 1).name), .int .i64 (valX 1).val.kind, .slice p18a (valX 1).val.shape.length p18c, .slice p18e (valX 1).val.elems.length p18ec, .int .i64 (valX 1).fn.kind, .int .i64 (valX 1).fn.f, .int .i64 (valX 1).fn.g, .string (bs (valX 1).fn.name), .slice p18b (valX 1).fn.body.len p18bc, .slice p18k (valX 1).kids.len p18kc]) (fresh_e (iE24.below hgr))⟩
                · have e19 := hJ.val 19 _ rfl (hdep 19 (by decide))
                  rw [show sl24 19 = 276 from rfl] at e19
                  have e19 : vs 276 = .bool true := e19
                  refine step_guard (j := 19) (s := 276) rfl rfl rfl (by rw [hv 276 (by decide), e19]) (fun K' hK => ?_)
                  clear hv hdep
                  go_simp
                  go_at_call 14
                  refine (value18_new 1 _ (by decide) (by decide)).mono ?_
                  rintro e W ⟨⟨v, rfl, f⟩, b⟩
                  exact hK _ _ ⟨upd vs 279 (v), .inr ⟨279, v, by decide, rfl, rfl⟩, hJ.step sl24_inj 22 _ rfl (b) (v) (f.weak (fun _ _ => trivial))⟩
                · have e19 := hJ.val 19 _ rfl (hdep 19 (by decide))
                  rw [show sl24 19 = 276 from rfl] at e19
                  have e19 : vs 276 = .bool true := e19
                  have e21 := hJ.val 21 _ rfl (hdep 21 (by decide))
                  rw [show sl24 21 = 278 from rfl] at e21
                  have a278 : A.tmps[278]? = some (vs 278) := hv 278 (by decide)
                  have e22 := hJ.val 22 _ rfl (hdep 22 (by decide))
                  rw [show sl24 22 = 279 from rfl] at e22
                  have a279 : A.tmps[279]? = some (vs 279) := hv 279 (by decide)
                  refine step_guard (j := 19) (s := 276) rfl rfl rfl (by rw [hv 276 (by decide), e19]) (fun K' hK => ?_)
                  clear hv hdep
                  go_simp
                  go_at_call 20
                  refine (sameExpr_any (valX 1).sz (valX 1) (valX 1) _ _ _ (Nat.le_refl _) (by decide) (by decide) (Fresh.self e21) (Fresh.self e22)).mono ?_
                  rintro e W ⟨rfl, b⟩
                  exact hK _ _ ⟨upd vs 280 (.bool true), .inr ⟨280, .bool true, by decide, rfl, rfl⟩, hJ.step sl24_inj 23 _ rfl (b) (.bool true) (rfl)⟩
                · have e19 := hJ.val 19 _ rfl (hdep 19 (by decide))
                  rw [show sl24 19 = 276 from rfl] at e19
                  have e19 : vs 276 = .bool true := e19
                  have a276 : A.tmps[276]? = some (vs 276) := hv 276 (by decide)
                  rw [e19] at a276
                  have e23 := hJ.val 23 _ rfl (hdep 23 (by decide))
                  rw [show sl24 23 = 280 from rfl] at e23
                  have e23 : vs 280 = .bool true := e23
                  have a280 : A.tmps[280]? = some (vs 280) := hv 280 (by decide)
                  rw [e23] at a280
                  refine step_free rfl rfl (fun K' hK => ?_)
                  clear hv hdep
                  go_simp
                  exact hK _ _ ⟨upd vs 281 (.bool true), .inr ⟨281, .bool true, by decide, rfl, rfl⟩, hJ.step sl24_inj 24 _ rfl (Below.refl _ _) (.bool true) (rfl)⟩
                · have e24 := hJ.val 24 _ rfl (hdep 24 (by decide))
                  rw [show sl24 24 = 281 from rfl] at e24
                  have e24 : vs 281 = .bool true := e24
                  have a281 : A.tmps[281]? = some (vs 281) := hv 281 (by decide)
                  rw [e24] at a281
                  refine step_free rfl rfl (fun K' hK => ?_)
                  clear hv hdep
                  go_simp
                  exact hK _ _ ⟨upd vs 282 (.bool true), .inr ⟨282, .bool true, by decide, rfl, rfl⟩, hJ.step sl24_inj 25 _ rfl (Below.refl _ _) (.bool true) (rfl)⟩
                · have e25 := hJ.val 25 _ rfl (hdep 25 (by decide))
                  rw [show sl24 25 = 282 from rfl] at e25
                  have e25 : vs 282 = .bool true := e25
                  refine step_guard (j := 25) (s := 282) rfl rfl rfl (by rw [hv 282 (by decide), e25]) (fun K' hK => ?_)
                  clear hv hdep
                  go_simp
                  exact hK _ _ ⟨upd vs 283 (.int .i64 9), .inr ⟨283, .int .i64 9, by decide, rfl, rfl⟩, hJ.step sl24_inj 26 _ rfl (Below.refl _ _) (.int .i64 9) (rfl)⟩
                · have e25 := hJ.val 25 _ rfl (hdep 25 (by decide))
                  rw [show sl24 25 = 282 from rfl] at e25
                  have e25 : vs 282 = .bool true := e25
                  have e26 := hJ.val 26 _ rfl (hdep 26 (by decide))
                  rw [show sl24 26 = 283 from rfl] at e26
                  have e26 : vs 283 = .int .i64 9 := e26
                  have a283 : A.tmps[283]? = some (vs 283) := hv 283 (by decide)
                  rw [e26] at a283
                  refine step_guard (j := 25) (s := 282) rfl rfl rfl (by rw [hv 282 (by decide), e25]) (fun K' hK => ?_)
                  clear hv hdep
                  go_simp
                  exact hK _ _ ⟨upd vs 284 (.bool true), .inr ⟨284, .bool true, by decide, rfl, rfl⟩, hJ.step sl24_inj 27 _ rfl (Below.refl _ _) (.bool true) (rfl)⟩
                · have e25 := hJ.val 25 _ rfl (hdep 25 (by decide))
                  rw [show sl24 25 = 282 from rfl] at e25
                  have e25 : vs 282 = .bool true := e25
                  have a282 : A.tmps[282]? = some (vs 282) := hv 282 (by decide)
                  rw [e25] at a282
                  have e27 := hJ.val 27 _ rfl (hdep 27 (by decide))
                  rw [show sl24 27 = 284 from rfl] at e27
                  have e27 : vs 284 = .bool true := e27
                  have a284 : A.tmps[284]? = some (vs 284) := hv 284 (by decide)
                  rw [e27] at a284
                  refine step_free rfl rfl (fun K' hK => ?_)
                  clear hv hdep
                  go_simp
                  exact hK _ _ ⟨upd vs 285 (.bool true), .inr ⟨285, .bool true, by decide, rfl, rfl⟩, hJ.step sl24_inj 28 _ rfl (Below.refl _ _) (.bool true) (rfl)⟩
                · have e28 := hJ.val 28 _ rfl (hdep 28 (by decide))
                  rw [show sl24 28 = 285 from rfl] at e28
                  have e28 : vs 285 = .bool true := e28
                  have a285 : A.tmps[285]? = some (vs 285) := hv 285 (by decide)
                  rw [e28] at a285
                  refine step_free rfl rfl (fun K' hK => ?_)
                  clear hv hdep
                  go_simp
                  exact hK _ _ ⟨upd vs 286 (.bool true), .inr ⟨286, .bool true, by decide, rfl, rfl⟩, hJ.step sl24_inj 29 _ rfl (Below.refl _ _) (.bool true) (rfl)⟩
                · have e29 := hJ.val 29 _ rfl (hdep 29 (by decide))
                  rw [show sl24 29 = 286 from rfl] at e29
                  have e29 : vs 286 = .bool true := e29
                  refine step_guard (j := 29) (s := 286) rfl rfl rfl (by rw [hv 286 (by decide), e29]) (fun K' hK => ?_)
                  clear hv hdep
                  go_simp
                  exact hK _ _ ⟨upd vs 287 (.int .i64 170), .inr ⟨287, .int .i64 170, by decide, rfl, rfl⟩, hJ.step sl24_inj 30 _ rfl (Below.refl _ _) (.int .i64 170) (rfl)⟩
                · have e29 := hJ.val 29 _ rfl (hdep 29 (by decide))
                  rw [show sl24 29 = 286 from rfl] at e29
                  have e29 : vs 286 = .bool true := e29
                  have e30 := hJ.val 30 _ rfl (hdep 30 (by decide))
                  rw [show sl24 30 = 287 from rfl] at e30
                  have e30 : vs 287 = .int .i64 170 := e30
                  have a287 : A.tmps[287]? = some (vs 287) := hv 287 (by decide)
                  rw [e30] at a287
                  refine step_guard (j := 29) (s := 286) rfl rfl rfl (by rw [hv 286 (by decide), e29]) (fun K' hK => ?_)
                  clear hv hdep
                  go_simp
                  exact hK _ _ ⟨upd vs 288 (.bool true), .inr ⟨288, .bool true, by decide, rfl, rfl⟩, hJ.step sl24_inj 31 _ rfl (Below.refl _ _) (.bool true) (rfl)⟩
                · have e29 := hJ.val 29 _ rfl (hdep 29 (by decide))
                  rw [show sl24 29 = 286 from rfl] at e29
                  have e29 : vs 286 = .bool true := e29
                  have a286 : A.tmps[286]? = some (vs 286) := hv 286 (by decide)
                  rw [e29] at a286
                  have e31 := hJ.val 31 _ rfl (hdep 31 (by decide))
                  rw [show sl24 31 = 288 from rfl] at e31
                  have e31 : vs 288 = .bool true := e31
                  have a288 : A.tmps[288]? = some (vs 288) := hv 288 (by decide)
                  rw [e31] at a288
                  refine step_free rfl rfl (fun K' hK => ?_)
                  clear hv hdep
                  go_simp
                  exact hK _ _ ⟨upd vs 289 (.bool true), .inr ⟨289, .bool true, by decide, rfl, rfl⟩, hJ.step sl24_inj 32 _ rfl (Below.refl _ _) (.bool true) (rfl)⟩
                · have e32 := hJ.val 32 _ rfl (hdep 32 (by decide))
                  rw [show sl24 32 = 289 from rfl] at e32
                  have e32 : vs 289 = .bool true := e32
                  have a289 : A.tmps[289]? = some (vs 289) := hv 289 (by decide)
                  rw [e32] at a289
                  refine step_free rfl rfl (fun K' hK => ?_)
                  clear hv hdep
                  go_simp
                  exact hK _ _ ⟨upd vs 290 (.bool true), .inr ⟨290, .bool true, by decide, rfl, rfl⟩, hJ.step sl24_inj 33 _ rfl (Below.refl _ _) (.bool true) (rfl)⟩
                · have e33 := hJ.val 33 _ rfl (hdep 33 (by decide))
                  rw [show sl24 33 = 290 from rfl] at e33
                  have e33 : vs 290 = .bool true := e33
                  refine step_guard (j := 33) (s := 290) rfl rfl rfl (by rw [hv 290 (by decide), e33]) (fun K' hK => ?_)
                  clear hv hdep
                  go_simp
                  exact hK _ _ ⟨upd vs 291 (.int .i64 9), .inr ⟨291, .int .i64 9, by decide, rfl, rfl⟩, hJ.step sl24_inj 34 _ rfl (Below.refl _ _) (.int .i64 9) (rfl)⟩
                · have e33 := hJ.val 33 _ rfl (hdep 33 (by decide))
                  rw [show sl24 33 = 290 from rfl] at e33
                  have e33 : vs 290 = .bool true := e33
                  have e34 := hJ.val 34 _ rfl (hdep 34 (by decide))
                  rw [show sl24 34 = 291 from rfl] at e34
                  have e34 : vs 291 = .int .i64 9 := e34
                  have a291 : A.tmps[291]? = some (vs 291) := hv 291 (by decide)
                  rw [e34] at a291
                  refine step_guard (j := 33) (s := 290) rfl rfl rfl (by rw [hv 290 (by decide), e33]) (fun K' hK => ?_)
                  clear hv hdep
                  go_simp
                  exact hK _ _ ⟨upd vs 292 (.bool true), .inr ⟨292, .bool true, by decide, rfl, rfl⟩, hJ.step sl24_inj 35 _ rfl (Below.refl _ _) (.bool true) (rfl)⟩
                · have e33 := hJ.val 33 _ rfl (hdep 33 (by decide))
                  rw [show sl24 33 = 290 from rfl] at e33
                  have e33 : vs 290 = .bool true := e33
                  have a290 : A.tmps[290]? = some (vs 290) := hv 290 (by decide)
                  rw [e33] at a290
                  have e35 := hJ.val 35 _ rfl (hdep 35 (by decide))
                  rw [show sl24 35 = 292 from rfl] at e35
                  have e35 : vs 292 = .bool true := e35
                  have a292 : A.tmps[292]? = some (vs 292) := hv 292 (by decide)
                  rw [e35] at a292
                  refine step_free rfl rfl (fun K' hK => ?_)
                  clear hv hdep
                  go_simp
                  exact hK _ _ ⟨upd vs 293 (.bool true), .inr ⟨293, .bool true, by decide, rfl, rfl⟩, hJ.step sl24_inj 36 _ rfl (Below.refl _ _) (.bool true) (rfl)⟩
                · have e36 := hJ.val 36 _ rfl (hdep 36 (by decide))
                  rw [show sl24 36 = 293 from rfl] at e36
                  have e36 : vs 293 = .bool true := e36
                  have a293 : A.tmps[293]? = some (vs 293) := hv 293 (by decide)
                  rw [e36] at a293
                  refine step_free rfl rfl (fun K' hK => ?_)
                  clear hv hdep
                  go_simp
                  exact hK _ _ ⟨upd vs 294 (.bool true), .inr ⟨294, .bool true, by decide, rfl, rfl⟩, hJ.step sl24_inj 37 _ rfl (Below.refl _ _) (.bool true) (rfl)⟩
                · have e37 := hJ.val 37 _ rfl (hdep 37 (by decide))
                  rw [show sl24 37 = 294 from rfl] at e37
                  have e37 : vs 294 = .bool true := e37
                  refine step_guard (j := 37) (s := 294) rfl rfl rfl (by rw [hv 294 (by decide), e37]) (fun K' hK => ?_)
                  clear hv hdep
                  go_simp
                  exact hK _ _ ⟨upd vs 295 (.bool true), .inr ⟨295, .bool true, by decide, rfl, rfl⟩, hJ.step sl24_inj 38 _ rfl (Below.refl _ _) (.bool true) (rfl)⟩
                · have e37 := hJ.val 37 _ rfl (hdep 37 (by decide))
                  rw [show sl24 37 = 294 from rfl] at e37
                  have e37 : vs 294 = .bool true := e37
                  have a294 : A.tmps[294]? = some (vs 294) := hv 294 (by decide)
                  rw [e37] at a294
                  have e38 := hJ.val 38 _ rfl (hdep 38 (by decide))
                  rw [show sl24 38 = 295 from rfl] at e38
                  have e38 : vs 295 = .bool true := e38
                  have a295 : A.tmps[295]? = some (vs 295) := hv 295 (by decide)
                  rw [e38] at a295
                  refine step_free rfl rfl (fun K' hK => ?_)
                  clear hv hdep
                  go_simp
                  exact hK _ _ ⟨upd vs 296 (.bool true), .inr ⟨296, .bool true, by decide, rfl, rfl⟩, hJ.step sl24_inj 39 _ rfl (Below.refl _ _) (.bool true) (rfl)⟩
                · have e39 := hJ.val 39 _ rfl (hdep 39 (by decide))
                  rw [show sl24 39 = 296 from rfl] at e39
                  have e39 : vs 296 = .bool true := e39
                  have a296 : A.tmps[296]? = some (vs 296) := hv 296 (by decide)
                  rw [e39] at a296
                  refine step_free rfl rfl (fun K' hK => ?_)
                  clear hv hdep
                  go_simp
                  exact hK _ _ ⟨upd vs 297 (.bool true), .inr ⟨297, .bool true, by decide, rfl, rfl⟩, hJ.step sl24_inj 40 _ rfl (Below.refl _ _) (.bool true) (rfl)⟩
                · have e40 := hJ.val 40 _ rfl (hdep 40 (by decide))
                  rw [show sl24 40 = 297 from rfl] at e40
                  have e40 : vs 297 = .bool true := e40
                  refine step_guard (j := 40) (s := 297) rfl rfl rfl (by rw [hv 297 (by decide), e40]) (fun K' hK => ?_)
                  clear hv hdep
                  go_simp
                  exact hK _ _ ⟨upd vs 298 (.bool true), .inr ⟨298, .bool true, by decide, rfl, rfl⟩, hJ.step sl24_inj 41 _ rfl (Below.refl _ _) (.bool true) (rfl)⟩
                · have e40 := hJ.val 40 _ rfl (hdep 40 (by decide))
                  rw [show sl24 40 = 297 from rfl] at e40
                  have e40 : vs 297 = .bool true := e40
                  have a297 : A.tmps[297]? = some (vs 297) := hv 297 (by decide)
                  rw [e40] at a297
                  have e41 := hJ.val 41 _ rfl (hdep 41 (by decide))
                  rw [show sl24 41 = 298 from rfl] at e41
                  have e41 : vs 298 = .bool true := e41
                  have a298 : A.tmps[298]? = some (vs 298) := hv 298 (by decide)
                  rw [e41] at a298
                  refine step_free rfl rfl (fun K' hK => ?_)
                  clear hv hdep
                  go_simp
                  exact hK _ _ ⟨upd vs 299 (.bool true), .inr ⟨299, .bool true, by decide, rfl, rfl⟩, hJ.step sl24_inj 42 _ rfl (Below.refl _ _) (.bool true) (rfl)⟩
                · have e42 := hJ.val 42 _ rfl (hdep 42 (by decide))
                  rw [show sl24 42 = 299 from rfl] at e42
                  have e42 : vs 299 = .bool true := e42
                  have a299 : A.tmps[299]? = some (vs 299) := hv 299 (by decide)
                  rw [e42] at a299
                  refine step_free rfl rfl (fun K' hK => ?_)
                  clear hv hdep
                  go_simp
                  exact hK _ _ ⟨upd vs 300 (.bool true), .inr ⟨300, .bool true, by decide, rfl, rfl⟩, hJ.step sl24_inj 43 _ rfl (Below.refl _ _) (.bool true) (rfl)⟩
                · have e43 := hJ.val 43 _ rfl (hdep 43 (by decide))
                  rw [show sl24 43 = 300 from rfl] at e43
                  have e43 : vs 300 = .bool true := e43
                  refine step_guard (j := 43) (s := 300) rfl rfl rfl (by rw [hv 300 (by decide), e43]) (fun K' hK => ?_)
                  clear hv hdep
                  go_simp
                  exact hK _ _ ⟨upd vs 301 (.bool true), .inr ⟨301, .bool true, by decide, rfl, rfl⟩, hJ.step sl24_inj 44 _ rfl (Below.refl _ _) (.bool true) (rfl)⟩
                · have e43 := hJ.val 43 _ rfl (hdep 43 (by decide))
                  rw [show sl24 43 = 300 from rfl] at e43
                  have e43 : vs 300 = .bool true := e43
                  have a300 : A.tmps[300]? = some (vs 300) := hv 300 (by decide)
                  rw [e43] at a300
                  have e44 := hJ.val 44 _ rfl (hdep 44 (by decide))
                  rw [show sl24 44 = 301 from rfl] at e44
                  have e44 : vs 301 = .bool true := e44
                  have a301 : A.tmps[301]? = some (vs 301) := hv 301 (by decide)
                  rw [e44] at a301
                  refine step_free rfl rfl (fun K' hK => ?_)
                  clear hv hdep
                  go_simp
                  exact hK _ _ ⟨upd vs 302 (.bool true), .inr ⟨302, .bool true, by decide, rfl, rfl⟩, hJ.step sl24_inj 45 _ rfl (Below.refl _ _) (.bool true) (rfl)⟩
                · have e45 := hJ.val 45 _ rfl (hdep 45 (by decide))
                  rw [show sl24 45 = 302 from rfl] at e45
                  have e45 : vs 302 = .bool true := e45
                  have a302 : A.tmps[302]? = some (vs 302) := hv 302 (by decide)
                  rw [e45] at a302
                  refine step_free rfl rfl (fun K' hK => ?_)
                  clear hv hdep
                  go_simp
                  exact hK _ _ ⟨upd vs 303 (.bool true), .inr ⟨303, .bool true, by decide, rfl, rfl⟩, hJ.step sl24_inj 46 _ rfl (Below.refl _ _) (.bool true) (rfl)⟩
                · have e46 := hJ.val 46 _ rfl (hdep 46 (by decide))
                  rw [show sl24 46 = 303 from rfl] at e46
                  have e46 : vs 303 = .bool true := e46
                  refine step_guard (j := 46) (s := 303) rfl rfl rfl (by rw [hv 303 (by decide), e46]) (fun K' hK => ?_)
                  clear hv hdep
                  go_simp
                  exact hK _ _ ⟨upd vs 304 (.bool false), .inr ⟨304, .bool false, by decide, rfl, rfl⟩, hJ.step sl24_inj 47 _ rfl (Below.refl _ _) (.bool false) (rfl)⟩
                · have e46 := hJ.val 46 _ rfl (hdep 46 (by decide))
                  rw [show sl24 46 = 303 from rfl] at e46
                  have e46 : vs 303 = .bool true := e46
                  have e47 := hJ.val 47 _ rfl (hdep 47 (by decide))
                  rw [show sl24 47 = 304 from rfl] at e47
                  have e47 : vs 304 = .bool false := e47
                  have a304 : A.tmps[304]? = some (vs 304) := hv 304 (by decide)
                  rw [e47] at a304
                  refine step_guard (j := 46) (s := 303) rfl rfl rfl (by rw [hv 303 (by decide), e46]) (fun K' hK => ?_)
                  clear hv hdep
                  go_simp
                  exact hK _ _ ⟨upd vs 305 (.bool true), .inr ⟨305, .bool true, by decide, rfl, rfl⟩, hJ.step sl24_inj 48 _ rfl (Below.refl _ _) (.bool true) (rfl)⟩
                · have e46 := hJ.val 46 _ rfl (hdep 46 (by decide))
                  rw [show sl24 46 = 303 from rfl] at e46
                  have e46 : vs 303 = .bool true := e46
                  have a303 : A.tmps[303]? = some (vs 303) := hv 303 (by decide)
                  rw [e46] at a303
                  have e48 := hJ.val 48 _ rfl (hdep 48 (by decide))
                  rw [show sl24 48 = 305 from rfl] at e48
                  have e48 : vs 305 = .bool true := e48
                  have a305 : A.tmps[305]? = some (vs 305) := hv 305 (by decide)
                  rw [e48] at a305
                  refine step_free rfl rfl (fun K' hK => ?_)
                  clear hv hdep
                  go_simp
                  exact hK _ _ ⟨upd vs 306 (.bool true), .inr ⟨306, .bool true, by decide, rfl, rfl⟩, hJ.step sl24_inj 49 _ rfl (Below.refl _ _) (.bool true) (rfl)⟩
                · have e49 := hJ.val 49 _ rfl (hdep 49 (by decide))
                  rw [show sl24 49 = 306 from rfl] at e49
                  have e49 : vs 306 = .bool true := e49
                  have a306 : A.tmps[306]? = some (vs 306) := hv 306 (by decide)
                  rw [e49] at a306
                  refine step_free rfl rfl (fun K' hK => ?_)
                  clear hv hdep
                  go_simp
                  exact hK _ _ ⟨upd vs 307 (.bool true), .inr ⟨307, .bool true, by decide, rfl, rfl⟩, hJ.step sl24_inj 50 _ rfl (Below.refl _ _) (.bool true) (rfl)⟩
                · have e50 := hJ.val 50 _ rfl (hdep 50 (by decide))
                  rw [show sl24 50 = 307 from rfl] at e50
                  have e50 : vs 307 = .bool true := e50
                  refine step_guard (j := 50) (s := 307) rfl rfl rfl (by rw [hv 307 (by decide), e50]) (fun K' hK => ?_)
                  clear hv hdep
                  go_simp
                  go_at_call 21
                  refine (glyph31 _ (hG24 _ hgr).2).mono ?_
                  rintro e W ⟨rfl, b⟩
                  exact hK _ _ ⟨upd vs 308 (.string ⟨#[47]⟩), .inr ⟨308, .string ⟨#[47]⟩, by decide, rfl, rfl⟩, hJ.step sl24_inj 51 _ rfl (b) (.string ⟨#[47]⟩) (rfl)⟩
                · have e50 := hJ.val 50 _ rfl (hdep 50 (by decide))
                  rw [show sl24 50 = 307 from rfl] at e50
                  have e50 : vs 307 = .bool true := e50
                  have e51 := hJ.val 51 _ rfl (hdep 51 (by decide))
                  rw [show sl24 51 = 308 from rfl] at e51
                  have e51 : vs 308 = .string ⟨#[47]⟩ := e51
                  have a308 : A.tmps[308]? = some (vs 308) := hv 308 (by decide)
                  rw [e51] at a308
                  refine step_guard (j := 50) (s := 307) rfl rfl rfl (by rw [hv 307 (by decide), e50]) (fun K' hK => ?_)
                  clear hv hdep
                  go_simp
                  exact hK _ _ ⟨upd vs 309 (.bool true), .inr ⟨309, .bool true, by decide, rfl, rfl⟩, hJ.step sl24_inj 52 _ rfl (Below.refl _ _) (.bool true) (rfl)⟩
                · have e50 := hJ.val 50 _ rfl (hdep 50 (by decide))
                  rw [show sl24 50 = 307 from rfl] at e50
                  have e50 : vs 307 = .bool true := e50
                  have a307 : A.tmps[307]? = some (vs 307) := hv 307 (by decide)
                  rw [e50] at a307
                  have e52 := hJ.val 52 _ rfl (hdep 52 (by decide))
                  rw [show sl24 52 = 309 from rfl] at e52
                  have e52 : vs 309 = .bool true := e52
                  have a309 : A.tmps[309]? = some (vs 309) := hv 309 (by decide)
                  rw [e52] at a309
                  refine step_free rfl rfl (fun K' hK => ?_)
                  clear hv hdep
                  go_simp
                  exact hK _ _ ⟨upd vs 310 (.bool true), .inr ⟨310, .bool true, by decide, rfl, rfl⟩, hJ.step sl24_inj 53 _ rfl (Below.refl _ _) (.bool true) (rfl)⟩
                · have e53 := hJ.val 53 _ rfl (hdep 53 (by decide))
                  rw [show sl24 53 = 310 from rfl] at e53
                  have e53 : vs 310 = .bool true := e53
                  have a310 : A.tmps[310]? = some (vs 310) := hv 310 (by decide)
                  rw [e53] at a310
                  refine step_free rfl rfl (fun K' hK => ?_)
                  clear hv hdep
                  go_simp
                  exact hK _ _ ⟨upd vs 311 (.bool true), .inr ⟨311, .bool true, by decide, rfl, rfl⟩, hJ.step sl24_inj 54 _ rfl (Below.refl _ _) (.bool true) (rfl)⟩
                · have e54 := hJ.val 54 _ rfl (hdep 54 (by decide))
                  rw [show sl24 54 = 311 from rfl] at e54
                  have e54 : vs 311 = .bool true := e54
                  refine step_guard (j := 54) (s := 311) rfl rfl rfl (by rw [hv 311 (by decide), e54]) (fun K' hK => ?_)
                  clear hv hdep
                  go_simp
                  go_at_call 21
                  refine (glyph19 _).mono ?_
                  rintro e W ⟨rfl, b⟩
                  exact hK _ _ ⟨upd vs 312 (.string ⟨#[]⟩), .inr ⟨312, .string ⟨#[]⟩, by decide, rfl, rfl⟩, hJ.step sl24_inj 55 _ rfl (b) (.string ⟨#[]⟩) (rfl)⟩
                · have e54 := hJ.val 54 _ rfl (hdep 54 (by decide))
                  rw [show sl24 54 = 311 from rfl] at e54
                  have e54 : vs 311 = .bool true := e54
                  have e55 := hJ.val 55 _ rfl (hdep 55 (by decide))
                  rw [show sl24 55 = 312 from rfl] at e55
                  have e55 : vs 312 = .string ⟨#[]⟩ := e55
                  have a312 : A.tmps[312]? = some (vs 312) := hv 312 (by decide)
                  rw [e55] at a312
                  refine step_guard (j := 54) (s := 311) rfl rfl rfl (by rw [hv 311 (by decide), e54]) (fun K' hK => ?_)
                  clear hv hdep
                  go_simp
                  exact hK _ _ ⟨upd vs 313 (.bool true), .inr ⟨313, .bool true, by decide, rfl, rfl⟩, hJ.step sl24_inj 56 _ rfl (Below.refl _ _) (.bool true) (rfl)⟩
                · have e54 := hJ.val 54 _ rfl (hdep 54 (by decide))
                  rw [show sl24 54 = 311 from rfl] at e54
                  have e54 : vs 311 = .bool true := e54
                  have a311 : A.tmps[311]? = some (vs 311) := hv 311 (by decide)
                  rw [e54] at a311
                  have e56 := hJ.val 56 _ rfl (hdep 56 (by decide))
                  rw [show sl24 56 = 313 from rfl] at e56
                  have e56 : vs 313 = .bool true := e56
                  have a313 : A.tmps[313]? = some (vs 313) := hv 313 (by decide)
                  rw [e56] at a313
                  refine step_free rfl rfl (fun K' hK => ?_)
                  clear hv hdep
                  go_simp
                  exact hK _ _ ⟨upd vs 314 (.bool true), .inr ⟨314, .bool true, by decide, rfl, rfl⟩, hJ.step sl24_inj 57 _ rfl (Below.refl _ _) (.bool true) (rfl)⟩
                · have e57 := hJ.val 57 _ rfl (hdep 57 (by decide))
                  rw [show sl24 57 = 314 from rfl] at e57
                  have e57 : vs 314 = .bool true := e57
                  have a314 : A.tmps[314]? = some (vs 314) := hv 314 (by decide)
                  rw [e57] at a314
                  refine step_free rfl rfl (fun K' hK => ?_)
                  clear hv hdep
                  go_simp
                  exact hK _ _ ⟨upd vs 315 (.bool true), .inr ⟨315, .bool true, by decide, rfl, rfl⟩, hJ.step sl24_inj 58 _ rfl (Below.refl _ _) (.bool true) (rfl)⟩
                · have e58 := hJ.val 58 _ rfl (hdep 58 (by decide))
                  rw [show sl24 58 = 315 from rfl] at e58
                  have e58 : vs 315 = .bool true := e58
                  refine step_guard (j := 58) (s := 315) rfl rfl rfl (by rw [hv 315 (by decide), e58]) (fun K' hK => ?_)
                  clear hv hdep
                  go_simp
                  go_at_call 22
                  have hfn := fn_any [226, 134, 145] _ rfl V (hG24 _ hgr).2
                  rw [fn24] at hfn
                  refine hfn.mono ?_
                  rintro e W ⟨rfl, b⟩
                  exact hK _ _ ⟨upd vs 316 (.int .i64 28), .inr ⟨316, .int .i64 28, by decide, rfl, rfl⟩, hJ.step sl24_inj 59 _ rfl (Quiet.below b _) (.int .i64 28) (rfl)⟩
                · have e58 := hJ.val 58 _ rfl (hdep 58 (by decide))
                  rw [show sl24 58 = 315 from rfl] at e58
                  have e58 : vs 315 = .bool true := e58
                  have e59 := hJ.val 59 _ rfl (hdep 59 (by decide))
                  rw [show sl24 59 = 316 from rfl] at e59
                  have e59 : vs 316 = .int .i64 28 := e59
                  have a316 : A.tmps[316]? = some (vs 316) := hv 316 (by decide)
                  rw [e59] at a316
                  refine step_guard (j := 58) (s := 315) rfl rfl rfl (by rw [hv 315 (by decide), e58]) (fun K' hK => ?_)
                  clear hv hdep
                  go_simp
                  exact hK _ _ ⟨upd vs 317 (.bool true), .inr ⟨317, .bool true, by decide, rfl, rfl⟩, hJ.step sl24_inj 60 _ rfl (Below.refl _ _) (.bool true) (rfl)⟩
                · have e58 := hJ.val 58 _ rfl (hdep 58 (by decide))
                  rw [show sl24 58 = 315 from rfl] at e58
                  have e58 : vs 315 = .bool true := e58
                  have a315 : A.tmps[315]? = some (vs 315) := hv 315 (by decide)
                  rw [e58] at a315
                  have e60 := hJ.val 60 _ rfl (hdep 60 (by decide))
                  rw [show sl24 60 = 317 from rfl] at e60
                  have e60 : vs 317 = .bool true := e60
                  have a317 : A.tmps[317]? = some (vs 317) := hv 317 (by decide)
                  rw [e60] at a317
                  refine step_free rfl rfl (fun K' hK => ?_)
                  clear hv hdep
                  go_simp
                  exact hK _ _ ⟨upd vs 318 (.bool true), .inr ⟨318, .bool true, by decide, rfl, rfl⟩, hJ.step sl24_inj 61 _ rfl (Below.refl _ _) (.bool true) (rfl)⟩
                · have e61 := hJ.val 61 _ rfl (hdep 61 (by decide))
                  rw [show sl24 61 = 318 from rfl] at e61
                  have e61 : vs 318 = .bool true := e61
                  have a318 : A.tmps[318]? = some (vs 318) := hv 318 (by decide)
                  rw [e61] at a318
                  refine step_free rfl rfl (fun K' hK => ?_)
                  clear hv hdep
                  go_simp
                  exact hK _ _ ⟨upd vs 319 (.bool true), .inr ⟨319, .bool true, by decide, rfl, rfl⟩, hJ.step sl24_inj 62 _ rfl (Below.refl _ _) (.bool true) (rfl)⟩
                · have e62 := hJ.val 62 _ rfl (hdep 62 (by decide))
                  rw [show sl24 62 = 319 from rfl] at e62
                  have e62 : vs 319 = .bool true := e62
                  refine step_guard (j := 62) (s := 319) rfl rfl rfl (by rw [hv 319 (by decide), e62]) (fun K' hK => ?_)
                  clear hv hdep
                  go_simp
                  go_at_call 22
                  have hfn := fn_any [226, 134, 144] _ rfl V (hG24 _ hgr).2
                  rw [fn24b] at hfn
                  refine hfn.mono ?_
                  rintro e W ⟨rfl, b⟩
                  exact hK _ _ ⟨upd vs 320 (.int .i64 0), .inr ⟨320, .int .i64 0, by decide, rfl, rfl⟩, hJ.step sl24_inj 63 _ rfl (Quiet.below b _) (.int .i64 0) (rfl)⟩
                · have e62 := hJ.val 62 _ rfl (hdep 62 (by decide))
                  rw [show sl24 62 = 319 from rfl] at e62
                  have e62 : vs 319 = .bool true := e62
                  have e63 := hJ.val 63 _ rfl (hdep 63 (by decide))
                  rw [show sl24 63 = 320 from rfl] at e63
                  have e63 : vs 320 = .int .i64 0 := e63
                  have a320 : A.tmps[320]? = some (vs 320) := hv 320 (by decide)
                  rw [e63] at a320
                  refine step_guard (j := 62) (s := 319) rfl rfl rfl (by rw [hv 319 (by decide), e62]) (fun K' hK => ?_)
                  clear hv hdep
                  go_simp
                  exact hK _ _ ⟨upd vs 321 (.bool true), .inr ⟨321, .bool true, by decide, rfl, rfl⟩, hJ.step sl24_inj 64 _ rfl (Below.refl _ _) (.bool true) (rfl)⟩
                · have e62 := hJ.val 62 _ rfl (hdep 62 (by decide))
                  rw [show sl24 62 = 319 from rfl] at e62
                  have e62 : vs 319 = .bool true := e62
                  have a319 : A.tmps[319]? = some (vs 319) := hv 319 (by decide)
                  rw [e62] at a319
                  have e64 := hJ.val 64 _ rfl (hdep 64 (by decide))
                  rw [show sl24 64 = 321 from rfl] at e64
                  have e64 : vs 321 = .bool true := e64
                  have a321 : A.tmps[321]? = some (vs 321) := hv 321 (by decide)
                  rw [e64] at a321
                  refine step_free rfl rfl (fun K' hK => ?_)
                  clear hv hdep
                  go_simp
                  exact hK _ _ ⟨upd vs 322 (.bool true), .inr ⟨322, .bool true, by decide, rfl, rfl⟩, hJ.step sl24_inj 65 _ rfl (Below.refl _ _) (.bool true) (rfl)⟩
                · have e65 := hJ.val 65 _ rfl (hdep 65 (by decide))
                  rw [show sl24 65 = 322 from rfl] at e65
                  have e65 : vs 322 = .bool true := e65
                  have a322 : A.tmps[322]? = some (vs 322) := hv 322 (by decide)
                  rw [e65] at a322
                  refine step_free rfl rfl (fun K' hK => ?_)
                  clear hv hdep
                  go_simp
                  exact hK _ _ ⟨upd vs 0 (.bool true), .inr ⟨0, .bool true, by decide, rfl, rfl⟩, hJ.step sl24_inj 66 _ rfl (Below.refl _ _) (.bool true) (rfl)⟩
              · intro d vs24 V24 hall hJ
                have h24 : vs24 0 = .bool true := hJ.val 66 _ rfl (hall 66 (show 66 < 67 by decide))
                have hB24 := hJ.gr
                clear hall hJ
                simp only [puts, ds24, List.range, List.range.loop, List.map_cons, List.map_nil, List.cons_append, List.nil_append, List.foldl_cons, List.foldl_nil, Act.put, List.setIfInBounds_toArray, List.set_cons_zero, List.set_cons_succ, Nat.reduceAdd]
                rw [h24]
                clear h24
                go_wp2_with fail
                go_ret
                exact ⟨rfl, hU24.trans (hB24.mono hU24.size)⟩
end Go.Proofs.YtijfnnjgcgmnaaaGreatDoor.Par
