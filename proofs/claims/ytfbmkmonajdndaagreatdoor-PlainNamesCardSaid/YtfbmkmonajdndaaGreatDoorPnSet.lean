/- PlainNames: the program's stages: hooks, package variables, the start. -/
import Derived.Test.YtfbmkmonajdndaaGreatDoorEvE
import Derived.Test.YtfbmkmonajdndaaGreatDoorIns
namespace Go.Proofs.YtfbmkmonajdndaaGreatDoor.Ev
open Go
set_option linter.unusedVariables false
set_option linter.unusedSimpArgs false
noncomputable def bs (l : List UInt8) : Value := .string ⟨⟨l⟩⟩
noncomputable def tb0 : Tab := (0, 227, [.int .u8 240, .int .u8 240, .int .u8 240, .int .u8 240, .int .u8 240, .int .u8 240, .int .u8 240, .int .u8 240, .int .u8 240, .int .u8 240, .int .u8 240, .int .u8 240, .int .u8 240, .int .u8 240, .int .u8 240, .int .u8 240, .int .u8 240, .int .u8 240, .int .u8 240, .int .u8 240, .int .u8 240, .int .u8 240, .int .u8 240, .int .u8 240, .int .u8 240, .int .u8 240, .int .u8 240, .int .u8 240, .int .u8 240, .int .u8 240, .int .u8 240, .int .u8 240, .int .u8 240, .int .u8 240, .int .u8 240, .int .u8 240, .int .u8 240, .int .u8 240, .int .u8 240, .int .u8 240, .int .u8 240, .int .u8 240, .int .u8 240, .int .u8 240, .int .u8 240, .int .u8 240, .int .u8 240, .int .u8 240, .int .u8 240, .int .u8 240, .int .u8 240, .int .u8 240, .int .u8 240, .int .u8 240, .int .u8 240, .int .u8 240, .int .u8 240, .int .u8 240, .int .u8 240, .int .u8 240, .int .u8 240, .int .u8 240, .int .u8 240, .int .u8 240, .int .u8 240, .int .u8 240, .int .u8 240, .int .u8 240, .int .u8 240, .int .u8 240, .int .u8 240, .int .u8 240, .int .u8 240, .int .u8 240, .int .u8 240, .int .u8 240, .int .u8 240, .int .u8 240, .int .u8 240, .int .u8 240, .int .u8 240, .int .u8 240, .int .u8 240, .int .u8 240, .int .u8 240, .int .u8 240, .int .u8 240, .int .u8 240, .int .u8 240, .int .u8 240, .int .u8 240, .int .u8 240, .int .u8 240, .int .u8 240, .int .u8 240, .int .u8 240, .int .u8 240, .int .u8 240, .int .u8 240, .int .u8 240, .int .u8 240, .int .u8 240, .int .u8 240, .int .u8 240, .int .u8 240, .int .u8 240, .int .u8 240, .int .u8 240, .int .u8 240, .int .u8 240, .int .u8 240, .int .u8 240, .int .u8 240, .int .u8 240, .int .u8 240, .int .u8 240, .int .u8 240, .int .u8 240, .int .u8 240, .int .u8 240, .int .u8 240, .int .u8 240, .int .u8 240, .int .u8 240, .int .u8 240, .int .u8 240, .int .u8 240, .int .u8 240, .int .u8 241, .int .u8 241, .int .u8 241, .int .u8 241, .int .u8 241, .int .u8 241, .int .u8 241, .int .u8 241, .int .u8 241, .int .u8 241, .int .u8 241, .int .u8 241, .int .u8 241, .int .u8 241, .int .u8 241, .int .u8 241, .int .u8 241, .int .u8 241, .int .u8 241, .int .u8 241, .int .u8 241, .int .u8 241, .int .u8 241, .int .u8 241, .int .u8 241, .int .u8 241, .int .u8 241, .int .u8 241, .int .u8 241, .int .u8 241, .int .u8 241, .int .u8 241, .int .u8 241, .int .u8 241, .int .u8 241, .int .u8 241, .int .u8 241, .int .u8 241, .int .u8 241, .int .u8 241, .int .u8 241, .int .u8 241, .int .u8 241, .int .u8 241, .int .u8 241, .int .u8 241, .int .u8 241, .int .u8 241, .int .u8 241, .int .u8 241, .int .u8 241, .int .u8 241, .int .u8 241, .int .u8 241, .int .u8 241, .int .u8 241, .int .u8 241, .int .u8 241, .int .u8 241, .int .u8 241, .int .u8 241, .int .u8 241, .int .u8 241, .int .u8 241, .int .u8 241, .int .u8 241, .int .u8 2, .int .u8 2, .int .u8 2, .int .u8 2, .int .u8 2, .int .u8 2, .int .u8 2, .int .u8 2, .int .u8 2, .int .u8 2, .int .u8 2, .int .u8 2, .int .u8 2, .int .u8 2, .int .u8 2, .int .u8 2, .int .u8 2, .int .u8 2, .int .u8 2, .int .u8 2, .int .u8 2, .int .u8 2, .int .u8 2, .int .u8 2, .int .u8 2, .int .u8 2, .int .u8 2, .int .u8 2, .int .u8 2, .int .u8 2, .int .u8 19, .int .u8 3, .int .u8 3, .int .u8 3, .int .u8 3, .int .u8 3, .int .u8 3, .int .u8 3, .int .u8 3, .int .u8 3, .int .u8 3, .int .u8 3, .int .u8 3, .int .u8 35, .int .u8 3, .int .u8 3, .int .u8 52, .int .u8 4, .int .u8 4, .int .u8 4, .int .u8 68, .int .u8 241, .int .u8 241, .int .u8 241, .int .u8 241, .int .u8 241, .int .u8 241, .int .u8 241, .int .u8 241, .int .u8 241, .int .u8 241, .int .u8 241])
noncomputable def tb1 : Tab := (1, 230, [.int .u8 128, .int .u8 191, .int .u8 160, .int .u8 191, .int .u8 128, .int .u8 159, .int .u8 144, .int .u8 191, .int .u8 128, .int .u8 143, .int .u8 0, .int .u8 0, .int .u8 0, .int .u8 0, .int .u8 0, .int .u8 0, .int .u8 0, .int .u8 0, .int .u8 0, .int .u8 0, .int .u8 0, .int .u8 0, .int .u8 0, .int .u8 0, .int .u8 0, .int .u8 0, .int .u8 0, .int .u8 0, .int .u8 0, .int .u8 0, .int .u8 0, .int .u8 0])
noncomputable def tb3 : Tab := (3, 343, [.int .u64 1, .int .u64 10, .int .u64 100, .int .u64 1000, .int .u64 10000, .int .u64 100000, .int .u64 1000000, .int .u64 10000000, .int .u64 100000000, .int .u64 1000000000, .int .u64 10000000000, .int .u64 100000000000, .int .u64 1000000000000, .int .u64 10000000000000, .int .u64 100000000000000, .int .u64 1000000000000000, .int .u64 10000000000000000, .int .u64 100000000000000000, .int .u64 1000000000000000000, .int .u64 10000000000000000000])
noncomputable def tb4 : Tab := (4, 358, [.string ⟨#[226, 141, 180]⟩, .string ⟨#[44]⟩, .string ⟨#[226, 140, 189]⟩, .string ⟨#[226, 141, 137]⟩, .string ⟨#[226, 141, 179]⟩, .string ⟨#[226, 137, 162]⟩, .string ⟨#[226, 141, 139]⟩, .string ⟨#[226, 141, 146]⟩, .string ⟨#[226, 134, 145]⟩, .string ⟨#[226, 134, 147]⟩, .string ⟨#[226, 136, 138]⟩, .string ⟨#[47]⟩])
noncomputable def tb5 : Tab := (5, 359, [.string ⟨#[]⟩, .string ⟨#[43]⟩, .string ⟨#[45]⟩, .string ⟨#[195, 151]⟩, .string ⟨#[195, 183]⟩, .string ⟨#[124]⟩, .string ⟨#[226, 140, 138]⟩, .string ⟨#[226, 140, 136]⟩, .string ⟨#[42]⟩, .string ⟨#[61]⟩, .string ⟨#[226, 137, 160]⟩, .string ⟨#[60]⟩, .string ⟨#[226, 137, 164]⟩, .string ⟨#[226, 137, 165]⟩, .string ⟨#[62]⟩, .string ⟨#[226, 136, 167]⟩, .string ⟨#[226, 136, 168]⟩, .string ⟨#[126]⟩])
noncomputable def tb6 : Tab := (6, 374, [.int .u8 0, .int .u8 1, .int .u8 28, .int .u8 2, .int .u8 29, .int .u8 14, .int .u8 24, .int .u8 3, .int .u8 30, .int .u8 22, .int .u8 20, .int .u8 15, .int .u8 25, .int .u8 17, .int .u8 4, .int .u8 8, .int .u8 31, .int .u8 27, .int .u8 13, .int .u8 23, .int .u8 21, .int .u8 19, .int .u8 16, .int .u8 7, .int .u8 26, .int .u8 12, .int .u8 18, .int .u8 6, .int .u8 11, .int .u8 5, .int .u8 10, .int .u8 9])
noncomputable def tb7 : Tab := (7, 375, [.int .u8 0, .int .u8 1, .int .u8 56, .int .u8 2, .int .u8 57, .int .u8 49, .int .u8 28, .int .u8 3, .int .u8 61, .int .u8 58, .int .u8 42, .int .u8 50, .int .u8 38, .int .u8 29, .int .u8 17, .int .u8 4, .int .u8 62, .int .u8 47, .int .u8 59, .int .u8 36, .int .u8 45, .int .u8 43, .int .u8 51, .int .u8 22, .int .u8 53, .int .u8 39, .int .u8 33, .int .u8 30, .int .u8 24, .int .u8 18, .int .u8 12, .int .u8 5, .int .u8 63, .int .u8 55, .int .u8 48, .int .u8 27, .int .u8 60, .int .u8 41, .int .u8 37, .int .u8 16, .int .u8 46, .int .u8 35, .int .u8 44, .int .u8 21, .int .u8 52, .int .u8 32, .int .u8 23, .int .u8 11, .int .u8 54, .int .u8 26, .int .u8 40, .int .u8 15, .int .u8 34, .int .u8 20, .int .u8 31, .int .u8 10, .int .u8 25, .int .u8 14, .int .u8 19, .int .u8 9, .int .u8 13, .int .u8 8, .int .u8 7, .int .u8 6])
noncomputable def tabs : List Tab := [tb0, tb1, tb3, tb4, tb5, tb6, tb7]
noncomputable def tabC (p : Tab) : Nat × Cs := (p.1, ⟨p.2.1, lenL p.2.2, 0, true, [], Tr.ofList p.2.2⟩)
noncomputable def tabSub (r : List (Nat × Cs)) : List (Nat × Cs) := tabC tb0 :: tabC tb1 :: tabC tb3 :: tabC tb4 :: tabC tb5 :: tabC tb6 :: tabC tb7 :: r
noncomputable def H0 : AH := startH 10 tabs
noncomputable def baseH (f : FuncId) : Hook := fun args H => bi (Nat.beq f 193) (hIndex args H) (bi (Nat.beq f 170) (hPrefix args H) (bi (Nat.beq f 162) (hCopyCheck 132 args H) (bi (Nat.beq f 47) (hInsert Proofs.Tryz.prog 37 args H) none)))
noncomputable def hx1 (f : FuncId) : Option Hook := bi (Nat.beq f 240) (some (hMakeNoZero 5)) none
noncomputable def Gw (w : World) : Gr := ⟨Proofs.Tryz.prog, 10, baseH, hx1, w⟩
/-- What is known of the world. -/
structure Wd (w : World) : Prop where
  size : 10 ≤ w.heap.size
  tab : ∀ p ∈ tabs, TabAt w p
  max : ∃ m, w.cell? ⟨2, 0, none⟩ = some (.int .i64 m)
theorem ng_all : (Proofs.Tryz.prog.funcs.toList.all fun fd => !(fd.name == "runtime.NumGoroutine")) = true := by kernel_rfl
theorem ng (f : FuncId) (fd : Func) (h : Proofs.Tryz.prog.funcs[f]? = some fd) : (fd.name == "runtime.NumGoroutine") = false := by
  have := List.all_eq_true.1 ng_all fd (by rw [← Array.getElem?_toList] at h; exact List.mem_of_getElem? h)
  simpa using this
set_option maxRecDepth 100000 in
theorem insLaw : InsLaw Proofs.Tryz.prog 47 25 37 Proofs.Tryz.t37 (.agg #[.string ⟨#[]⟩, .int .i64 0, .slice none 0 0, .slice none 0 0, .string ⟨#[]⟩]) where
  und := Proofs.Tryz.underlying25
  info := by kernel_rfl
  zero := by kernel_rfl
  zsz := by kernel_rfl
  pos := by decide +kernel
  bytes := by decide +kernel
  shift := fun b off n c k vb voff vc w W1 W2 k1 k2 h1 h2 h3 h4 tA tB kA kB h5 h6 h7 h8 h9 hc1 hc2 => Proofs.Tryz.insert_shift b off n c k vb voff vc w W1 W2 k1 k2 h1 h2 h3 h4 tA tB kA kB h5 h6 h7 h8 h9 hc1 hc2
  grow := fun b off n c k vb voff vc nb G w W1 W2 W3 k1 k2 h1 h2 h3 h4 h5 hr hc1 hc2 => Proofs.Tryz.insert_grow b off n c k vb voff vc nb G w W1 W2 W3 k1 k2 h1 h2 h3 h4 h5 hr hc1 hc2
  int := Proofs.Tryz.underlying3
set_option maxRecDepth 100000 in
theorem hx_ok (w : World) (l : List Memo) (T : List TabE) : HxOk ((Gw w).en l T) where
  ng := ng
  ok := fun f h fd hf hfd hb ι H w ntm U tmps args args' v H' cx hargs hr => by
    obtain ⟨h1, h2⟩ := bi_none.1 (show bi (Nat.beq f 240) (some (hMakeNoZero 5)) none = some h from hf)
    have h1 := beq_iff.1 h1
    subst h1
    cases h2
    exact hMake_ok (fd := Proofs.Tryz.f240) (ps := #[3]) (t := 130) (elem := 5) (i := Proofs.Tryz.t5) Proofs.Tryz.func240 (by kernel_rfl) (by kernel_rfl) (by kernel_rfl) (by kernel_rfl) Proofs.Tryz.underlying130 (by kernel_rfl) (by kernel_rfl) cx hargs hr
theorem hx_nn (w : World) (l : List Memo) (T : List TabE) : HxNN ((Gw w).en l T) := by
  intro f h hf args H v H' hr
  obtain ⟨h1, h2⟩ := bi_none.1 (show bi (Nat.beq f 240) (some (hMakeNoZero 5)) none = some h from hf)
  cases h2
  exact hMake_nn hr
set_option maxRecDepth 100000 in
theorem gr_ok {w : World} (hw : Wd w) : GrOk (Gw w) where
  mix := by kernel_rfl
  hx := hx_ok w
  hxn := hx_nn w
  bh := fun l T f N ι H w1 args args' v H' hN hwx hargs hr => by
    obtain ⟨m, hm⟩ := hw.max
    have hsz := hw.size
    rcases bi_or.1 (show bi (Nat.beq f 193) (hIndex args H) (bi (Nat.beq f 170) (hPrefix args H) (bi (Nat.beq f 162) (hCopyCheck 132 args H) (bi (Nat.beq f 47) (hInsert Proofs.Tryz.prog 37 args H) none))) = some (v, H') from hr) with ⟨h1, h⟩ | ⟨-, h⟩
    · have h1 := beq_iff.1 h1
      subst h1
      exact hIndex_ok (E := (Gw w).en l T) (g := 2) (m := m) (by show 2 < w.heap.size; omega) hm (fun s sub w h1 h2 => Proofs.Tryz.strings_Index s sub m w h1 h2) hwx hargs h
    rcases bi_or.1 h with ⟨h1, h⟩ | ⟨-, h⟩
    · have h1 := beq_iff.1 h1
      subst h1
      exact hPrefix_ok (E := (Gw w).en l T) (fun s p w => Proofs.Tryz.strings_HasPrefix s p w) hwx hargs h
    rcases bi_or.1 h with ⟨h1, h⟩ | ⟨-, h⟩
    · have h1 := beq_iff.1 h1
      subst h1
      exact hCopyCheck_ok (E := (Gw w).en l T) (fun b w h1 h2 h3 => Proofs.Tryz.copyCheck_fresh b w h1 h2 h3) (fun b w h1 => Proofs.Tryz.copyCheck_used b w h1) hwx hargs h
    · obtain ⟨h1, h⟩ := bi_none.1 h
      have h1 := beq_iff.1 h1
      subst h1
      exact hInsert_ok (E := (Gw w).en l T) insLaw hN hwx hargs h
  bhn := fun f args H v H' hr => by
    rcases bi_or.1 (show bi (Nat.beq f 193) (hIndex args H) (bi (Nat.beq f 170) (hPrefix args H) (bi (Nat.beq f 162) (hCopyCheck 132 args H) (bi (Nat.beq f 47) (hInsert Proofs.Tryz.prog 37 args H) none))) = some (v, H') from hr) with ⟨h1, h⟩ | ⟨-, h⟩
    · exact hIndex_nn h
    rcases bi_or.1 h with ⟨h1, h⟩ | ⟨-, h⟩
    · exact hPrefix_nn h
    rcases bi_or.1 h with ⟨h1, h⟩ | ⟨-, h⟩
    · exact hCopyCheck_nn h
    · exact hInsert_nn (bi_none.1 h).2
theorem tabs_g : ∀ p ∈ tabs, p.1 < 10 := by
  have : (tabs.all fun p => decide (p.1 < 10)) = true := by kernel_rfl
  exact fun p hp => of_decide_eq_true (List.all_eq_true.1 this p hp)
theorem tabs_p : ∀ p ∈ tabs, allL plain p.2.2 = true := by
  have : (tabs.all fun p => allL plain p.2.2) = true := by kernel_rfl
  exact fun p hp => List.all_eq_true.1 this p hp
noncomputable def ren1 (w : World) : Ren := ren0 Proofs.Tryz.prog 10 w.heap.size w
theorem starts {w : World} (hw : Wd w) (l : List Memo) (T : List TabE) : StartOk ((Gw w).en l T) (ren1 w) H0 :=
  start_ok (E := (Gw w).en l T) (tabs := tabs) hw.size (Nat.le_refl _) tabs_g tabs_p hw.tab
theorem law_of {w : World} (hw : Wd w) {l : List Memo} (hl : Chain (Gw w) l) {T : List TabE} (hT : ∀ p ∈ T, TabGood (Gw w) (ren1 w) H0 p) {n : Nat} {f : FuncId} {v : Value} (hev : lawChk ((Gw w).en l T) n f H0 v = true) (hv : plain v = true) :
    Calls Proofs.Tryz.prog f #[] w fun e w' => e = .returned v ∧ RowKit.Below w.heap.size w w' := by
  obtain ⟨H', h⟩ := lawChk_ok hev
  exact chain_calls (G := Gw w) (gr_ok hw) hl (starts hw) hT h hv
end Go.Proofs.YtfbmkmonajdndaaGreatDoor.Ev
