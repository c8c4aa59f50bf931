/- PlainNames: what the row says of the package variables: the evaluator's start. -/
import Derived.Test.YtfbmkmonajdndaaGreatDoorPnSet
import Derived.Test.YtfbmkmonajdndaaGreatDoorRows
import Derived.Lib.LaidTab
import Derived.Lib.LaidU8
import Derived.Shelf.Vars
import Derived.ProofKit
namespace Go.Proofs.YtfbmkmonajdndaaGreatDoor.Ev
open Go
set_option linter.unusedVariables false
set_option linter.unusedSimpArgs false
open Proofs (Tryz.prog)
theorem laidMet_of_H {P : Program} {l : List (String × DataW Unit)} {w : World} (h0 : (l.filter fun x => x.2.handleName?.isSome) = []) (h : laidMetH P l w) : laidMet P l w := by
  unfold laidMetH at h
  rw [h0] at h
  exact h
section
variable {H : Type} {enc : TypeId × Value → H} {w : World} {base : Nat} {sp : Nat → Bool} {held : Bool} {P : Program}
theorem cells_of_strs {fuel : Nat} {t e : TypeId} {n : Nat} {cs : List Value} {ss : List (List UInt8)} {p : List MemPlace}
    (ht : P.underlying t = some (.array n e)) (he : P.underlying e = some .string) (hce : P.cellsOf e = 1) (hct : P.cellsOf t = n)
    (h : DataW.trod enc P w base sp held fuel t cs = some (.agg (ss.map fun s => .lit (.string s)), p)) : cs = ss.map fun s => Value.string ⟨⟨s⟩⟩ := by
  cases fuel with
  | zero => simp [DataW.trod] at h
  | succ fuel =>
    simp only [DataW.trod, ht, hce, hct, Nat.mul_one] at h
    split at h
    · rename_i hl
      obtain ⟨xs, hm, hx⟩ := Option.map_eq_some_iff.1 h
      have hxs : xs.map (·.1) = ss.map fun s => (DataW.lit (.string s) : DataW H) := by
        have := congrArg Prod.fst hx
        simpa using this
      have hxl : xs.length = n := by simpa using Lib.mapM_length hm
      have hzl : ss.length = n := by
        have := congrArg List.length hxs
        simp at this
        omega
      apply List.ext_getElem?
      intro i
      by_cases hi : i < n
      · obtain ⟨b, hb, hf⟩ := Lib.mapM_at hm i i (by simp [hi])
        obtain ⟨z, hc, rfl, _⟩ := DataW.trod_string he hf
        have h1 : cs[i]? = some (.string z) := by
          have := congrArg (·[0]?) hc
          simpa [List.getElem?_take, List.getElem?_drop] using this
        have h2 : (xs.map (·.1))[i]? = some (DataW.lit (.string z.data.toList) : DataW H) := by simp [hb]
        rw [hxs] at h2
        simp only [List.getElem?_map, Option.map_eq_some_iff, DataW.lit.injEq, Lit.string.injEq] at h2
        obtain ⟨z', hz', e1⟩ := h2
        have e2 : (⟨⟨z'⟩⟩ : ByteArray) = z := by rw [e1]
        simp [h1, hz', e2]
      · rw [List.getElem?_eq_none (by omega), List.getElem?_eq_none (by simp; omega)]
    · cases h
end
/-- A variable's row, as it was laid, and as it reads. -/
theorem tab_of {w : World} (hsh : w.ShapedOpen Tryz.prog) {nm : String} {g : Nat} {t : TypeId} {vs : List Value} {cs : Array Value} (hg : Tryz.prog.globalNamed nm = some g) (hlt : g < Tryz.prog.globals.size)
    (ht : ((((begin Tryz.prog (fun _ _ => 0) default).world).heap[g]?).bind Obj.row?).map (·.2) = some t) (hv : w.var? Tryz.prog nm = some cs) (hcs : cs.toList = vs) : TabAt w (g, t, vs) := by
  obtain ⟨⟨zero, t'⟩, h1, h2⟩ := Option.map_eq_some_iff.1 ht
  have h2 : t' = t := h2
  subst h2
  obtain ⟨cs', h3, -⟩ := hsh.1 g zero t' hlt h1
  have h4 : w.var? Tryz.prog nm = some cs' := by
    unfold World.var?
    rw [hg]
    simp only [Option.bind_some, h3]
  rw [h4] at hv
  cases hv
  refine ⟨(0, 0), ?_⟩
  rw [← hcs]
  exact h3
theorem reads_at {w : World} {nm : String} {d : DataW Unit} {g : Nat} {t : TypeId} (h : Lib.VarReads Tryz.prog w nm d) (hg : Tryz.prog.globalNamed nm = some g) (hty : (Tryz.prog.globals[g]?).map (·.type) = some t) :
    ∃ cs fuel p, w.var? Tryz.prog nm = some cs ∧ DataW.trod (fun _ => ()) Tryz.prog w 0 (fun _ => true) false fuel t cs.toList = some (d, p) := by
  obtain ⟨g', t', cs, fuel, p, hg', ht', hvar, hd⟩ := h
  obtain rfl := Option.some.inj (hg.symm.trans hg')
  obtain rfl := Option.some.inj (hty.symm.trans ht')
  exact ⟨cs, fuel, p, hvar, hd⟩
theorem tab_ints {w : World} (hsh : w.ShapedOpen Tryz.prog) {nm : String} {g : Nat} {t e : TypeId} {n : Nat} {k : IntKind} {zs : List Int} {vs : List Value} (h : Lib.VarReads Tryz.prog w nm (Lib.tabData k zs)) (hg : Tryz.prog.globalNamed nm = some g) (hlt : g < Tryz.prog.globals.size) (hty : (Tryz.prog.globals[g]?).map (·.type) = some t)
    (ht : ((((begin Tryz.prog (fun _ _ => 0) default).world).heap[g]?).bind Obj.row?).map (·.2) = some t) (hu : Tryz.prog.underlying t = some (.array n e)) (he : Tryz.prog.underlying e = some (.int k)) (hce : Tryz.prog.cellsOf e = 1) (hct : Tryz.prog.cellsOf t = n) (hvs : (zs.map fun z => Value.int k z) = vs) : TabAt w (g, t, vs) := by
  obtain ⟨cs, fuel, p, h1, h2⟩ := reads_at h hg hty
  exact tab_of hsh hg hlt ht h1 ((Lib.cells_of_tab hu he hce hct h2).trans hvs)
theorem tab_strs {w : World} (hsh : w.ShapedOpen Tryz.prog) {nm : String} {g : Nat} {t e : TypeId} {n : Nat} {ss : List (List UInt8)} {vs : List Value} (h : Lib.VarReads Tryz.prog w nm (.agg (ss.map fun s => .lit (.string s)))) (hg : Tryz.prog.globalNamed nm = some g) (hlt : g < Tryz.prog.globals.size) (hty : (Tryz.prog.globals[g]?).map (·.type) = some t)
    (ht : ((((begin Tryz.prog (fun _ _ => 0) default).world).heap[g]?).bind Obj.row?).map (·.2) = some t) (hu : Tryz.prog.underlying t = some (.array n e)) (he : Tryz.prog.underlying e = some .string) (hce : Tryz.prog.cellsOf e = 1) (hct : Tryz.prog.cellsOf t = n) (hvs : (ss.map fun s => Value.string ⟨⟨s⟩⟩) = vs) : TabAt w (g, t, vs) := by
  obtain ⟨cs, fuel, p, h1, h2⟩ := reads_at h hg hty
  exact tab_of hsh hg hlt ht h1 ((cells_of_strs hu he hce hct h2).trans hvs)
theorem tab_pairs {w : World} (hsh : w.ShapedOpen Tryz.prog) {nm : String} {g : Nat} {t e : TypeId} {n : Nat} {k : IntKind} {fs : Array Field} {zs : List (List Int)} {vs : List Value} (h : Lib.VarReads Tryz.prog w nm (.agg (zs.map fun l => .agg (l.map fun z => .lit (.int k z))))) (hg : Tryz.prog.globalNamed nm = some g) (hlt : g < Tryz.prog.globals.size) (hty : (Tryz.prog.globals[g]?).map (·.type) = some t)
    (ht : ((((begin Tryz.prog (fun _ _ => 0) default).world).heap[g]?).bind Obj.row?).map (·.2) = some t) (hu : Tryz.prog.underlying t = some (.array n e)) (he : Tryz.prog.underlying e = some (.struct fs)) (hf : ∀ (i : Nat) (f : Field), fs[i]? = some f → Tryz.prog.underlying f.type = some (.int k) ∧ f.offset = i ∧ Tryz.prog.cellsOf f.type = 1) (hce : Tryz.prog.cellsOf e = fs.size)
    (hsz : ∀ cs, w.var? Tryz.prog nm = some cs → cs.size = n * fs.size) (hl : ∀ l ∈ zs, l.length = fs.size) (hn : zs.length = n) (hvs : (zs.flatMap fun l => l.map fun z => Value.int k z) = vs) : TabAt w (g, t, vs) := by
  obtain ⟨cs, fuel, p, h1, h2⟩ := reads_at h hg hty
  refine tab_of hsh hg hlt ht h1 ?_
  rw [← hvs]
  have hlen := hsz cs h1
  have key : ∀ (m : Nat) (zs : List (List Int)) (cs : List Value), (∀ l ∈ zs, l.length = m) → cs.length = zs.length * m → (∀ (i : Nat) (l : List Int), zs[i]? = some l → (cs.drop (i * m)).take m = l.map fun z => Value.int k z) → cs = zs.flatMap fun l => l.map fun z => Value.int k z := by
    intro m zs
    induction zs with
    | nil => intro cs _ h _; rw [List.length_nil, Nat.zero_mul] at h; rw [List.eq_nil_of_length_eq_zero h]; rfl
    | cons l zs ih =>
      intro cs hl hc hi
      have h0 := hi 0 l rfl
      rw [Nat.zero_mul, List.drop_zero] at h0
      have := ih (cs.drop m) (fun x hx => hl x (List.mem_cons_of_mem _ hx)) (by rw [List.length_drop, hc, List.length_cons, Nat.succ_mul]; omega) (fun i x hx => by
        have := hi (i + 1) x (by simpa using hx)
        rw [List.drop_drop, show m + i * m = (i + 1) * m by rw [Nat.succ_mul]; omega]
        exact this)
      rw [List.flatMap_cons, ← h0, ← this, List.take_append_drop]
  refine key fs.size zs cs.toList hl (by rw [Array.length_toList, hlen, hn]) fun i l hi => ?_
  have hin : i < n := by rw [← hn]; exact (List.getElem?_eq_some_iff.1 hi).1
  obtain ⟨fuel', d, q, hd, htr⟩ := Lib.array_elem hu h2 i hin
  rw [List.getElem?_map, hi] at hd
  cases hd
  rw [hce] at htr
  exact Lib.ints_of_struct he hf hce htr

set_option maxRecDepth 100000
def z0 : List Int := [240, 240, 240, 240, 240, 240, 240, 240, 240, 240, 240, 240, 240, 240, 240, 240, 240, 240, 240, 240, 240, 240, 240, 240, 240, 240, 240, 240, 240, 240, 240, 240, 240, 240, 240, 240, 240, 240, 240, 240, 240, 240, 240, 240, 240, 240, 240, 240, 240, 240, 240, 240, 240, 240, 240, 240, 240, 240, 240, 240, 240, 240, 240, 240, 240, 240, 240, 240, 240, 240, 240, 240, 240, 240, 240, 240, 240, 240, 240, 240, 240, 240, 240, 240, 240, 240, 240, 240, 240, 240, 240, 240, 240, 240, 240, 240, 240, 240, 240, 240, 240, 240, 240, 240, 240, 240, 240, 240, 240, 240, 240, 240, 240, 240, 240, 240, 240, 240, 240, 240, 240, 240, 240, 240, 240, 240, 240, 240, 241, 241, 241, 241, 241, 241, 241, 241, 241, 241, 241, 241, 241, 241, 241, 241, 241, 241, 241, 241, 241, 241, 241, 241, 241, 241, 241, 241, 241, 241, 241, 241, 241, 241, 241, 241, 241, 241, 241, 241, 241, 241, 241, 241, 241, 241, 241, 241, 241, 241, 241, 241, 241, 241, 241, 241, 241, 241, 241, 241, 241, 241, 241, 241, 241, 241, 2, 2, 2, 2, 2, 2, 2, 2, 2, 2, 2, 2, 2, 2, 2, 2, 2, 2, 2, 2, 2, 2, 2, 2, 2, 2, 2, 2, 2, 2, 19, 3, 3, 3, 3, 3, 3, 3, 3, 3, 3, 3, 3, 35, 3, 3, 52, 4, 4, 4, 68, 241, 241, 241, 241, 241, 241, 241, 241, 241, 241, 241]
theorem d0 : (Proofs.YtfbmkmonajdndaaGreatDoor.Rows.laid_unicode_utf8_first : DataW Unit) = Lib.tabData .u8 z0 := by kernel_rfl
def z3 : List Int := [1, 10, 100, 1000, 10000, 100000, 1000000, 10000000, 100000000, 1000000000, 10000000000, 100000000000, 1000000000000, 10000000000000, 100000000000000, 1000000000000000, 10000000000000000, 100000000000000000, 1000000000000000000, 10000000000000000000]
theorem d3 : (Proofs.YtfbmkmonajdndaaGreatDoor.Rows.laid_internal_strconv_uint64pow10 : DataW Unit) = Lib.tabData .u64 z3 := by kernel_rfl
def z6 : List Int := [0, 1, 28, 2, 29, 14, 24, 3, 30, 22, 20, 15, 25, 17, 4, 8, 31, 27, 13, 23, 21, 19, 16, 7, 26, 12, 18, 6, 11, 5, 10, 9]
theorem d6 : (Proofs.YtfbmkmonajdndaaGreatDoor.Rows.laid_math_bits_deBruijn32tab : DataW Unit) = Lib.tabData .u8 z6 := by kernel_rfl
def z7 : List Int := [0, 1, 56, 2, 57, 49, 28, 3, 61, 58, 42, 50, 38, 29, 17, 4, 62, 47, 59, 36, 45, 43, 51, 22, 53, 39, 33, 30, 24, 18, 12, 5, 63, 55, 48, 27, 60, 41, 37, 16, 46, 35, 44, 21, 52, 32, 23, 11, 54, 26, 40, 15, 34, 20, 31, 10, 25, 14, 19, 9, 13, 8, 7, 6]
theorem d7 : (Proofs.YtfbmkmonajdndaaGreatDoor.Rows.laid_math_bits_deBruijn64tab : DataW Unit) = Lib.tabData .u8 z7 := by kernel_rfl
def z4 : List (List UInt8) := [[226, 141, 180], [44], [226, 140, 189], [226, 141, 137], [226, 141, 179], [226, 137, 162], [226, 141, 139], [226, 141, 146], [226, 134, 145], [226, 134, 147], [226, 136, 138], [47]]
theorem d4 : (Proofs.YtfbmkmonajdndaaGreatDoor.Rows.laid_quadrat_parse_mixed : DataW Unit) = .agg (z4.map fun s => .lit (.string s)) := by kernel_rfl
def z5 : List (List UInt8) := [[], [43], [45], [195, 151], [195, 183], [124], [226, 140, 138], [226, 140, 136], [42], [61], [226, 137, 160], [60], [226, 137, 164], [226, 137, 165], [62], [226, 136, 167], [226, 136, 168], [126]]
theorem d5 : (Proofs.YtfbmkmonajdndaaGreatDoor.Rows.laid_quadrat_scalar_glyphs : DataW Unit) = .agg (z5.map fun s => .lit (.string s)) := by kernel_rfl
def z1 : List (List Int) := [[128, 191], [160, 191], [128, 159], [144, 191], [128, 143], [0, 0], [0, 0], [0, 0], [0, 0], [0, 0], [0, 0], [0, 0], [0, 0], [0, 0], [0, 0], [0, 0]]
theorem d1 : (Proofs.YtfbmkmonajdndaaGreatDoor.Rows.laid_unicode_utf8_acceptRanges : DataW Unit) = .agg (z1.map fun l => .agg (l.map fun z => .lit (.int .u8 z))) := by kernel_rfl
theorem wd_came {w : World} (hL : laidMetH Tryz.prog Proofs.YtfbmkmonajdndaaGreatDoor.Rows.plainNamesRow.laid w) (hsh : w.ShapedOpen Tryz.prog) : Wd w := by
  have h0 := laidMet_of_H (by kernel_rfl) hL
  have r0 : Lib.VarReads Tryz.prog w "unicode/utf8.first" (Lib.tabData .u8 z0) := d0 ▸ Lib.laidMet.reads h0 (.tail _ (.tail _ (.tail _ (.tail _ (.tail _ (.tail _ (.tail _ (.tail _ (.head _)))))))))
  have a0 := tab_ints hsh (vs := tb0.2.2) (g := 0) (t := 227) (e := 5) (n := 256) r0 (by kernel_rfl) (of_decide_eq_true (by kernel_rfl)) (by kernel_rfl) (by kernel_rfl) Proofs.Tryz.underlying227 Proofs.Tryz.underlying5 (by kernel_rfl) (by kernel_rfl) (by kernel_rfl)
  have r3 : Lib.VarReads Tryz.prog w "internal/strconv.uint64pow10" (Lib.tabData .u64 z3) := d3 ▸ Lib.laidMet.reads h0 (.tail _ (.tail _ (.head _)))
  have a3 := tab_ints hsh (vs := tb3.2.2) (g := 3) (t := 343) (e := 264) (n := 20) r3 (by kernel_rfl) (of_decide_eq_true (by kernel_rfl)) (by kernel_rfl) (by kernel_rfl) Proofs.Tryz.underlying343 Proofs.Tryz.underlying264 (by kernel_rfl) (by kernel_rfl) (by kernel_rfl)
  have r6 : Lib.VarReads Tryz.prog w "math/bits.deBruijn32tab" (Lib.tabData .u8 z6) := d6 ▸ Lib.laidMet.reads h0 (.head _)
  have a6 := tab_ints hsh (vs := tb6.2.2) (g := 6) (t := 374) (e := 5) (n := 32) r6 (by kernel_rfl) (of_decide_eq_true (by kernel_rfl)) (by kernel_rfl) (by kernel_rfl) Proofs.Tryz.underlying374 Proofs.Tryz.underlying5 (by kernel_rfl) (by kernel_rfl) (by kernel_rfl)
  have r7 : Lib.VarReads Tryz.prog w "math/bits.deBruijn64tab" (Lib.tabData .u8 z7) := d7 ▸ Lib.laidMet.reads h0 (.tail _ (.head _))
  have a7 := tab_ints hsh (vs := tb7.2.2) (g := 7) (t := 375) (e := 5) (n := 64) r7 (by kernel_rfl) (of_decide_eq_true (by kernel_rfl)) (by kernel_rfl) (by kernel_rfl) Proofs.Tryz.underlying375 Proofs.Tryz.underlying5 (by kernel_rfl) (by kernel_rfl) (by kernel_rfl)
  have r4 : Lib.VarReads Tryz.prog w "quadrat/parse.mixed" (.agg (z4.map fun s => .lit (.string s))) := d4 ▸ Lib.laidMet.reads h0 (.tail _ (.tail _ (.tail _ (.tail _ (.tail _ (.tail _ (.tail _ (.head _))))))))
  have a4 := tab_strs hsh (vs := tb4.2.2) (g := 4) (t := 358) (e := 9) (n := 12) r4 (by kernel_rfl) (of_decide_eq_true (by kernel_rfl)) (by kernel_rfl) (by kernel_rfl) Proofs.Tryz.underlying358 Proofs.Tryz.underlying9 (by kernel_rfl) (by kernel_rfl) (by kernel_rfl)
  have r5 : Lib.VarReads Tryz.prog w "quadrat/scalar.glyphs" (.agg (z5.map fun s => .lit (.string s))) := d5 ▸ Lib.laidMet.reads h0 (.tail _ (.tail _ (.tail _ (.tail _ (.tail _ (.tail _ (.head _)))))))
  have a5 := tab_strs hsh (vs := tb5.2.2) (g := 5) (t := 359) (e := 9) (n := 18) r5 (by kernel_rfl) (of_decide_eq_true (by kernel_rfl)) (by kernel_rfl) (by kernel_rfl) Proofs.Tryz.underlying359 Proofs.Tryz.underlying9 (by kernel_rfl) (by kernel_rfl) (by kernel_rfl)
  have r1 : Lib.VarReads Tryz.prog w "unicode/utf8.acceptRanges" (.agg (z1.map fun l => .agg (l.map fun z => .lit (.int .u8 z)))) := d1 ▸ Lib.laidMet.reads h0 (.tail _ (.tail _ (.tail _ (.head _))))
  have s1 : ∀ cs, w.var? Tryz.prog "unicode/utf8.acceptRanges" = some cs → cs.size = 16 * 2 := by
    intro cs hv
    have hk : (((((begin Tryz.prog (fun _ _ => 0) default).world).heap[1]?).bind Obj.row?).map fun x => (x.1.size, x.2)) = some (32, 230) := by kernel_rfl
    obtain ⟨⟨zero, t'⟩, h1, h2⟩ := Option.map_eq_some_iff.1 hk
    obtain ⟨cs', h3, h4, -⟩ := hsh.1 1 zero t' (of_decide_eq_true (by kernel_rfl)) h1
    have h5 : w.var? Tryz.prog "unicode/utf8.acceptRanges" = some cs' := by
      unfold World.var?
      rw [show Tryz.prog.globalNamed "unicode/utf8.acceptRanges" = some 1 by kernel_rfl]
      simp only [Option.bind_some, h3]
    rw [h5] at hv
    cases hv
    rw [h4]
    exact (Prod.mk.inj h2).1
  have a1 := tab_pairs hsh (vs := tb1.2.2) (g := 1) (t := 230) (e := 229) (n := 16) r1 (by kernel_rfl) (of_decide_eq_true (by kernel_rfl)) (by kernel_rfl) (by kernel_rfl) Proofs.Tryz.underlying230 Proofs.Tryz.underlying229 (fun i f hf => by
    match i, hf with
    | 0, hf => simp at hf; subst hf; exact ⟨Proofs.Tryz.underlying5, rfl, by kernel_rfl⟩
    | 1, hf => simp at hf; subst hf; exact ⟨Proofs.Tryz.underlying5, rfl, by kernel_rfl⟩
    | i + 2, hf => simp at hf) (by kernel_rfl) s1 (fun l hl => by
      have : (z1.all fun l => l.length == 2) = true := by kernel_rfl
      simpa using List.all_eq_true.1 this l hl) (by kernel_rfl) (by kernel_rfl)
  refine ⟨?_, ?_, ?_⟩
  · obtain ⟨f, hf⟩ := a7
    have hk : (((((begin Tryz.prog (fun _ _ => 0) default).world).heap[9]?).bind Obj.row?).map fun x => x.2) = some 134 := by kernel_rfl
    obtain ⟨⟨zero, t'⟩, h1, h2⟩ := Option.map_eq_some_iff.1 hk
    obtain ⟨cs', h3, -⟩ := hsh.1 9 zero t' (of_decide_eq_true (by kernel_rfl)) h1
    rcases Nat.lt_or_ge 9 w.heap.size with h | h
    · exact h
    · rw [Array.getElem?_eq_none h] at h3; cases h3
  · intro p hp
    simp only [tabs, List.mem_cons, List.not_mem_nil, or_false] at hp
    rcases hp with rfl | rfl | rfl | rfl | rfl | rfl | rfl
    · exact a0
    · exact a1
    · exact a3
    · exact a4
    · exact a5
    · exact a6
    · exact a7
  · exact Proofs.cell_of_shapedOpen_int (P := Tryz.prog) (g := 2) (t := 3) (zero := #[.int .i64 0]) hsh (of_decide_eq_true (by kernel_rfl)) (by kernel_rfl) rfl (by kernel_rfl) (by kernel_rfl) Proofs.Tryz.underlying3
end Go.Proofs.YtfbmkmonajdndaaGreatDoor.Ev
