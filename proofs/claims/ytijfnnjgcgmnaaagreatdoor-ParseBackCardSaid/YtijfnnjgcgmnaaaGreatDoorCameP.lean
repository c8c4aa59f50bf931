/- What the rows' arguments and tables read as (layer 18): strings, the tables, the tables of glyphs. -/
import Derived.Test.YtijfnnjgcgmnaaaGreatDoorArrs
import Derived.Test.YtijfnnjgcgmnaaaGreatDoorRows
import Derived.Lib.LaidTab
import Derived.Shelf.Vars
import Derived.Lib.LaidU8T
import Derived.Stop.LaidErr
import Derived.Test.YtijfnnjgcgmnaaaGreatDoorRdr
import Derived.Test.YtijfnnjgcgmnaaaGreatDoorPB
import Derived.SliceStrings
import Derived.ChangeSlices
import Derived.ProofKit
namespace Go.Proofs.YtijfnnjgcgmnaaaGreatDoor
open Go.ChangeShapes Go.WideShapes Go.ChangeAt Go.RowKit
set_option linter.unusedVariables false

theorem laidMet_of_H {P : Program} {l : List (String × DataW Unit)} {w : World} (h0 : (l.filter fun x => x.2.handleName?.isSome) = []) (h : laidMetH P l w) : laidMet P l w := by
  unfold laidMetH at h
  rw [h0] at h
  exact h

theorem laid_tail {P : Program} {x : String × DataW Unit} {l : List (String × DataW Unit)} {w : World} (h : laidMet P (x :: l) w) : laidMet P l w := by
  obtain ⟨ps, h1, h2, h3⟩ := h
  obtain ⟨n, d⟩ := x
  obtain ⟨g, t, cs, fuel, p, q, _, _, _, _, hq, rfl⟩ := h1
  exact ⟨q, hq, (List.nodup_append.1 h2).2.1, fun b off hm => h3 b off (List.mem_append_right _ hm)⟩

section
variable {H : Type} {enc : TypeId × Value → H} {w : World} {base : Nat} {sp : Nat → Bool} {held : Bool}

set_option maxRecDepth 100000 in
theorem strs_row {t e : TypeId} {fuel : Nat} {c : Value} {x : DataW H × List MemPlace} (ht : Tryz.prog.underlying t = some (.slice e)) (he : Tryz.prog.underlying e = some .string) (hc : Tryz.prog.cellsOf e = 1)
    (h : DataW.trod enc Tryz.prog w base sp held fuel t [c] = some x) : ∃ xs, Strs w c xs ∧ ∀ s ∈ xs, s.size ≤ maxLen := by
  rcases ChangeShapes.open_strings ht he hc h with ⟨hcs, _⟩ | ⟨a, l, cap, ss, hcs, _, hl, hm, hz, _, hcell, hss⟩
  · obtain rfl : c = .slice none 0 0 := by simpa using hcs
    exact ⟨[], ⟨none, 0, rfl, Nat.le_refl _, by omega, fun _ => rfl, fun i hi => by simp at hi⟩, fun s hs => by cases hs⟩
  · obtain rfl : c = .slice (some a) l cap := by simpa using hcs
    have hzl : l ≤ ss.length := by rw [hz]; split <;> omega
    have hlen : (ss.take l).length = l := by simp; omega
    refine ⟨ss.take l, ⟨some a, cap, by rw [hlen], by omega, by simpa [maxLen] using hm, by simp, fun i hi => ?_⟩, fun s hs => hss s (List.mem_of_mem_take hs)⟩
    have hi' : i < l := by simp at hi; omega
    obtain ⟨b, o, s⟩ := a
    have hs : s = none := by simpa [Addr.add] using World.cell?_spot (hcell 0 (by omega))
    subst hs
    have hh := hcell i (by omega)
    rw [add_plain] at hh
    refine ⟨b, o, rfl, ?_⟩
    rw [hh, List.getElem_map, List.getElem_take, List.getD_eq_getElem?_getD, List.getElem?_eq_getElem (by omega), Option.getD_some]
set_option maxRecDepth 100000 in
/-- A slice of strings, as an argument. -/
theorem strs_came {r : Reach} {b0 : Nat} {t e : TypeId} {v : Value} {d : DataW H} {ps : List MemPlace} (ht : Tryz.prog.underlying t = some (.slice e)) (he : Tryz.prog.underlying e = some .string) (hc : Tryz.prog.cellsOf e = 1)
    (hval : Value.okWide Tryz.prog w r b0 t v) (h : DataW.Trod enc Tryz.prog w base sp held t v d ps) : ∃ xs, Strs w v xs ∧ ∀ s ∈ xs, s.size ≤ maxLen := by
  obtain ⟨a, l, cap, rfl⟩ := okWide_slice ht hval
  obtain ⟨fuel, hf⟩ := h
  exact strs_row ht he hc hf
/-- An array of strings that reads as a list holds it, cell for cell. -/
theorem cells_of_strs {fuel : Nat} {t e : TypeId} {n : Nat} {cs : List Value} {ss : List (List UInt8)} {p : List MemPlace}
    (ht : Tryz.prog.underlying t = some (.array n e)) (he : Tryz.prog.underlying e = some .string) (hce : Tryz.prog.cellsOf e = 1) (hct : Tryz.prog.cellsOf t = n)
    (h : DataW.trod enc Tryz.prog w base sp held fuel t cs = some (.agg (ss.map fun s => .lit (.string s)), p)) : cs = ss.map fun s => Value.string (bs s) := by
  cases fuel with
  | zero => simp [DataW.trod] at h
  | succ fuel =>
    simp only [DataW.trod, ht, hce, hct, Nat.mul_one] at h
    split at h
    · rename_i hl
      obtain ⟨xs, hm, hx⟩ := Option.map_eq_some_iff.1 h
      have hxs : xs.map (·.1) = ss.map fun s => (DataW.lit (.string s) : DataW H) := by
        have := congrArg Prod.fst hx
        simpa using this
      have hxl : xs.length = n := by simpa using Lib.mapM_length hm
      have hzl : ss.length = n := by
        have := congrArg List.length hxs
        simp at this
        omega
      apply List.ext_getElem?
      intro i
      by_cases hi : i < n
      · obtain ⟨b, hb, hf⟩ := Lib.mapM_at hm i i (by simp [hi])
        obtain ⟨z, hc, rfl, _⟩ := DataW.trod_string he hf
        have h1 : cs[i]? = some (.string z) := by
          have := congrArg (·[0]?) hc
          simpa [List.getElem?_take, List.getElem?_drop] using this
        have h2 : (xs.map (·.1))[i]? = some (DataW.lit (.string z.data.toList) : DataW H) := by simp [hb]
        rw [hxs] at h2
        simp only [List.getElem?_map, Option.map_eq_some_iff, DataW.lit.injEq, Lit.string.injEq] at h2
        obtain ⟨z', hz', e1⟩ := h2
        have e2 : bs z' = z := by rw [e1]; cases z; simp [bs]
        simp [h1, hz', e2]
      · rw [List.getElem?_eq_none (by omega), List.getElem?_eq_none (by simp; omega)]
    · cases h
end

theorem star_err : "*" ++ "errors.errorString" = "*errors.errorString" := by decide
theorem row_err (u : TypeId) (h : Tryz.prog.typeName? 3 u = some "*errors.errorString") : u = 241 :=
  typeName_ptr_named (nm := "errors.errorString") (by rw [star_err]; kernel_rfl) (by kernel_rfl) (by decide) u (by rw [star_err]; exact h)

theorem err_var {w : World} {n nm : String} {text : List UInt8} {r : List (String × DataW Unit)} {tp te ti : TypeId} {g : Nat} {ms : Array (String × TypeId)} {f : Field}
    (h : laidMet Tryz.prog ((n, .iface nm (.ptr (.agg [.lit (.string text)]))) :: r) w) (hg : Tryz.prog.globalNamed n = some g) (ht : (Tryz.prog.globals[g]?).map (·.type) = some ti) (hi : Tryz.prog.underlying ti = some (.interface ms)) (hrow : ∀ u, Tryz.prog.typeName? 3 u = some nm → u = tp)
    (hp : Tryz.prog.underlying tp = some (.pointer te)) (he : Tryz.prog.underlying te = some (.struct #[f])) (hft : f.type = 9) (hfo : f.offset = 0) (hc : Tryz.prog.cellsOf te = 1) :
    ∃ tp p, w.var? Tryz.prog n = some #[.iface tp p] := by
  obtain ⟨a, s, h1, -⟩ := laid_sentinel h hg ht hi hrow hp he hft hfo Tryz.underlying9 hc (by kernel_rfl)
  exact ⟨_, _, h1⟩

set_option maxRecDepth 100000 in
theorem tabs_came {w : World} (hL : laidMetH Tryz.prog Rows.parseUnsaidRow.laid w) (hsh : w.ShapedOpen Tryz.prog) : Tabs w := by
  have h0 := laidMet_of_H (by kernel_rfl) hL
  refine ⟨?_, ?_⟩
  · exact Lib.tabIs_of_head (g := 5) (t := 224) (e := 114) (n := 20) (by kernel_rfl) (by kernel_rfl) (by kernel_rfl) (by kernel_rfl) (by kernel_rfl) (by kernel_rfl) (laid_tail (laid_tail h0))
  · exact cell_of_shapedOpen_int (P := Tryz.prog) (g := 4) (t := 3) (zero := #[.int .i64 0]) hsh (of_decide_eq_true (by kernel_rfl)) (by kernel_rfl) rfl (by kernel_rfl) (by kernel_rfl) Tryz.underlying3

set_option maxRecDepth 100000 in
theorem glob_came {w : World} (hL : laidMetH Tryz.prog Rows.parseUnsaidRow.laid w) (hsh : w.ShapedOpen Tryz.prog) : Glob w := by
  have h0 := laidMet_of_H (by kernel_rfl) hL
  refine ⟨⟨?_, ?_⟩, ?_, (tabs_came hL hsh).2⟩
  · exact err_var (laid_tail (laid_tail (laid_tail (laid_tail (laid_tail h0))))) (g := 6) (ti := 76) (tp := 241) (te := 243) (by kernel_rfl) (by kernel_rfl) Tryz.underlying76 row_err Tryz.underlying241 Tryz.underlying243 rfl rfl (by kernel_rfl)
  · exact err_var (laid_tail (laid_tail (laid_tail (laid_tail h0)))) (g := 7) (ti := 76) (tp := 241) (te := 243) (by kernel_rfl) (by kernel_rfl) Tryz.underlying76 row_err Tryz.underlying241 Tryz.underlying243 rfl rfl (by kernel_rfl)
  · exact utf8Tabs_of_readsT (U8Types.of196 Tryz.lays196) ⟨by kernel_rfl, by kernel_rfl, by kernel_rfl, by kernel_rfl, by kernel_rfl, by kernel_rfl, by kernel_rfl⟩ (Lib.laidMet.reads h0 (.tail _ (.tail _ (.tail _ (.tail _ (.tail _ (.tail _ (.tail _ (.tail _ (.head _)))))))))) (Lib.laidMet.reads h0 (.tail _ (.tail _ (.tail _ (.head _)))))
theorem strs_var {w : World} {nm : String} {ss : List (List UInt8)} {g : Nat} {t e : TypeId} {n : Nat} (h : Lib.VarReads Tryz.prog w nm (.agg (ss.map fun s => .lit (.string s)))) (hg : Tryz.prog.globalNamed nm = some g) (hty : (Tryz.prog.globals[g]?).map (·.type) = some t)
    (ht : Tryz.prog.underlying t = some (.array n e)) (he : Tryz.prog.underlying e = some .string) (hce : Tryz.prog.cellsOf e = 1) (hct : Tryz.prog.cellsOf t = n) (hn : ss.length = n) (hm : n ≤ 1000) : Strs w (.slice (some ⟨g, 0, none⟩) n n) (ss.map bs) := by
  obtain ⟨g', t', cs, fuel, p, hg', ht', hvar, hd⟩ := h
  obtain rfl := Option.some.inj (hg.symm.trans hg')
  obtain rfl := Option.some.inj (hty.symm.trans ht')
  have hc := cells_of_strs ht he hce hct hd
  refine ⟨some ⟨g, 0, none⟩, n, by rw [List.length_map, hn], by rw [List.length_map, hn]; exact Nat.le_refl _, by omega, by simp, fun i hi => ⟨g, 0, rfl, ?_⟩⟩
  have hi2 : i < ss.length := by simpa using hi
  rw [World.var?_cell hg hvar, Nat.zero_add, ← Array.getElem?_toList, hc, List.getElem?_map, List.getElem?_eq_getElem hi2, Option.map_some, List.getElem_map, List.getElem_map]
set_option maxRecDepth 100000 in
theorem gly_came {w : World} (hL : laidMetH Tryz.prog Rows.parseUnsaidRow.laid w) : Par.Gly w := by
  have h0 := laidMet_of_H (by kernel_rfl) hL
  refine ⟨?_, ?_⟩
  · exact strs_var (ss := ([] : List UInt8) :: Par.glyph12) (g := 1) (t := 123) (e := 9) (n := 18) (Lib.laidMet.reads h0 (.tail _ (.tail _ (.tail _ (.tail _ (.tail _ (.tail _ (.head _)))))))) (by kernel_rfl) (by kernel_rfl) Tryz.underlying123 Tryz.underlying9 (by kernel_rfl) (by kernel_rfl) rfl (by decide)
  · exact strs_var (ss := Par.mixedG) (g := 0) (t := 85) (e := 9) (n := 12) (Lib.laidMet.reads h0 (.tail _ (.tail _ (.tail _ (.tail _ (.tail _ (.tail _ (.tail _ (.head _))))))))) (by kernel_rfl) (by kernel_rfl) Tryz.underlying85 Tryz.underlying9 (by kernel_rfl) (by kernel_rfl) rfl (by decide)
theorem Par.bs_of (s : ByteArray) : bs s.data.toList = s := by cases s; simp [bs]
theorem Par.bs_all (xs : List ByteArray) : (xs.map fun s => s.data.toList).map bs = xs := by
  rw [List.map_map]
  conv => rhs; rw [← List.map_id xs]
  exact List.map_congr_left fun s _ => Par.bs_of s
end Go.Proofs.YtijfnnjgcgmnaaaGreatDoor
