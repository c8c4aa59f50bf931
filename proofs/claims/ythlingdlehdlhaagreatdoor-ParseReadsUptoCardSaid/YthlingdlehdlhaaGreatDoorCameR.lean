/- What the rows' arguments and tables read as (layer 18): strings, the tables of glyphs. -/
import Derived.Test.YthlingdlehdlhaaGreatDoorArrs
import Derived.Test.YthlingdlehdlhaaGreatDoorRows
import Derived.Lib.LaidTab
import Derived.Shelf.Vars
import Derived.Lib.LaidU8T
import Derived.Stop.LaidErr
import Derived.Test.YthlingdlehdlhaaGreatDoorRdr
import Derived.Test.YthlingdlehdlhaaGreatDoorPB
import Derived.SliceStrings
import Derived.ChangeSlices
import Derived.ProofKit
namespace Go.Proofs.YthlingdlehdlhaaGreatDoor
open Go.ChangeShapes Go.WideShapes Go.ChangeAt Go.RowKit
set_option linter.unusedVariables false

theorem laidMet_of_H {P : Program} {l : List (String × DataW Unit)} {w : World} (h0 : (l.filter fun x => x.2.handleName?.isSome) = []) (h : laidMetH P l w) : laidMet P l w := by
  unfold laidMetH at h
  rw [h0] at h
  exact h

section
variable {H : Type} {enc : TypeId × Value → H} {w : World} {base : Nat} {sp : Nat → Bool} {held : Bool}

set_option maxRecDepth 100000 in
theorem strs_row {t e : TypeId} {fuel : Nat} {c : Value} {x : DataW H × List MemPlace} (ht : Tryz.prog.underlying t = some (.slice e)) (he : Tryz.prog.underlying e = some .string) (hc : Tryz.prog.cellsOf e = 1)
    (h : DataW.trod enc Tryz.prog w base sp held fuel t [c] = some x) : ∃ xs, Strs w c xs ∧ ∀ s ∈ xs, s.size ≤ maxLen := by
  rcases ChangeShapes.open_strings ht he hc h with ⟨hcs, _⟩ | ⟨a, l, cap, ss, hcs, _, hl, hm, hz, _, hcell, hss⟩
  · obtain rfl : c = .slice none 0 0 := by simpa using hcs
    exact ⟨[], ⟨none, 0, rfl, Nat.le_refl _, by omega, fun _ => rfl, fun i hi => by simp at hi⟩, fun s hs => by cases hs⟩
  · obtain rfl : c = .slice (some a) l cap := by simpa using hcs
    have hzl : l ≤ ss.length := by rw [hz]; split <;> omega
    have hlen : (ss.take l).length = l := by simp; omega
    refine ⟨ss.take l, ⟨some a, cap, by rw [hlen], by omega, by simpa [maxLen] using hm, by simp, fun i hi => ?_⟩, fun s hs => hss s (List.mem_of_mem_take hs)⟩
    have hi' : i < l := by simp at hi; omega
    obtain ⟨b, o, s⟩ := a
    have hs : s = none := by simpa [Addr.add] using World.cell?_spot (hcell 0 (by omega))
    subst hs
    have hh := hcell i (by omega)
    rw [add_plain] at hh
    refine ⟨b, o, rfl, ?_⟩
    rw [hh, List.getElem_map, List.getElem_take, List.getD_eq_getElem?_getD, List.getElem?_eq_getElem (by omega), Option.getD_some]
set_option maxRecDepth 100000 in
/-- A slice of strings, as an argument. -/
theorem strs_came {r : Reach} {b0 : Nat} {t e : TypeId} {v : Value} {d : DataW H} {ps : List MemPlace} (ht : Tryz.prog.underlying t = some (.slice e)) (he : Tryz.prog.underlying e = some .string) (hc : Tryz.prog.cellsOf e = 1)
    (hval : Value.okWide Tryz.prog w r b0 t v) (h : DataW.Trod enc Tryz.prog w base sp held t v d ps) : ∃ xs, Strs w v xs ∧ ∀ s ∈ xs, s.size ≤ maxLen := by
  obtain ⟨a, l, cap, rfl⟩ := okWide_slice ht hval
  obtain ⟨fuel, hf⟩ := h
  exact strs_row ht he hc hf
/-- An array of strings that reads as a list holds it, cell for cell. -/
theorem cells_of_strs {fuel : Nat} {t e : TypeId} {n : Nat} {cs : List Value} {ss : List (List UInt8)} {p : List MemPlace}
    (ht : Tryz.prog.underlying t = some (.array n e)) (he : Tryz.prog.underlying e = some .string) (hce : Tryz.prog.cellsOf e = 1) (hct : Tryz.prog.cellsOf t = n)
    (h : DataW.trod enc Tryz.prog w base sp held fuel t cs = some (.agg (ss.map fun s => .lit (.string s)), p)) : cs = ss.map fun s => Value.string (bs s) := by
  cases fuel with
  | zero => simp [DataW.trod] at h
  | succ fuel =>
    simp only [DataW.trod, ht, hce, hct, Nat.mul_one] at h
    split at h
    · rename_i hl
      obtain ⟨xs, hm, hx⟩ := Option.map_eq_some_iff.1 h
      have hxs : xs.map (·.1) = ss.map fun s => (DataW.lit (.string s) : DataW H) := by
        have := congrArg Prod.fst hx
        simpa using this
      have hxl : xs.length = n := by simpa using Lib.mapM_length hm
      have hzl : ss.length = n := by
        have := congrArg List.length hxs
        simp at this
        omega
      apply List.ext_getElem?
      intro i
      by_cases hi : i < n
      · obtain ⟨b, hb, hf⟩ := Lib.mapM_at hm i i (by simp [hi])
        obtain ⟨z, hc, rfl, _⟩ := DataW.trod_string he hf
        have h1 : cs[i]? = some (.string z) := by
          have := congrArg (·[0]?) hc
          simpa [List.getElem?_take, List.getElem?_drop] using this
        have h2 : (xs.map (·.1))[i]? = some (DataW.lit (.string z.data.toList) : DataW H) := by simp [hb]
        rw [hxs] at h2
        simp only [List.getElem?_map, Option.map_eq_some_iff, DataW.lit.injEq, Lit.string.injEq] at h2
        obtain ⟨z', hz', e1⟩ := h2
        have e2 : bs z' = z := by rw [e1]; cases z; simp [bs]
        simp [h1, hz', e2]
      · rw [List.getElem?_eq_none (by omega), List.getElem?_eq_none (by simp; omega)]
    · cases h
end

theorem strs_var {w : World} {nm : String} {ss : List (List UInt8)} {g : Nat} {t e : TypeId} {n : Nat} (h : Lib.VarReads Tryz.prog w nm (.agg (ss.map fun s => .lit (.string s)))) (hg : Tryz.prog.globalNamed nm = some g) (hty : (Tryz.prog.globals[g]?).map (·.type) = some t)
    (ht : Tryz.prog.underlying t = some (.array n e)) (he : Tryz.prog.underlying e = some .string) (hce : Tryz.prog.cellsOf e = 1) (hct : Tryz.prog.cellsOf t = n) (hn : ss.length = n) (hm : n ≤ 1000) : Strs w (.slice (some ⟨g, 0, none⟩) n n) (ss.map bs) := by
  obtain ⟨g', t', cs, fuel, p, hg', ht', hvar, hd⟩ := h
  obtain rfl := Option.some.inj (hg.symm.trans hg')
  obtain rfl := Option.some.inj (hty.symm.trans ht')
  have hc := cells_of_strs ht he hce hct hd
  refine ⟨some ⟨g, 0, none⟩, n, by rw [List.length_map, hn], by rw [List.length_map, hn]; exact Nat.le_refl _, by omega, by simp, fun i hi => ⟨g, 0, rfl, ?_⟩⟩
  have hi2 : i < ss.length := by simpa using hi
  rw [World.var?_cell hg hvar, Nat.zero_add, ← Array.getElem?_toList, hc, List.getElem?_map, List.getElem?_eq_getElem hi2, Option.map_some, List.getElem_map, List.getElem_map]
set_option maxRecDepth 100000 in
theorem gly_reads {w : World} (hL : laidMetH Tryz.prog Rows.parseReadsRow.laid w) : Par.Gly w := by
  have h0 := laidMet_of_H (by kernel_rfl) hL
  refine ⟨?_, ?_⟩
  · exact strs_var (ss := ([] : List UInt8) :: Par.glyph12) (g := 2) (t := 212) (e := 9) (n := 18) (Lib.laidMet.reads h0 (.head _)) (by kernel_rfl) (by kernel_rfl) Tryz.underlying212 Tryz.underlying9 (by kernel_rfl) (by kernel_rfl) rfl (by decide)
  · exact strs_var (ss := Par.mixedG) (g := 1) (t := 210) (e := 9) (n := 12) (Lib.laidMet.reads h0 (.tail _ (.head _))) (by kernel_rfl) (by kernel_rfl) Tryz.underlying210 Tryz.underlying9 (by kernel_rfl) (by kernel_rfl) rfl (by decide)
theorem Par.bs_of (s : ByteArray) : bs s.data.toList = s := by cases s; simp [bs]
theorem Par.bs_all (xs : List ByteArray) : (xs.map fun s => s.data.toList).map bs = xs := by
  rw [List.map_map]
  conv => rhs; rw [← List.map_id xs]
  exact List.map_congr_left fun s _ => Par.bs_of s
end Go.Proofs.YthlingdlehdlhaaGreatDoor
