/- What the rows' arguments and tables read as: a slice of integers, an array, the tables. -/
import Derived.Test.YtgjaajgdiggbeaaGreatDoorArrs
import Derived.Test.YtgjaajgdiggbeaaGreatDoorRows
import Derived.Lib.LaidTab
import Derived.Shelf.Vars
import Derived.Lib.LaidU8T
import Derived.Stop.LaidErr
import Derived.Test.YtgjaajgdiggbeaaGreatDoorRdr
import Derived.ChangeSlices
import Derived.ProofKit
namespace Go.Proofs.YtgjaajgdiggbeaaGreatDoor
open Go.ChangeShapes Go.WideShapes Go.ChangeAt Go.RowKit
set_option linter.unusedVariables false

theorem laidMet_of_H {P : Program} {l : List (String × DataW Unit)} {w : World} (h0 : (l.filter fun x => x.2.handleName?.isSome) = []) (h : laidMetH P l w) : laidMet P l w := by
  unfold laidMetH at h
  rw [h0] at h
  exact h

theorem laid_tail {P : Program} {x : String × DataW Unit} {l : List (String × DataW Unit)} {w : World} (h : laidMet P (x :: l) w) : laidMet P l w := by
  obtain ⟨ps, h1, h2, h3⟩ := h
  obtain ⟨n, d⟩ := x
  obtain ⟨g, t, cs, fuel, p, q, _, _, _, _, hq, rfl⟩ := h1
  exact ⟨q, hq, (List.nodup_append.1 h2).2.1, fun b off hm => h3 b off (List.mem_append_right _ hm)⟩

section
variable {H : Type} {enc : TypeId × Value → H} {w : World} {base : Nat} {sp : Nat → Bool} {held : Bool}

set_option maxRecDepth 100000 in
theorem ints_row {t e : TypeId} {fuel : Nat} {c : Value} {x : DataW H × List MemPlace} (ht : Tryz.prog.underlying t = some (.slice e)) (he : Tryz.prog.underlying e = some (.int .i64)) (hc : Tryz.prog.cellsOf e = 1)
    (h : DataW.trod enc Tryz.prog w base sp held fuel t [c] = some x) : ∃ xs, Ints w c xs ∧ Rng xs := by
  rcases ChangeShapes.open_ints ht he hc h with ⟨hcs, _⟩ | ⟨a, l, cap, zs, hcs, _, hl, hm, hz, _, hcell, hwz⟩
  · obtain rfl : c = .slice none 0 0 := by simpa using hcs
    exact ⟨[], Ints.nil w, fun i hi => by simp at hi⟩
  · obtain rfl : c = .slice (some a) l cap := by simpa using hcs
    have hzl : l ≤ zs.length := by rw [hz]; split <;> omega
    have hlen : (zs.take l).length = l := by simp; omega
    have hget : ∀ i, i < l → (zs.take l)[i]? = some (zs.getD i 0) := by
      intro i hi
      rw [List.getElem?_take_of_lt hi, List.getElem?_eq_getElem (by omega), List.getD_eq_getElem?_getD, List.getElem?_eq_getElem (by omega), Option.getD_some]
    refine ⟨zs.take l, ⟨some a, cap, by rw [hlen], by omega, by simpa [maxLen] using hm, by simp, fun i hi => ?_⟩, fun i hi => ?_⟩
    · have hi' : i < l := by simp at hi; omega
      obtain ⟨b, o, s⟩ := a
      have hs : s = none := by simpa [Addr.add] using World.cell?_spot (hcell 0 (by omega))
      subst hs
      have hh := hcell i (by omega)
      rw [add_plain] at hh
      refine ⟨b, o, rfl, ?_⟩
      have h2 : ((zs.take l).map (Value.int .i64))[i]'hi = .int .i64 (zs.getD i 0) := by
        rw [List.getElem_map]
        have := hget i hi'
        rw [List.getElem?_eq_getElem (by omega)] at this
        rw [Option.some.inj this]
      rw [h2]
      exact hh
    · have hi' : i < l := by omega
      rw [hget i hi', Option.getD_some]
      have := hwz (zs.getD i 0) (by rw [List.getD_eq_getElem?_getD, List.getElem?_eq_getElem (by omega), Option.getD_some]; exact List.getElem_mem _)
      simpa [Lit.wf, IntKind.min, IntKind.max, IntKind.signed, IntKind.bits] using this

set_option maxRecDepth 100000 in
theorem ints_came {r : Reach} {b0 : Nat} {t e : TypeId} {v : Value} {d : DataW H} {ps : List MemPlace} (ht : Tryz.prog.underlying t = some (.slice e)) (he : Tryz.prog.underlying e = some (.int .i64)) (hc : Tryz.prog.cellsOf e = 1)
    (hval : Value.okWide Tryz.prog w r b0 t v) (h : DataW.Trod enc Tryz.prog w base sp held t v d ps) : ∃ xs, Ints w v xs ∧ Rng xs := by
  obtain ⟨a, l, cap, rfl⟩ := okWide_slice ht hval
  obtain ⟨fuel, hf⟩ := h
  exact ints_row ht he hc hf

set_option maxRecDepth 100000 in
theorem array_came {r : Reach} {b0 : Nat} {v : Value} {d : DataW H} {ps : List MemPlace}
    (hval : Value.okWide Tryz.prog w r b0 25 v) (h : DataW.Trod enc Tryz.prog w base sp held 25 v d ps) : ∃ x, IsArr w v x := by
  unfold Value.okWide at hval
  rw [Tryz.underlying25] at hval
  obtain ⟨cs, rfl, hsz, -⟩ := hval
  obtain ⟨fuel, hf⟩ := h
  obtain ⟨xs, n, _, _, hlen, hxl, hall⟩ := DataW.trod_struct Tryz.underlying25 hf
  have hC : Tryz.prog.cellsOf 25 = 3 := by kernel_rfl
  rw [hC] at hsz hlen
  obtain ⟨l⟩ := cs
  match l, hlen, xs, hxl with
  | [c0, c1, c2], _, [x0, x1, x2], _ =>
    have hc3 : Tryz.prog.cellsOf 3 = 1 := by kernel_rfl
    have hcs : Tryz.prog.cellsOf 22 = 1 := by kernel_rfl
    have hce : Tryz.prog.cellsOf 23 = 1 := by kernel_rfl
    have hc4 : Tryz.prog.cellsOf 2 = 1 := by kernel_rfl
    have f0 : DataW.trod enc Tryz.prog w base sp held n 3 (([c0, c1, c2].drop 0).take (Tryz.prog.cellsOf 3)) = [x0, x1, x2][0]? := hall 0 _ rfl
    have f1 : DataW.trod enc Tryz.prog w base sp held n 22 (([c0, c1, c2].drop 1).take (Tryz.prog.cellsOf 22)) = [x0, x1, x2][1]? := hall 1 _ rfl
    have f2 : DataW.trod enc Tryz.prog w base sp held n 23 (([c0, c1, c2].drop 2).take (Tryz.prog.cellsOf 23)) = [x0, x1, x2][2]? := hall 2 _ rfl
    rw [hc3] at f0
    rw [hcs] at f1
    rw [hce] at f2
    obtain ⟨k, hk, -, -⟩ := DataW.trod_int Tryz.underlying3 f0
    obtain ⟨sh, h1, -⟩ := ints_row Tryz.underlying22 Tryz.underlying3 hc3 f1
    obtain ⟨el, h2, h3⟩ := ints_row Tryz.underlying23 Tryz.underlying2 hc4 f2
    obtain rfl : c0 = .int .i64 k := by simpa using hk
    exact ⟨⟨k, sh, el⟩, c1, c2, rfl, h1, h2, h3⟩
end

theorem star_err : "*" ++ "errors.errorString" = "*errors.errorString" := by decide
theorem row_err (u : TypeId) (h : Tryz.prog.typeName? 3 u = some "*errors.errorString") : u = 319 :=
  typeName_ptr_named (nm := "errors.errorString") (by rw [star_err]; kernel_rfl) (by kernel_rfl) (by decide) u (by rw [star_err]; exact h)

theorem err_var {w : World} {n nm : String} {text : List UInt8} {r : List (String × DataW Unit)} {tp te ti : TypeId} {g : Nat} {ms : Array (String × TypeId)} {f : Field}
    (h : laidMet Tryz.prog ((n, .iface nm (.ptr (.agg [.lit (.string text)]))) :: r) w) (hg : Tryz.prog.globalNamed n = some g) (ht : (Tryz.prog.globals[g]?).map (·.type) = some ti) (hi : Tryz.prog.underlying ti = some (.interface ms)) (hrow : ∀ u, Tryz.prog.typeName? 3 u = some nm → u = tp)
    (hp : Tryz.prog.underlying tp = some (.pointer te)) (he : Tryz.prog.underlying te = some (.struct #[f])) (hft : f.type = 9) (hfo : f.offset = 0) (hc : Tryz.prog.cellsOf te = 1) :
    ∃ tp p, w.var? Tryz.prog n = some #[.iface tp p] := by
  obtain ⟨a, s, h1, -⟩ := laid_sentinel h hg ht hi hrow hp he hft hfo Tryz.underlying9 hc (by kernel_rfl)
  exact ⟨_, _, h1⟩

set_option maxRecDepth 100000 in
theorem tabs_came {w : World} (hL : laidMetH Tryz.prog Rows.lexShownRow.laid w) (hsh : w.ShapedOpen Tryz.prog) : Tabs w := by
  have h0 := laidMet_of_H (by kernel_rfl) hL
  refine ⟨?_, ?_⟩
  · exact Lib.tabIs_of_head (g := 5) (t := 302) (e := 206) (n := 20) (by kernel_rfl) (by kernel_rfl) (by kernel_rfl) (by kernel_rfl) (by kernel_rfl) (by kernel_rfl) (laid_tail (laid_tail h0))
  · exact cell_of_shapedOpen_int (P := Tryz.prog) (g := 4) (t := 3) (zero := #[.int .i64 0]) hsh (of_decide_eq_true (by kernel_rfl)) (by kernel_rfl) rfl (by kernel_rfl) (by kernel_rfl) Tryz.underlying3

set_option maxRecDepth 100000 in
theorem glob_came {w : World} (hL : laidMetH Tryz.prog Rows.lexShownRow.laid w) (hsh : w.ShapedOpen Tryz.prog) : Glob w := by
  have h0 := laidMet_of_H (by kernel_rfl) hL
  refine ⟨⟨?_, ?_⟩, ?_, (tabs_came hL hsh).2⟩
  · exact err_var (laid_tail (laid_tail (laid_tail (laid_tail (laid_tail h0))))) (g := 6) (ti := 34) (tp := 319) (te := 321) (by kernel_rfl) (by kernel_rfl) Tryz.underlying34 row_err Tryz.underlying319 Tryz.underlying321 rfl rfl (by kernel_rfl)
  · exact err_var (laid_tail (laid_tail (laid_tail (laid_tail h0)))) (g := 7) (ti := 34) (tp := 319) (te := 321) (by kernel_rfl) (by kernel_rfl) Tryz.underlying34 row_err Tryz.underlying319 Tryz.underlying321 rfl rfl (by kernel_rfl)
  · exact utf8Tabs_of_readsT (U8Types.of196 Tryz.lays196) ⟨by kernel_rfl, by kernel_rfl, by kernel_rfl, by kernel_rfl, by kernel_rfl, by kernel_rfl, by kernel_rfl⟩ (Lib.laidMet.reads h0 (.tail _ (.tail _ (.tail _ (.tail _ (.tail _ (.tail _ (.head _)))))))) (Lib.laidMet.reads h0 (.tail _ (.tail _ (.tail _ (.head _)))))
end Go.Proofs.YtgjaajgdiggbeaaGreatDoor
