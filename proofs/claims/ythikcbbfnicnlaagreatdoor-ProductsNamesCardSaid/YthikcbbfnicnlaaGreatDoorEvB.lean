/- The evaluator: copying, building, maps, strings, calls: all operations. -/
import Derived.Test.YthikcbbfnicnlaaGreatDoorEvA
import Derived.Lib.UnsafeStr
import Derived.MapKept
namespace Go.Proofs.YthikcbbfnicnlaaGreatDoor.Ev
open Go
set_option linter.unusedVariables false
set_option linter.unusedSimpArgs false

section
variable {E : En} {ι : Ren} {H : AH} {w : World} {ntm : Nat} {T : Tr Value} {tmps : Array Value}
theorem minN_eq (a b : Nat) : minN a b = Nat.min a b := by
  unfold minN
  show _ = min a b
  cases h : Nat.ble a b with
  | true => have := ble_iff.1 h; rw [bi_true]; omega
  | false => have := ble_false.1 h; rw [bi_false]; omega
theorem VRs.get0 {args args' : List Value} {n : Nat} {v : Value} (h : VRs ι args args') (hv : getL args n = some v) : ∃ v', (⟨args'⟩ : Array Value)[n]? = some v' ∧ VR ι v v' := by
  rw [getL_eq] at hv
  obtain ⟨v', h1, h2⟩ := h.get hv
  exact ⟨v', by simpa using h1, h2⟩
theorem get0_ts {ts : List TypeId} {n : Nat} {t : TypeId} (h : getL ts n = some t) : (⟨ts⟩ : Array TypeId)[n]? = some t := by
  rw [getL_eq] at h; simpa using h
theorem copyA_ok (cx : Cx E ι H w ntm T tmps) {ts : List TypeId} {args args' : List Value} {ty : TypeId} {v : Value} {H' : AH} (h : copyA E.P H ts args = some (v, H')) (hargs : VRs ι args args') : VOk E ι H w (Builtin.copy_ ⟨ts⟩ ty ⟨args'⟩) v H' := by
  obtain ⟨dt, hdt, k1⟩ := ob_some.1 h
  obtain ⟨d0, hd0, k2⟩ := ob_some.1 k1
  obtain ⟨x, hx, k3⟩ := ob_some.1 k2
  obtain ⟨el, hel, k4⟩ := ob_some.1 k3
  obtain ⟨q, hq, k5⟩ := ob_some.1 k4
  obtain ⟨n, hn, k6⟩ := ob_some.1 k5
  obtain ⟨sl, hsl, k7⟩ := ob_some.1 k6
  obtain ⟨l, hl, k8⟩ := ob_some.1 k7
  obtain ⟨d1, hd1, rd⟩ := hargs.get0 hd0
  obtain ⟨x1, hx1, rx⟩ := hargs.get0 hx
  have ht := undSl_some hel
  obtain ⟨i, hi, rfl⟩ := sizeA_some hn
  have := vSl_some hq; subst this
  have hm : minN sl q.2.1 ≤ sl ∧ minN sl q.2.1 ≤ q.2.1 := by rw [minN_eq]; exact ⟨Nat.min_le_left _ _, Nat.min_le_right _ _⟩
  obtain ⟨l', g1, g2⟩ := firstA_ok (P := E.P) cx.hr hl rx (lenA_le hsl hm.1)
  have gl := lenA_ok (P := E.P) hsl rx w
  have hts := get0_ts hdt
  intro hfr
  rcases oc_some.1 k8 with ⟨e0, k9⟩ | ⟨a, ha, k9⟩
  · cases k9
    rw [e0] at rd
    rcases rd.sl_inv with ⟨-, rfl⟩ | ⟨b, o, b', o', c', e2, -⟩
    · refine ⟨ι, w, _, Go.refl cx.hr cx.bnd, .int _ _, ?_⟩
      rw [minN_eq] at g2 ⊢
      simp only [Builtin.copy_, hts, hd1, hx1, Sem.run_bind, run_underlying ht, Result.andThen_ok, gl, r_size hi, g2, Sem.run_pure]
      rfl
    · cases e2
  · obtain ⟨p, hp, k10⟩ := ob_some.1 k9
    obtain ⟨c, hc, k11⟩ := ob_some.1 k10
    obtain ⟨H1, hH1, k12⟩ := ob_some.1 k11
    cases k12
    have e1 := place_some hp
    rw [ha, e1] at rd
    obtain ⟨g, d, hg, -⟩ := cx.hr.blk _ _ (AH.cells_some hc)
    obtain ⟨w', f1, f2⟩ := writeB_ok (P := E.P) cx.hr cx.bnd hc hg hH1 g1
    rcases rd.sl_inv with ⟨h0, -⟩ | ⟨b, o, b', o', c', e2, rfl, hlc, hcc, had⟩
    · cases h0
    · cases e2
      have hst : (storeCells ⟨b', o', none⟩ l').run E.P w = .ok () w' := by
        rcases had with h0 | ⟨d', h1, h2⟩
        · have hn0 : minN sl q.2.1 = 0 := by omega
          have hl0 : l' = [] := by
            have hfl : l = [] := by
              rw [hn0] at hl
              rcases oc_some.1 hl with ⟨-, hl⟩ | ⟨s, hs, hl⟩
              · obtain ⟨qq, hqq, hl⟩ := ob_some.1 hl
                rcases oc_some.1 hl with ⟨-, hl⟩ | ⟨aa, -, hl⟩
                · cases hl; rfl
                · obtain ⟨pp, -, hl⟩ := ob_some.1 hl
                  obtain ⟨ccc, -, hl⟩ := ob_some.1 hl
                  obtain ⟨-, hl⟩ := bi_none.1 hl
                  rw [Nat.zero_mul] at hl
                  cases (show some [] = some l from hl); rfl
              · cases hl; rfl
            rw [hfl] at g1
            exact g1.nil_inv
          subst hl0
          have : w' = w := by
            have f1 : Result.ok () w = Result.ok () w' := f1
            cases f1; rfl
          subst this
          rfl
        · rw [hg] at h1
          cases h1
          rw [h2]
          exact f1
      refine ⟨ι, w', _, f2, .int _ _, ?_⟩
      rw [minN_eq] at g2 ⊢
      simp only [Builtin.copy_, hts, hd1, hx1, Sem.run_bind, run_underlying ht, Result.andThen_ok, gl, r_size hi, g2, hst, Sem.run_pure]
      rfl
theorem bLen_ok (cx : Cx E ι H w ntm T tmps) {ts : List TypeId} {args args' : List Value} {ty : TypeId} {v : Value} (h : bLen E.P ts args = some v) (hargs : VRs ι args args') : VOk E ι H w (Builtin.len_ ⟨ts⟩ ty ⟨args'⟩) v H := by
  obtain ⟨t, ht, k1⟩ := ob_some.1 h
  obtain ⟨x, hx, k2⟩ := ob_some.1 k1
  obtain ⟨x1, hx1, rx⟩ := hargs.get0 hx
  have hts := get0_ts ht
  rcases oc_some.1 k2 with ⟨-, k3⟩ | ⟨s, hs, k3⟩
  · obtain ⟨q, hq, k4⟩ := ob_some.1 k3
    obtain ⟨e, he, k5⟩ := ob_some.1 k4
    cases k5
    have := vSl_some hq; subst this
    have hu := undSl_some he
    refine VOk.pure cx (.int _ _) ?_
    rcases rx.sl_inv with ⟨-, rfl⟩ | ⟨b, o, b', o', c', -, rfl, -⟩ <;>
    · simp only [Builtin.len_, hts, hx1, Sem.run_bind, run_underlying hu, Result.andThen_ok, Sem.run_pure]
      rfl
  · obtain ⟨k4, k5⟩ := bi_none.1 k3
    cases k5
    have := vStr_some hs; subst this
    have := rx.str_inv; subst this
    refine VOk.pure cx (.int _ _) ?_
    simp only [Builtin.len_, hts, hx1, Sem.run_bind, run_underlying (undStr_iff k4), Result.andThen_ok, Sem.run_pure, lenL_eq]
    rfl
theorem bCap_ok (cx : Cx E ι H w ntm T tmps) {ts : List TypeId} {args args' : List Value} {ty : TypeId} {v : Value} (h : bCap E.P ts args = some v) (hargs : VRs ι args args') : VOk E ι H w (Builtin.cap_ ⟨ts⟩ ty ⟨args'⟩) v H := by
  obtain ⟨t, ht, k1⟩ := ob_some.1 h
  obtain ⟨x, hx, k2⟩ := ob_some.1 k1
  obtain ⟨q, hq, k4⟩ := ob_some.1 k2
  obtain ⟨e, he, k5⟩ := ob_some.1 k4
  obtain ⟨k6, k7⟩ := bi_not.1 k5
  cases k7
  obtain ⟨x1, hx1, rx⟩ := hargs.get0 hx
  have hts := get0_ts ht
  have := vSl_some hq; subst this
  have hu := undSl_some he
  have hne := beq_false.1 k6
  refine VOk.pure cx (.int _ _) ?_
  rcases rx.sl_inv with ⟨-, rfl⟩ | ⟨b, o, b', o', c', -, rfl, -, hcc, -⟩
  · simp only [Builtin.cap_, hts, hx1, Sem.run_bind, run_underlying hu, Result.andThen_ok, Sem.run_pure]
    rfl
  · have : q.2.2 = c' := by
      rcases hcc with ⟨h, -⟩ | ⟨h, -⟩
      · exact h
      · exact absurd h hne
    rw [this]
    simp only [Builtin.cap_, hts, hx1, Sem.run_bind, run_underlying hu, Result.andThen_ok, Sem.run_pure]
    rfl
theorem bSliceData_ok (cx : Cx E ι H w ntm T tmps) {ts : Array TypeId} {args args' : List Value} {ty : TypeId} {v : Value} (h : bSliceData args = some v) (hargs : VRs ι args args') : VOk E ι H w (Builtin.unsafeSliceData_ ts ty ⟨args'⟩) v H := by
  obtain ⟨k0, k1⟩ := bi_none.1 h
  obtain ⟨x, hx, k2⟩ := ob_some.1 k1
  obtain ⟨q, hq, k3⟩ := ob_some.1 k2
  have k0 := beq_iff.1 k0
  rw [lenL_eq] at k0
  rw [getL_eq] at hx
  have ea : args = [x] := by
    match args, k0, hx with
    | [y], _, hx => simp at hx; rw [hx]
  subst ea
  obtain ⟨x1, rx, ea⟩ : ∃ x1, VR ι x x1 ∧ args' = [x1] := by
    cases hargs with
    | cons h1 h2 => cases h2; exact ⟨_, h1, rfl⟩
  subst ea
  have := vSl_some hq; subst this
  rcases oc_some.1 k3 with ⟨e0, k4⟩ | ⟨a, ha, k4⟩
  · cases k4
    rw [e0] at rx
    rcases rx.sl_inv with ⟨-, rfl⟩ | ⟨b, o, b', o', c', e2, -⟩
    · exact VOk.pure cx .ptr0 (Lib.run_unsafeSliceData_nil w _ _ _ _)
    · cases e2
  · obtain ⟨p, hp, k5⟩ := ob_some.1 k4
    obtain ⟨k6, k7⟩ := bi_none.1 k5
    cases k7
    have e1 := place_some hp
    rw [ha, e1] at rx
    rcases rx.sl_inv with ⟨h0, -⟩ | ⟨b, o, b', o', c', e2, rfl, hlc, hcc, had⟩
    · cases h0
    · cases e2
      have hc0 : c' ≠ 0 := by
        cases hb : Nat.beq q.2.2 openCap with
        | true => rw [hb, bi_true] at k6; have := blt_iff.1 k6; omega
        | false =>
          rw [hb, bi_false] at k6
          have := blt_iff.1 k6
          rcases hcc with ⟨h, -⟩ | ⟨h, -⟩
          · omega
          · exact absurd h (beq_false.1 hb)
      rcases had with h0 | ⟨d, h1, h2⟩
      · exact absurd h0 hc0
      · rw [h2]
        exact VOk.pure cx (.ptr _ _ _ _ h1) (Lib.run_unsafeSliceData_row w _ _ _ _ _ hc0)
/-! bytes -/
theorem byteV_some {v : Value} {b : UInt8} (h : byteV v = some b) : ∃ n : Nat, v = .int .u8 (n : Int) ∧ b = UInt8.ofNat n := by
  obtain ⟨p, hp, k1⟩ := ob_some.1 h
  obtain ⟨k2, k3⟩ := bi_none.1 k1
  obtain ⟨n, hn, k4⟩ := ob_some.1 k3
  cases k4
  rw [vInt_some hp, isU8_iff k2, iNat_some hn]
  exact ⟨n, rfl, rfl⟩
theorem bytesL_ok {l l' : List Value} {bs : List UInt8} (h : bytesL l = some bs) (hl : VRs ι l l') : l' = l ∧ ∃ ns : List Nat, l = ns.map (fun n => .int .u8 (n : Int)) ∧ bs = ns.map UInt8.ofNat := by
  induction hl generalizing bs with
  | nil =>
    cases (show some [] = some bs from h)
    exact ⟨rfl, [], rfl, rfl⟩
  | cons hx hr ih =>
    rename_i a b l m
    obtain ⟨v, hv, k1⟩ := ob_some.1 (show ob (byteV a) (fun v => ob (bytesL l) fun t => some (v :: t)) = some bs from h)
    obtain ⟨t, ht, k2⟩ := ob_some.1 k1
    cases k2
    obtain ⟨n, rfl, rfl⟩ := byteV_some hv
    obtain ⟨e, ns, h1, h2⟩ := ih ht
    rw [hx.int_inv, e]
    exact ⟨rfl, n :: ns, by rw [h1]; rfl, by rw [h2]; rfl⟩
theorem foldl_bytes : ∀ (ns : List Int) (r : ByteArray), ns.foldl (fun r n => r.push (UInt8.ofNat n.toNat)) r = ⟨r.data ++ (ns.map fun n => UInt8.ofNat n.toNat).toArray⟩
  | [], r => by simp
  | n :: ns, r => by rw [List.foldl_cons, foldl_bytes ns]; simp [ByteArray.push]
theorem convB_ok (cx : Cx E ι H w ntm T tmps) {src dst e : TypeId} {a a' : Value} {an : AN} {H' : AH} (hs : E.P.underlying src = some (.slice e)) (he : E.P.underlying e = some (.int .u8)) (hd : E.P.underlying dst = some .string) (h : convB H a = some (an, H')) (ra : VR ι a a') : OpOk E ι H w (do pure (.value (← convert src dst a'))) an H' := by
  obtain ⟨q, hq, k1⟩ := ob_some.1 h
  obtain ⟨l, hl, k2⟩ := ob_some.1 k1
  obtain ⟨bs, hb, k3⟩ := ob_some.1 k2
  cases k3
  have := vSl_some hq; subst this
  obtain ⟨l', g1, g2⟩ := firstA_ok (P := E.P) cx.hr hl ra (show lenLe q.2.1 (.slice q.1 q.2.1 q.2.2) from Nat.le_refl _)
  obtain ⟨rfl, ns, h1, h2⟩ := bytesL_ok hb g1
  refine (VOk.pure (v' := .string ⟨⟨bs⟩⟩) cx (.string _) ?_).op
  rcases ra.sl_inv with ⟨e0, rfl⟩ | ⟨b, o, b', o', c', -, rfl, -⟩
  · rw [run_convert_bytes_string w src dst e none _ _ hs he hd]
    have : l' = [] := by
      have g2 : Result.ok #[] w = Result.ok ⟨l'⟩ w := g2
      injection g2 with g2
      injection g2 with g2
      exact g2.symm
    rw [this] at h1
    have : ns = [] := by cases ns; rfl; cases h1
    rw [h2, this]
    rfl
  · rw [run_convert_bytes_string w src dst e _ _ _ hs he hd]
    have g2 : (loadCells ⟨b', o', none⟩ (q.2.1 * 1)).run E.P w = .ok ⟨l'⟩ w := g2
    rw [Nat.mul_one] at g2
    rw [run_bytesToString w ⟨b', o', none⟩ q.2.1 c' (ns.map fun (n : Nat) => (n : Int)) (by rw [g2, h1, List.map_map]; rfl), foldl_bytes]
    rw [h2, List.map_map]
    congr 2
    apply ByteArray.ext
    have e0 : ByteArray.empty.data = #[] := rfl
    apply Array.ext'
    simp [e0, Function.comp_def]
theorem convS_ok (cx : Cx E ι H w ntm T tmps) {src dst e : TypeId} {a a' : Value} {an : AN} {H' : AH} (hs : E.P.underlying src = some .string) (he : E.P.underlying e = some (.int .u8)) (hd : E.P.underlying dst = some (.slice e)) (hz : sizeIs E.P e 1 = true) (h : convS H e a = some (an, H')) (ra : VR ι a a') : OpOk E ι H w (do pure (.value (← convert src dst a'))) an H' := by
  obtain ⟨s, hs', k1⟩ := ob_some.1 h
  obtain ⟨k2, k3⟩ := bi_none.1 k1
  cases k3
  have := vStr_some hs'; subst this
  have := ra.str_inv; subst this
  have hlen : s.data.toList.length = s.size := rfl
  refine VOk.op fun hfr => ?_
  have hn : ι.f H.next = none := hfr _ (Nat.le_refl _) (Nat.lt_succ_self _)
  have hrun := run_bytes_of_string (P := E.P) w src dst e s hs hd he
  have hge : s.size ≤ grownCap w s.size 0 e := grownCap_ge w s.size 0 e
  have hsz : (bytesRow s (grownCap w s.size 0 e)).size = grownCap w s.size 0 e := by
    unfold bytesRow
    rw [Array.size_append, Array.size_map, Array.size_replicate]
    show s.size + _ = _
    omega
  have hze : ι.z e = 1 := sizeIs_iff hz cx.z
  rw [lenL_eq, hlen]
  have g := go_row (w := w.drew) (cx.hr.same rfl) cx.bnd hn ⟨e, lenL (takeB s.size s.data.toList), 0, false, [], Tr.ofList (takeB s.size s.data.toList)⟩ (bytesRow s (grownCap w s.size 0 e)) ((bytesRow s (grownCap w s.size 0 e)).size, (bytesRow s (grownCap w s.size 0 e)).size + 1) rfl
    (by show lenL (takeB s.size s.data.toList) ≤ _; rw [lenL_eq, takeB_eq, hsz]; simp; omega)
    (fun i v hi hv => by
      have hi : i < lenL (takeB s.size s.data.toList) := hi
      rw [lenL_eq] at hi
      have hx := cell_ofList hi hv
      rw [takeB_eq] at hx hi
      rw [List.take_of_length_le (Nat.le_of_eq hlen)] at hx hi
      rw [List.length_map] at hi
      refine ⟨v, ?_, ?_⟩
      · unfold bytesRow
        rw [Array.getElem?_append_left (by rw [Array.size_map]; exact hi), Array.getElem?_map]
        rw [List.getElem?_map] at hx
        simpa using hx
      · rw [List.getElem?_map] at hx
        cases hb : s.data.toList[i]? with
        | none => rw [hb] at hx; cases hx
        | some b => rw [hb] at hx; cases hx; exact .int _ _)
    (fun j h1 h2 _ => by omega) (fun h => absurd rfl h)
  refine ⟨_, _, _, (Go.drew cx.hr cx.bnd).trans cx.hr g, .sl _ _ _ _ _ _ _ hge (.inr ⟨rfl, .inr ⟨_, _, updA_s _ _ _ _, ?_⟩⟩) (.inr ⟨0, updA_same _ _ _ _, rfl⟩), hrun⟩
  show 0 + grownCap w s.size 0 e * ι.z e ≤ _
  rw [hze, hsz]; omega
theorem freeze_at {w : World} {g : Nat} {cs : Array Value} {e : TypeId} (h : w.heap[g]? = some (.cells cs e (0, 0))) (n : Nat) : Wr g w (w.freeze ⟨g, n, none⟩ 1) ∧ (w.freeze ⟨g, n, none⟩ 1).heap[g]? = some (.cells cs e (n, n + 1)) := by
  unfold World.freeze
  rw [if_neg (by omega)]
  refine ⟨⟨rfl, rfl, rfl, by simp, fun k hk => by simp [Array.getElem?_modify, Ne.symm hk]⟩, ?_⟩
  simp [Array.getElem?_modify, h]
theorem convM_ok (cx : Cx E ι H w ntm T tmps) {s e : TypeId} (hs : E.P.underlying s = some (.slice e)) {a u : Value} {an : AN} {H' : AH} (h : convM E.P H e a = some (an, H')) (ra : VR ι a u) : OpOk E ι H w (do pure (.value (← convert s s u))) an H' := by
  obtain ⟨k1, k2⟩ := bi_none.1 h
  obtain ⟨q, hq, k3⟩ := ob_some.1 k2
  obtain ⟨ad, had, k4⟩ := ob_some.1 k3
  obtain ⟨p, hp, k5⟩ := ob_some.1 k4
  obtain ⟨c, hc, k6⟩ := ob_some.1 k5
  obtain ⟨k7, k8⟩ := bi_none.1 k6
  cases k8
  obtain ⟨k9, k10⟩ := ba_iff.1 k7
  obtain ⟨k11, k12⟩ := ba_iff.1 k10
  have k9 := blt_iff.1 k9
  have k12 : c.ro = false := by simpa using k12
  have k11 : c.dflt ≠ [] := by
    intro e
    rw [nilL_iff.2 e] at k11
    exact Bool.noConfusion k11
  have := vSl_some hq; subst this
  have := place_some hp
  subst this
  have hu8 := undU8_iff k1
  rcases ra.sl_inv with ⟨e0, -⟩ | ⟨b, o, b', o', c', e0, rfl, hl, hcc, ha⟩
  · rw [e0] at had; cases had
  · rw [e0] at had
    cases had
    have ra' := ra
    rcases ha with h0 | ⟨d, h2, h3⟩
    · omega
    · obtain ⟨cs, f, h4, h5, h6⟩ := cx.hr.cells hc h2
      obtain ⟨hd, hsz, hf⟩ := h5.ex k11
      have hf := hf k12
      subst hd hf
      obtain ⟨g1, g2⟩ := freeze_at h4 cs.size
      refine fun _ => ⟨ι, w.freeze ⟨b', cs.size, none⟩ 1, ?_, _, ra', .inl ?_⟩
      · rw [AH.put_get]
        refine Go.write cx.hr cx.bnd (AH.cells_some hc) k12 h2 g1 ⟨cs, (cs.size, cs.size + 1), g2, ⟨h5.size, fun i v hi hv => ?_, fun _ j h7 h8 _ => absurd (show cs.size ≤ j from h8) (by omega), fun h => absurd rfl h⟩, h6⟩
        have hv : oc (c.t.get i) (getL ([] : List Value) (i % lenL ([] : List Value))) (fun v => some v) = some v := hv
        refine h5.cell i v hi ?_
        cases hx : c.t.get i with
        | none => rw [hx, getL_eq] at hv; simp [oc] at hv
        | some x =>
          rw [hx] at hv
          show oc (c.t.get i) (getL c.dflt (i % lenL c.dflt)) (fun v => some v) = some v
          rw [hx]; exact hv
      · have hsh : w.shape? b' = some (c.elem, cs.size) := by simp [World.shape?, h4]
        have hmk : (markStringish ⟨b', o', none⟩).run E.P w = .ok () (w.freeze ⟨b', cs.size, none⟩ 1) := by
          simp [markStringish, shape, freeze, Sem.run, hsh]
        unfold convert
        simp only [Sem.run_bind, run_underlying hs, Result.andThen_ok, beq_self_eq_true, run_underlying hu8, hmk, Sem.run_pure]
theorem ok_convert (cx : Cx E ι H w ntm T tmps) (o : Oper) (s d : TypeId) (x : Operand) (ho : o.op = .convert s d x) {an : AN} {H' : AH} (h : aConvert s d x E o.type T H = some (an, H')) : OpOk E ι H w (execOp (rho tmps) o) an H' := by
  obtain ⟨a, ha, k1⟩ := ob_some.1 h
  have ra := opd_ok cx ha
  have key : OpOk E ι H w (do pure (.value (← convert s d (rho tmps x)))) an H' := by
    rcases oc_some.1 k1 with ⟨-, k2⟩ | ⟨e, he, k2⟩
    · rcases oc_some.1 k2 with ⟨-, k3⟩ | ⟨e, he, k3⟩
      · obtain ⟨k4, k5⟩ := bi_none.1 k3
        obtain ⟨v, hv, rfl, rfl⟩ := val_some k5
        have := plain_eq k4 ra
        rw [← this]
        exact (pval_ok cx hv).op
      · obtain ⟨k4, k5⟩ := bi_none.1 k3
        obtain ⟨k6, k7⟩ := ba_iff.1 k4
        obtain ⟨k7, k8⟩ := ba_iff.1 k7
        exact convS_ok cx (undStr_iff k6) (undU8_iff k7) (undSl_some he) k8 k5 ra
    · rcases bi_or.1 k2 with ⟨kb, k3⟩ | ⟨-, k2⟩
      · have kb := beq_iff.1 kb
        subst kb
        exact convM_ok cx (undSl_some he) k3 ra
      obtain ⟨k4, k5⟩ := bi_none.1 k2
      obtain ⟨k6, k7⟩ := ba_iff.1 k4
      exact convB_ok cx (undSl_some he) (undU8_iff k7) (undStr_iff k6) k5 ra
  simpa only [execOp, ho] using key
end
end Go.Proofs.YthikcbbfnicnlaaGreatDoor.Ev
namespace Go.Proofs.YthikcbbfnicnlaaGreatDoor.Ev
open Go
set_option linter.unusedVariables false
set_option linter.unusedSimpArgs false

section
variable {E : En} {ι : Ren} {H : AH} {w : World} {ntm : Nat} {T : Tr Value} {tmps : Array Value}
/-! built values -/
theorem setLs_VR : ∀ {vs vs' : List Value}, VRs ι vs vs' → ∀ {cs cs' : List Value} (o : Nat), VRs ι cs cs' → VRs ι (setLs vs cs o) (setLs vs' cs' o) := by
  intro vs vs' h
  induction h with
  | nil => intro cs cs' o hc; exact hc
  | cons hx hr ih =>
    intro cs cs' o hc
    rw [setLs_cons, setLs_cons]
    exact ih _ (hc.set hx o)
theorem setLs_length : ∀ (vs cs : List Value) (o : Nat), (setLs vs cs o).length = cs.length
  | [], cs, o => rfl
  | v :: r, cs, o => by rw [setLs_cons, setLs_length r]; simp
theorem fold_set (o : Nat) : ∀ (vs : List Value) (k : Nat) (arr : Array Value), (vs.zipIdx k).foldl (fun (cs : Array Value) (x : Value × Nat) => cs.setIfInBounds (o + x.2) x.1) arr = ⟨setLs vs arr.toList (o + k)⟩
  | [], k, arr => rfl
  | v :: r, k, arr => by
    rw [List.zipIdx_cons, List.foldl_cons, fold_set o r (k + 1), setLs_cons, Array.toList_setIfInBounds]
    rfl
theorem fillL_ok (place : Nat → Option (Nat × Nat)) : ∀ {ps ps' : List (Nat × Value)}, L2 (fun (a b : Nat × Value) => a.1 = b.1 ∧ VR ι a.2 b.2) ps ps' → ∀ {cs cs' l : List Value}, VRs ι cs cs' → fillL place ps cs = some l → ∃ l', VRs ι l l' ∧ Instr.fill place ⟨cs'⟩ ps' = some ⟨l'⟩ := by
  intro ps ps' hp
  induction hp with
  | nil =>
    intro cs cs' l hc h
    cases (show some cs = some l from h)
    exact ⟨cs', hc, rfl⟩
  | cons hx hr ih =>
    intro cs cs' l hc h
    rename_i a b ps ps'
    obtain ⟨q, hq, k1⟩ := ob_some.1 (show ob (place a.1) (fun q => bi (ba (Nat.beq (lenL (cellsV a.2)) q.2) (Nat.ble (q.1 + q.2) (lenL cs))) (fillL place ps (setLs (cellsV a.2) cs q.1)) none) = some l from h)
    obtain ⟨k2, k3⟩ := bi_none.1 k1
    obtain ⟨k4, k5⟩ := ba_iff.1 k2
    have k4 := beq_iff.1 k4
    have k5 := ble_iff.1 k5
    rw [lenL_eq] at k4 k5
    obtain ⟨bi_, bv⟩ := b
    obtain ⟨e1, rv⟩ := hx
    dsimp only at e1 rv
    have rc := rv.cells
    obtain ⟨l', g1, g2⟩ := ih (setLs_VR rc q.1 hc) k3
    refine ⟨l', g1, ?_⟩
    have hl := rc.length
    rw [k4] at hl
    have hl2 : bv.cells.size = q.2 := by simpa using hl.symm
    have hl3 := hc.length
    obtain ⟨q1, q2⟩ := q
    dsimp only at *
    subst e1
    have hcond : (decide (bv.cells.size ≠ q2) || decide (q1 + bv.cells.size > (⟨cs'⟩ : Array Value).size)) = false := by
      rw [hl2]
      have : ¬ (q1 + q2 > cs'.length) := by omega
      simp [this]
    simp only [Instr.fill, hq, hcond, Bool.false_eq_true, if_false]
    rw [← Array.foldl_toList, Array.toList_zipIdx]
    have := fold_set q1 bv.cells.toList 0 ⟨cs'⟩
    rw [Nat.add_zero] at this
    rw [show (List.foldl (fun cs (x : Value × Nat) => match x with | (c, j) => cs.setIfInBounds (q1 + j) c) ({ toList := cs' } : Array Value) bv.cells.toList.zipIdx) = _ from this]
    exact g2
theorem run_mapM {P : Program} {α β : Type} {f : α → Sem β} {g : α → Option β} (hfg : ∀ x y, g x = some y → ∀ w, (f x).run P w = .ok y w) : ∀ (l : List α) (m : List β), mapO g l = some m → ∀ w, (l.mapM f).run P w = .ok m w
  | [], m, h, w => by cases (show some [] = some m from h); simp [Sem.run_pure]
  | x :: r, m, h, w => by
    obtain ⟨v, hv, k1⟩ := ob_some.1 (show ob (g x) (fun v => ob (mapO g r) fun t => some (v :: t)) = some m from h)
    obtain ⟨t, ht, k2⟩ := ob_some.1 k1
    cases k2
    simp only [List.mapM_cons, Sem.run_bind, hfg x v hv, Result.andThen_ok, run_mapM hfg r t ht, Sem.run_pure]
theorem buildA_ok {t : TypeId} {ps ps' : List (Nat × Value)} {v : Value} (h : buildA E.P t ps = some v) (hp : L2 (fun (a b : Nat × Value) => a.1 = b.1 ∧ VR ι a.2 b.2) ps ps') (w : World) : ∃ v', VR ι v v' ∧ (Instr.build t ⟨ps'⟩).run E.P w = .ok v' w := by
  obtain ⟨z, hz, k1⟩ := ob_some.1 h
  obtain ⟨i, hi, hz1, hz2⟩ := zeroOf_some hz
  have hzc : VRs ι (cellsV z) z.cells.toList := (plain_self ι hz2).cells
  rcases oc_some.1 k1 with ⟨-, k2⟩ | ⟨fs, hfs, k2⟩
  · obtain ⟨p, hp2, k3⟩ := ob_some.1 k2
    obtain ⟨n, hn, k4⟩ := ob_some.1 k3
    obtain ⟨l, hl, k5⟩ := ob_some.1 k4
    cases k5
    obtain ⟨j, hj, rfl⟩ := sizeA_some hn
    obtain ⟨l', g1, g2⟩ := fillL_ok _ hp hzc hl
    refine ⟨_, VR.aggL g1, ?_⟩
    simp only [Instr.build, Sem.run_bind, r_zero hi hz1, Result.andThen_ok, run_underlying (undArr_some hp2), r_size hj]
    have g2' : Instr.fill (fun i => some (i * j.size, j.size)) z.cells ps' = some ⟨l'⟩ := g2
    simp only [g2', Sem.run_pure]
  · obtain ⟨pl, hpl, k3⟩ := ob_some.1 k2
    obtain ⟨l, hl, k5⟩ := ob_some.1 k3
    cases k5
    have hpf : (getL pl) = fun (i : Nat) => pl[i]? := by funext i; exact getL_eq pl i
    rw [hpf] at hl
    obtain ⟨l', g1, g2⟩ := fillL_ok _ hp hzc hl
    have hm := run_mapM (P := E.P) (f := fun (f : Field) => do pure (f.offset, ← sizeOf f.type)) (g := fun (f : Field) => ob (sizeA E.P f.type) fun n => some (f.offset, n)) (fun x y hxy w => by
      obtain ⟨n, hn, e⟩ := ob_some.1 hxy
      cases e
      obtain ⟨j, hj, rfl⟩ := sizeA_some hn
      simp only [Sem.run_bind, r_size hj, Result.andThen_ok, Sem.run_pure]) fs pl hpl
    refine ⟨_, VR.aggL g1, ?_⟩
    have hma : ∀ w, ((⟨fs⟩ : Array Field).mapM fun (f : Field) => do pure (f.offset, ← sizeOf f.type)).run E.P w = .ok ⟨pl⟩ w := by
      intro w
      rw [List.mapM_toArray, Sem.run_map, hm w]; rfl
    have g2' : Instr.fill (fun i => (⟨pl⟩ : Array (Nat × Nat))[i]?) z.cells ps' = some ⟨l'⟩ := by
      have : (fun (i : Nat) => (⟨pl⟩ : Array (Nat × Nat))[i]?) = fun (i : Nat) => pl[i]? := by funext i; simp
      rw [this]; exact g2
    simp only [Instr.build, Sem.run_bind, r_zero hi hz1, Result.andThen_ok, run_underlying (undStruct_some hfs), hma, g2', Sem.run_pure]
theorem parts_eq (ps : Array (Nat × Operand)) (ρ : Operand → Value) : (ps.map fun (x : Nat × Operand) => match x with | (i, x) => (i, ρ x)) = ⟨ps.toList.map fun x => (x.1, ρ x.2)⟩ := by
  apply Array.ext'
  rw [Array.toList_map]
theorem ok_build (cx : Cx E ι H w ntm T tmps) (o : Oper) (t : TypeId) (ps : Array (Nat × Operand)) (ho : o.op = .build t ps) {an : AN} {H' : AH} (h : aBuild t ps E o.type T H = some (an, H')) : OpOk E ι H w (execOp (rho tmps) o) an H' := by
  obtain ⟨l, hl, k1⟩ := ob_some.1 h
  obtain ⟨v, hv, rfl, rfl⟩ := val_some k1
  obtain ⟨v', h1, h2⟩ := buildA_ok (E := E) hv (opdsP_ok cx hl) w
  have := (VOk.pure cx h1 h2).op
  simpa only [execOp, ho, parts_eq] using this
theorem ok_buildSlice (cx : Cx E ι H w ntm T tmps) (o : Oper) (t : TypeId) (len : Nat) (ps : Array (Nat × Operand)) (ho : o.op = .buildSlice t len ps) {an : AN} {H' : AH} (h : aBuildSlice t len ps E o.type T H = some (an, H')) : OpOk E ι H w (execOp (rho tmps) o) an H' := by
  obtain ⟨el, hel, k1⟩ := ob_some.1 h
  obtain ⟨l, hl, k2⟩ := ob_some.1 k1
  obtain ⟨n, hn, k3⟩ := ob_some.1 k2
  obtain ⟨z, hz, k4⟩ := ob_some.1 k3
  obtain ⟨k5, k6⟩ := bi_none.1 k4
  obtain ⟨cs, hcs, k7⟩ := ob_some.1 k6
  cases k7
  obtain ⟨b1, k5⟩ := ba_iff.1 k5
  obtain ⟨b2, b3⟩ := ba_iff.1 k5
  have b1 := ble_iff.1 b1
  have b2 := beq_iff.1 b2
  have b3 := blt_iff.1 b3
  rw [lenL_eq] at b2
  obtain ⟨i, hi, hz1, hz2⟩ := zeroOf_some hz
  obtain ⟨j, hj, rfl⟩ := sizeA_some hn
  rw [hi] at hj; cases hj
  have hzc : VRs ι (cellsV z) z.cells.toList := (plain_self ι hz2).cells
  have hzs : z.cells.size = i.size := by rw [cellsV_eq] at b2; simpa using b2
  obtain ⟨l', g1, g2⟩ := fillL_ok _ (opdsP_ok cx hl) (hzc.rep len) hcs
  have hlen : len < openCap := by
    have : len * 1 ≤ len * i.size := Nat.mul_le_mul_left _ b3
    unfold openCap; omega
  have hrow : ((Array.range (len * i.size)).map (fun k => z.cells[k % z.cells.size]!)) = ⟨repL len z.cells.toList⟩ := by
    have := zeroCells_eq z len (by omega)
    unfold Builtin.zeroCells at this
    rw [← hzs]
    exact this
  have : VOk E ι H w (Instr.buildSlice t len (ps.map fun (x : Nat × Operand) => match x with | (i, x) => (i, rho tmps x))) (newSl H len len) (newExact H el cs) := by
    refine VOk.newExact cx g1 (v' := .slice (some ⟨w.heap.size, 0, none⟩) len len) ?_ fun ι' h => VR.newSl h (Nat.le_refl _) (.inl ⟨rfl, by omega⟩)
    rw [parts_eq]
    have hno : ¬ (len * i.size > 2 ^ 24) := by omega
    by_cases h0 : len * i.size = 0
    · have hl0 : len = 0 := by rcases Nat.eq_zero_or_pos len with h | h; exact h; have := Nat.mul_pos h b3; omega
      subst hl0
      have g2' : Instr.fill (fun k => some (k * i.size, i.size)) (#[] : Array Value) (ps.toList.map fun x => (x.1, rho tmps x.2)) = some ⟨l'⟩ := g2
      have hno0 : ¬ (0 > 2 ^ 24) := by omega
      have hr0 : ∀ z : Array Value, Array.map (fun x => z[x % z.size]!) (Array.range 0) = #[] := fun z => by simp
      simp only [Instr.buildSlice, Sem.run_bind, run_underlying (undSl_some hel), Result.andThen_ok, r_size hi, h0, if_neg hno0, if_true, Sem.run_pure, hr0, g2', r_newRow]
    · have g2' : Instr.fill (fun k => some (k * i.size, i.size)) (⟨repL len z.cells.toList⟩ : Array Value) (ps.toList.map fun x => (x.1, rho tmps x.2)) = some ⟨l'⟩ := g2
      simp only [Instr.buildSlice, Sem.run_bind, run_underlying (undSl_some hel), Result.andThen_ok, r_size hi, if_neg hno, h0, if_false, r_zero hi hz1, Sem.run_pure, hrow, g2', r_newRow]
  have := this.op
  simpa only [execOp, ho] using this
end
end Go.Proofs.YthikcbbfnicnlaaGreatDoor.Ev
namespace Go.Proofs.YthikcbbfnicnlaaGreatDoor.Ev
open Go
set_option linter.unusedVariables false
set_option linter.unusedSimpArgs false

section
variable {E : En} {ι : Ren} {H : AH} {w : World} {ntm : Nat} {T : Tr Value} {tmps : Array Value}
theorem wr_putObj {w : World} {c : Nat} {o : Obj} : Wr c w (w.putObj c o) := ⟨rfl, rfl, rfl, by simp, fun k hk => World.putObj_heap_other hk⟩
theorem ok_makeMap (cx : Cx E ι H w ntm T tmps) (o : Oper) (t : TypeId) (r : Option Operand) (ho : o.op = .makeMap t r) {an : AN} {H' : AH} (h : aMakeMap r E o.type T H = some (an, H')) : OpOk E ι H w (execOp (rho tmps) o) an H' := by
  obtain ⟨k1, k2⟩ := bi_none.1 h
  cases k2
  have := non_iff.1 k1
  subst this
  have : VOk E ι H w (Instr.makeMap t ((none : Option Operand).map (rho tmps))) (.map (some H.next)) (H.new (.map [] 0)) := fun hfr => by
    have hn : ι.f H.next = none := hfr _ (Nat.le_refl _) (Nat.lt_succ_self _)
    have g := Go.alloc (p := none) cx.hr cx.bnd hn (.map [] 0) (.map #[] 0) ⟨rfl, #[], heap_alloc_new _ _, .nil⟩
    rw [← AH.new_get] at g
    exact ⟨_, _, .map (some w.heap.size), g, .map _ _ (updA_same _ _ _ _), rfl⟩
  have := this.op
  simpa only [execOp, ho] using this
theorem tKey_cases {d : TypeDesc} {k : Nat} (h : tKey d = some k) : (k = 0 ∧ ∃ q, d = .int q) ∨ (k = 1 ∧ d = .string) ∨ (k = 2 ∧ d = .bool) := by
  cases d <;> first | exact nomatch (show (none : Option Nat) = some k from h) | (cases (show some _ = some k from h); simp)
theorem keyTag_cases {v : Value} {k : Nat} (h : keyTag v = some k) : (k = 0 ∧ ∃ q n, v = .int q n) ∨ (k = 1 ∧ ∃ s, v = .string s) ∨ (k = 2 ∧ ∃ b, v = .bool b) := by
  cases v <;> first | exact nomatch (show (none : Option Nat) = some k from h) | (cases (show some _ = some k from h); simp)
theorem bytesEq_eq (a b : ByteArray) : bytesEq a.data.toList b.data.toList = (a == b) := by
  unfold bytesEq
  rw [Bool.eq_iff_iff, beq_iff_eq, MapKept.bytes_beq]
  constructor
  · intro h; apply ByteArray.ext; apply Array.ext'; exact h
  · intro h; rw [h]
theorem sameKey_ok {d : TypeDesc} {k a a' : Value} {t : Nat} {s : Bool} (hd : tKey d = some t) (hk : keyTag k = some t) (h : sameKey k a = some s) (ha : VR ι a a') : a' = a ∧ Instr.sameNow d k a' = some s ∧ (s = true → a' = k) := by
  rcases keyTag_cases hk with ⟨rfl, q, n, rfl⟩ | ⟨rfl, x, rfl⟩ | ⟨rfl, b, rfl⟩ <;> rcases tKey_cases hd with ⟨h0, e⟩ | ⟨h0, e⟩ | ⟨h0, e⟩ <;> first | (exact absurd h0 (by decide)) | skip
  · obtain ⟨q', rfl⟩ := e
    obtain ⟨p, hp, k1⟩ := ob_some.1 (show ob (vInt a) (fun p => bi (ikeq q p.1) (some (ibeq n p.2)) none) = some s from h)
    obtain ⟨k2, k3⟩ := bi_none.1 k1
    cases k3
    have := vInt_some hp; subst this
    have := ikeq_iff k2
    subst this
    have := ha.int_inv
    subst this
    refine ⟨rfl, ?_, fun e => ?_⟩
    · simp [Instr.sameNow, ibeq_eq]
    · rw [ibeq_eq, beq_iff_eq] at e; rw [e]
  · subst e
    obtain ⟨y, hy, k1⟩ := ob_some.1 (show ob (vStr a) (fun t => some (bytesEq x.data.toList t.data.toList)) = some s from h)
    cases k1
    have := vStr_some hy; subst this
    have := ha.str_inv
    subst this
    refine ⟨rfl, ?_, fun e => ?_⟩
    · rw [bytesEq_eq]; rfl
    · rw [bytesEq_eq, MapKept.bytes_beq] at e; rw [e]
  · subst e
    obtain ⟨y, hy, k1⟩ := ob_some.1 (show ob (vBool a) (fun q => some (b == q)) = some s from h)
    cases k1
    have := vBool_some hy; subst this
    have := ha.bool_inv
    subst this
    refine ⟨rfl, rfl, fun e => ?_⟩
    rw [beq_iff_eq] at e; rw [e]
theorem findE_ok {d : TypeDesc} {k : Value} {t : Nat} (hd : tKey d = some t) (hk : keyTag k = some t) : ∀ {es : List (Value × Value × Nat)} {es' : List MapEntry}, L2 (ER ι) es es' → ∀ {i : Nat} {f : Option (Nat × Value)}, findE k es i = some f →
    (f = none ∧ Instr.findNow d k es' i = some none) ∨ ∃ j v v', f = some (i + j, v) ∧ VR ι v v' ∧ Instr.findNow d k es' i = some (some (i + j, v')) ∧ j < es.length ∧ ∃ e', es'[j]? = some e' ∧ e'.key = k := by
  intro es es' h
  induction h with
  | nil =>
    intro i f hf
    cases (show some none = some f from hf)
    exact .inl ⟨rfl, rfl⟩
  | cons hx hr ih =>
    intro i f hf
    rename_i a b l m
    obtain ⟨s, hs, k1⟩ := ob_some.1 (show ob (sameKey k a.1) (fun s => bi s (some (some (i, a.2.1))) (findE k l (i + 1))) = some f from hf)
    obtain ⟨e1, e2, e3⟩ := sameKey_ok hd hk hs hx.1
    cases s with
    | true =>
      cases (show some (some (i, a.2.1)) = some f from k1)
      exact .inr ⟨0, _, _, rfl, hx.2.1, by simp only [Instr.findNow, e2]; rfl, by simp, b, rfl, e3 rfl⟩
    | false =>
      rcases ih k1 with ⟨rfl, h2⟩ | ⟨j, v, v', rfl, h2, h3, h4, e', h5, h6⟩
      · exact .inl ⟨rfl, by simp only [Instr.findNow, e2]; exact h2⟩
      · exact .inr ⟨j + 1, v, v', by rw [show i + 1 + j = i + (j + 1) by omega], h2, by simp only [Instr.findNow, e2]; rw [show i + (j + 1) = i + 1 + j by omega]; exact h3, by simp; omega, e', by simpa using h5, h6⟩
theorem r_checkKey {P : Program} {kt : TypeId} {d : TypeDesc} {k : Value} {t : Nat} (hu : P.underlying kt = some d) (hd : tKey d = some t) (hk : keyTag k = some t) (e : Bool) (w : World) : (Instr.checkKey e 10000 kt k).run P w = .ok () w := by
  rw [show (10000 : Nat) = 9999 + 1 from rfl]
  generalize 9999 = N
  unfold Instr.checkKey
  rw [Sem.run_bind, run_underlying hu, Result.andThen_ok]
  rcases keyTag_cases hk with ⟨rfl, q, n, rfl⟩ | ⟨rfl, x, rfl⟩ | ⟨rfl, b, rfl⟩ <;> rcases tKey_cases hd with ⟨h0, e⟩ | ⟨h0, e⟩ | ⟨h0, e⟩ <;> first | (exact absurd h0 (by decide)) | (obtain ⟨q', rfl⟩ := e; rfl) | (subst e; rfl)
theorem r_stays {P : Program} {k : Value} {t : Nat} (hk : keyTag k = some t) (w : World) : (Instr.keyThatStays k k).run P w = .ok k w := by
  unfold Instr.keyThatStays
  have : Instr.sameBits 10000 k k = true := by
    rcases keyTag_cases hk with ⟨rfl, q, n, rfl⟩ | ⟨rfl, x, rfl⟩ | ⟨rfl, b, rfl⟩ <;> simp [Instr.sameBits, MapKept.bytes_beq]
  simp only [this, if_true, Sem.run_pure]
theorem undKey_some {P : Program} {t : TypeId} {k : Nat} (h : undKey P t = some k) : ∃ d, P.underlying t = some d ∧ tKey d = some k := ob_some.1 h
theorem keyTag_VR {k k' : Value} {t : Nat} (hk : keyTag k = some t) (h : VR ι k k') : k' = k := by
  rcases keyTag_cases hk with ⟨rfl, q, n, rfl⟩ | ⟨rfl, x, rfl⟩ | ⟨rfl, b, rfl⟩
  · exact h.int_inv
  · exact h.str_inv
  · exact h.bool_inv
theorem VR.map_inv {m : Option Nat} {v : Value} (h : VR ι (.map m) v) : (m = none ∧ v = .map none) ∨ ∃ r c, m = some r ∧ v = .map (some c) ∧ ι.f r = some (c, 0) := by
  cases h with
  | map0 => exact .inl ⟨rfl, rfl⟩
  | map r c h => exact .inr ⟨r, c, rfl, rfl, h⟩
theorem r_lookup {P : Program} {t : TypeId} {ke : TypeId × TypeId} {x k z : Value} {c : Bool} {es : Array MapEntry} {f : Option (Nat × Value)} {w : World} (hm : P.underlying t = some (.map ke.1 ke.2))
    (hx : (x = .map none ∧ es = #[]) ∨ ∃ r clock, x = .map (some r) ∧ w.heap[r]? = some (.map es clock)) (hck : (Instr.checkKey es.isEmpty 10000 ke.1 k).run P w = .ok () w)
    (hf : (Instr.findKey ke.1 k es.toList).run P w = .ok f w) (hz : f = none → (zeroValue ke.2).run P w = .ok z w) :
    (Instr.lookup t x k c).run P w = .ok (bi c (.tuple #[(oc f z fun q => q.2), .bool (oc f false fun _ => true)]) (oc f z fun q => q.2)) w := by
  have h10 : (10000 : Nat) = 9999 + 1 := rfl
  unfold Instr.lookup
  rcases hx with ⟨rfl, rfl⟩ | ⟨r, clock, rfl, hb⟩
  · simp only [Sem.run_bind, run_underlying hm, Result.andThen_ok, pure_bind, hck, hf]
    cases f with
    | none => simp only [Sem.run_bind, hz rfl, Result.andThen_ok, Sem.run_pure]; cases c <;> rfl
    | some q => simp only [Sem.run_bind, Result.andThen_ok, Sem.run_pure]; cases c <;> rfl
  · simp only [Sem.run_bind, run_underlying hm, Result.andThen_ok, MapKept.run_getObj_map hb, hck, hf]
    cases f with
    | none => simp only [Sem.run_bind, hz rfl, Result.andThen_ok, Sem.run_pure, hck, hf]; cases c <;> rfl
    | some q => simp only [Sem.run_bind, Result.andThen_ok, Sem.run_pure, hck, hf]; cases c <;> rfl
theorem ok_lookup (cx : Cx E ι H w ntm T tmps) (o : Oper) (t : TypeId) (x ix : Operand) (c : Bool) (ho : o.op = .lookup t x ix c) {an : AN} {H' : AH} (h : aLookup t x ix c E o.type T H = some (an, H')) : OpOk E ι H w (execOp (rho tmps) o) an H' := by
  obtain ⟨ke, hke, k1⟩ := ob_some.1 h
  obtain ⟨kt, hkt, k2⟩ := ob_some.1 k1
  obtain ⟨v, hv, k3⟩ := ob_some.1 k2
  obtain ⟨m, hm, k4⟩ := ob_some.1 k3
  obtain ⟨k, hk, k5⟩ := ob_some.1 k4
  obtain ⟨kt', hkt', k6⟩ := ob_some.1 k5
  obtain ⟨k7, k8⟩ := bi_none.1 k6
  obtain ⟨r, hr, k9⟩ := ob_some.1 k8
  cases k9
  have k7 := beq_iff.1 k7
  subst k7
  obtain ⟨es, hes, k10⟩ := ob_some.1 hr
  obtain ⟨f, hf, k11⟩ := ob_some.1 k10
  have := vMap_some hm; subst this
  have rm := opd_ok cx hv
  have rk := keyTag_VR hkt' (opd_ok cx hk)
  obtain ⟨d, hd, hd2⟩ := undKey_some hkt
  -- the entries
  obtain ⟨es', hl, hx⟩ : ∃ es' : Array MapEntry, L2 (ER ι) es es'.toList ∧ ((rho tmps x = .map none ∧ es' = #[]) ∨ ∃ r clock, rho tmps x = .map (some r) ∧ w.heap[r]? = some (.map es' clock)) := by
    rcases rm.map_inv with ⟨rfl, e⟩ | ⟨r0, c0, rfl, e, hc⟩
    · cases hes
      exact ⟨#[], .nil, .inl ⟨e, rfl⟩⟩
    · obtain ⟨q, hq, e2⟩ := ob_some.1 (show ob (H.map r0) (fun q => some q.1) = some es from hes)
      cases e2
      obtain ⟨c1, d1, h1, h2, es', h3, h4⟩ := cx.hr.blk _ _ (AH.map_some hq)
      rw [hc] at h1
      cases h1
      exact ⟨es', h4, .inr ⟨_, _, e, h3⟩⟩
  have hck := r_checkKey (P := E.P) hd hd2 hkt' es'.isEmpty w
  have key : ∃ y, VR ι r.1 y ∧ (Instr.lookup t (rho tmps x) k c).run E.P w = .ok (bi c (.tuple #[y, .bool r.2]) y) w := by
    rcases findE_ok hd2 hkt' hl hf with ⟨rfl, h2⟩ | ⟨j, u, u', rfl, h2, h3, -, -⟩
    · obtain ⟨z, hz, e⟩ := ob_some.1 (show ob (zeroOf E.P ke.2) (fun z => some (z, false)) = some r from k11)
      cases e
      obtain ⟨i, hi, hz1, hz2⟩ := zeroOf_some hz
      exact ⟨z, plain_self ι hz2, r_lookup (undMap_some hke) hx hck (MapKept.run_findKey hd h2) fun _ => r_zero hi hz1 w⟩
    · cases (show some (u, true) = some r from k11)
      exact ⟨u', h2, r_lookup (z := undef) (undMap_some hke) hx hck (MapKept.run_findKey hd h3) fun e => nomatch e⟩
  obtain ⟨y, ry, hrun⟩ := key
  have : VOk E ι H w (Instr.lookup t (rho tmps x) (rho tmps ix) c) (bi c (.tuple ⟨[r.1, .bool r.2]⟩) r.1) H := by
    refine VOk.pure cx (v' := bi c (.tuple #[y, .bool r.2]) y) ?_ ?_
    · cases c with
      | true => exact VR.tupL (.cons ry (.cons (.bool _) .nil))
      | false => exact ry
    · rw [rk]; exact hrun
  have := this.op
  simpa only [execOp, ho] using this
/-! keys that are structs -/
theorem someU_iff {x : Option Unit} (h : someU x = true) : x = some () := by
  cases x with
  | none => exact Bool.noConfusion (show false = true from h)
  | some u => rfl
theorem findP_ok {P : Program} {kt : TypeId} {k : Value} (w : World) {es : List (Value × Value × Nat)} {es' : List MapEntry} (h : L2 (ER ι) es es') : ∀ {i : Nat} {f : Option (Nat × Value)}, findP P kt k es i = some f →
    (f = none ∧ (Instr.findAsking kt k es' i).run P w = .ok none w) ∨ ∃ j v v', f = some (i + j, v) ∧ VR ι v v' ∧ (Instr.findAsking kt k es' i).run P w = .ok (some (i + j, v')) w ∧ ∃ e e', es[j]? = some e ∧ es'[j]? = some e' ∧ e'.key = e.1 := by
  induction h with
  | nil =>
    intro i f h
    cases (show some none = some f from h)
    exact .inl ⟨rfl, rfl⟩
  | @cons a b es es' hx hr ih =>
    intro i f h
    obtain ⟨hp, h1⟩ := bi_none.1 (show bi (plain a.1) (ob (prun P (Op.equal kt k a.1)) fun s => bi s (some (some (i, a.2.1))) (findP P kt k es (i + 1))) none = some f from h)
    obtain ⟨s, hs, h2⟩ := ob_some.1 h1
    have hk : b.key = a.1 := (plain_eq hp hx.1).symm
    have hrun : (Op.equal kt k b.key).run P w = .ok s w := by rw [hk]; exact prun_run _ _ hs w
    cases s with
    | true =>
      cases (show some (some (i, a.2.1)) = some f from h2)
      exact .inr ⟨0, a.2.1, b.val, rfl, hx.2.1, by simp only [Instr.findAsking, Sem.run_bind, hrun, Result.andThen_ok, if_true, Sem.run_pure, Nat.add_zero], a, b, rfl, rfl, hk⟩
    | false =>
      have step : (Instr.findAsking kt k (b :: es') i).run P w = (Instr.findAsking kt k es' (i + 1)).run P w := by
        simp only [Instr.findAsking, Sem.run_bind, hrun, Result.andThen_ok, Bool.false_eq_true, if_false]
      rcases ih (show findP P kt k es (i + 1) = some f from h2) with ⟨rfl, h3⟩ | ⟨j, v, v', rfl, h3, h4, e, e', h5, h6, h7⟩
      · exact .inl ⟨rfl, by rw [step]; exact h3⟩
      · exact .inr ⟨j + 1, v, v', by rw [show i + (j + 1) = i + 1 + j by omega], h3, by rw [step, show i + (j + 1) = i + 1 + j by omega]; exact h4, e, e', by simpa using h5, by simpa using h6, h7⟩
theorem findKey_struct {P : Program} {kt : TypeId} {fs : Array Field} (hd : P.underlying kt = some (.struct fs)) {k : Value} {es : List MapEntry} {r : Option (Nat × Value)} {w : World} (h : (Instr.findAsking kt k es 0).run P w = .ok r w) : (Instr.findKey kt k es).run P w = .ok r w := by
  unfold Instr.findKey
  simp only [Sem.run_bind, run_underlying hd, Result.andThen_ok]
  cases es with
  | nil => exact h
  | cons e es => simpa [Instr.findNow, Instr.sameNow] using h
theorem keyP_iff {P : Program} {kt : TypeId} {k : Value} (h : keyP P kt k = true) : plain k = true ∧ ∀ (b : Bool) (w : World), (Instr.checkKey b 10000 kt k).run P w = .ok () w := by
  obtain ⟨h1, h⟩ := ba_iff.1 h
  obtain ⟨h2, h3⟩ := ba_iff.1 h
  refine ⟨h1, fun b w => ?_⟩
  cases b with
  | true => exact prun_run _ _ (someU_iff h2) w
  | false => exact prun_run _ _ (someU_iff h3) w
theorem structKey_some {P : Program} {t : TypeId} {fs : List Field} (h : structKey P t = some fs) : ∃ ke : TypeId × TypeId, undMap P t = some ke ∧ P.underlying ke.1 = some (.struct ⟨fs⟩) := by
  obtain ⟨ke, h1, h2⟩ := ob_some.1 h
  exact ⟨ke, h1, undStruct_some h2⟩
theorem ok_lookupS (cx : Cx E ι H w ntm T tmps) (o : Oper) (t : TypeId) (x ix : Operand) (c : Bool) (ho : o.op = .lookup t x ix c) {fs : List Field} (hst : structKey E.P t = some fs) {an : AN} {H' : AH} (h : aLookupS t x ix c E o.type T H = some (an, H')) : OpOk E ι H w (execOp (rho tmps) o) an H' := by
  obtain ⟨ke, hke, k1⟩ := ob_some.1 h
  obtain ⟨v, hv, k3⟩ := ob_some.1 k1
  obtain ⟨m, hm, k4⟩ := ob_some.1 k3
  obtain ⟨k, hk, k5⟩ := ob_some.1 k4
  obtain ⟨k7, k8⟩ := bi_none.1 k5
  obtain ⟨r, hr, k9⟩ := ob_some.1 k8
  cases k9
  obtain ⟨es, hes, k10⟩ := ob_some.1 hr
  obtain ⟨f, hf, k11⟩ := ob_some.1 k10
  have := vMap_some hm; subst this
  have rm := opd_ok cx hv
  obtain ⟨hp, hck0⟩ := keyP_iff k7
  have rk : k = rho tmps ix := plain_eq hp (opd_ok cx hk)
  obtain ⟨ke', hke', hd⟩ := structKey_some hst
  have : ke' = ke := Option.some.inj (hke'.symm.trans hke)
  subst this
  obtain ⟨es', hl, hx⟩ : ∃ es' : Array MapEntry, L2 (ER ι) es es'.toList ∧ ((rho tmps x = .map none ∧ es' = #[]) ∨ ∃ r clock, rho tmps x = .map (some r) ∧ w.heap[r]? = some (.map es' clock)) := by
    rcases rm.map_inv with ⟨rfl, e⟩ | ⟨r0, c0, rfl, e, hc⟩
    · cases hes
      exact ⟨#[], .nil, .inl ⟨e, rfl⟩⟩
    · obtain ⟨q, hq, e2⟩ := ob_some.1 (show ob (H.map r0) (fun q => some q.1) = some es from hes)
      cases e2
      obtain ⟨c1, d1, h1, h2, es', h3, h4⟩ := cx.hr.blk _ _ (AH.map_some hq)
      rw [hc] at h1
      cases h1
      exact ⟨es', h4, .inr ⟨_, _, e, h3⟩⟩
  have hck := hck0 es'.isEmpty w
  have key : ∃ y, VR ι r.1 y ∧ (Instr.lookup t (rho tmps x) k c).run E.P w = .ok (bi c (.tuple #[y, .bool r.2]) y) w := by
    rcases findP_ok w hl hf with ⟨rfl, h2⟩ | ⟨j, u, u', rfl, h2, h3, -⟩
    · obtain ⟨z, hz, e⟩ := ob_some.1 (show ob (zeroOf E.P ke'.2) (fun z => some (z, false)) = some r from k11)
      cases e
      obtain ⟨i, hi, hz1, hz2⟩ := zeroOf_some hz
      exact ⟨z, plain_self ι hz2, r_lookup (undMap_some hke) hx hck (findKey_struct hd h2) fun _ => r_zero hi hz1 w⟩
    · cases (show some (u, true) = some r from k11)
      exact ⟨u', h2, r_lookup (z := undef) (undMap_some hke) hx hck (findKey_struct hd h3) fun e => nomatch e⟩
  obtain ⟨y, ry, hrun⟩ := key
  have : VOk E ι H w (Instr.lookup t (rho tmps x) (rho tmps ix) c) (bi c (.tuple ⟨[r.1, .bool r.2]⟩) r.1) H := by
    refine VOk.pure cx (v' := bi c (.tuple #[y, .bool r.2]) y) ?_ ?_
    · cases c with
      | true => exact VR.tupL (.cons ry (.cons (.bool _) .nil))
      | false => exact ry
    · rw [← rk]; exact hrun
  have := this.op
  simpa only [execOp, ho] using this
theorem ok_look (cx : Cx E ι H w ntm T tmps) (o : Oper) (t : TypeId) (x ix : Operand) (c : Bool) (ho : o.op = .lookup t x ix c) {an : AN} {H' : AH} (h : aLook t x ix c E o.type T H = some (an, H')) : OpOk E ι H w (execOp (rho tmps) o) an H' := by
  rcases oc_some.1 h with ⟨-, h⟩ | ⟨fs, h1, h⟩
  · exact ok_lookup cx o t x ix c ho h
  · exact ok_lookupS cx o t x ix c ho h1 h
end
end Go.Proofs.YthikcbbfnicnlaaGreatDoor.Ev
namespace Go.Proofs.YthikcbbfnicnlaaGreatDoor.Ev
open Go
set_option linter.unusedVariables false
set_option linter.unusedSimpArgs false

section
variable {E : En} {ι : Ren} {H : AH} {w : World} {ntm : Nat} {T : Tr Value} {tmps : Array Value}
theorem run_setObj' {P : Program} {w : World} {r : Nat} {s : ByteArray} {p : Nat} (o : Obj) (hb : w.heap[r]? = some (.stringIter s p)) : (setObj r o).run P w = .ok () { w with heap := w.heap.setIfInBounds r o } := by
  simp [setObj, Sem.run, hb]
theorem wr_set {w : World} {c : Nat} {o0 : Obj} (o : Obj) (hb : w.heap[c]? = some o0) : Wr c w { w with heap := w.heap.setIfInBounds c o } ∧ ({ w with heap := w.heap.setIfInBounds c o } : World).heap[c]? = some o := by
  refine ⟨⟨rfl, rfl, rfl, by simp, fun k hk => by simp [Array.getElem?_setIfInBounds, Ne.symm hk]⟩, ?_⟩
  have : c < w.heap.size := by
    rcases Nat.lt_or_ge c w.heap.size with h | h
    · exact h
    · rw [Array.getElem?_eq_none h] at hb; cases hb
  simp [Array.getElem?_setIfInBounds, this]
theorem setE_ok {k v v' : Value} (rk : VR ι k k) (rv : VR ι v v') : ∀ {es : List (Value × Value × Nat)} {es' : List MapEntry}, L2 (ER ι) es es' → ∀ (i : Nat), L2 (ER ι) (setE es i k v) (es'.modify i fun e => { e with key := k, val := v' }) := by
  intro es es' h
  induction h with
  | nil => intro i; cases i <;> exact .nil
  | cons hx hr ih =>
    intro i
    cases i with
    | zero => exact .cons ⟨rk, rv, hx.2.2⟩ hr
    | succ n => exact .cons hx (ih n)
theorem r_mapUpdate {P : Program} {t : TypeId} {ke : TypeId × TypeId} {k v : Value} {r clock : Nat} {es : Array MapEntry} {f : Option (Nat × Value)} {w : World} (hm : P.underlying t = some (.map ke.1 ke.2))
    (hb : w.heap[r]? = some (.map es clock)) (hck : (Instr.checkKey false 10000 ke.1 k).run P w = .ok () w) (hf : (Instr.findKey ke.1 k es.toList).run P w = .ok f w)
    (hk : ∀ i u, f = some (i, u) → ∃ e, es[i]? = some e ∧ e.key = k) (hst : (Instr.keyThatStays k k).run P w = .ok k w) :
    (Instr.mapUpdate t (.map (some r)) k v).run P w = .ok () { w with heap := w.heap.setIfInBounds r (oc f (.map (es.push { key := k, val := v, born := clock }) (clock + 1)) fun f => .map (es.modify f.1 fun e => { e with key := k, val := v }) clock) } := by
  unfold Instr.mapUpdate
  simp only [Sem.run_bind, run_underlying hm, Result.andThen_ok, MapKept.run_getObj_map hb, hck, hf]
  cases f with
  | none => simp only [Sem.run_bind, Result.andThen_ok]; exact MapKept.run_setObj_map _ hb
  | some q =>
    obtain ⟨e, h1, h2⟩ := hk q.1 q.2 rfl
    simp only [Sem.run_bind, Result.andThen_ok, h1, Option.map_some, Option.getD_some, h2, hst]
    exact MapKept.run_setObj_map _ hb
theorem ok_mapUpdate (cx : Cx E ι H w ntm T tmps) (o : Oper) (t : TypeId) (m k v : Operand) (ho : o.op = .mapUpdate t m k v ∨ o.op = .insert t m k v) {an : AN} {H' : AH} (h : aMapUpdate t m k v E o.type T H = some (an, H')) : OpOk E ι H w (execOp (rho tmps) o) an H' := by
  obtain ⟨ke, hke, k1⟩ := ob_some.1 h
  obtain ⟨kt, hkt, k2⟩ := ob_some.1 k1
  obtain ⟨x, hx, k3⟩ := ob_some.1 k2
  obtain ⟨m', hm, k4⟩ := ob_some.1 k3
  obtain ⟨r, hr, k5⟩ := ob_some.1 k4
  obtain ⟨kv, hkv, k6⟩ := ob_some.1 k5
  obtain ⟨kt', hkt', k7⟩ := ob_some.1 k6
  obtain ⟨u, hu, k8⟩ := ob_some.1 k7
  obtain ⟨k9, k10⟩ := bi_none.1 k8
  obtain ⟨q, hq, k11⟩ := ob_some.1 k10
  obtain ⟨f, hf, k12⟩ := ob_some.1 k11
  cases k12
  subst hr
  have k9 := beq_iff.1 k9
  subst k9
  have := vMap_some hm; subst this
  have rk0 := opd_ok cx hkv
  have rk := keyTag_VR hkt' rk0
  have rkk : VR ι kv kv := rk ▸ rk0
  have rv := opd_ok cx hu
  obtain ⟨d, hd, hd2⟩ := undKey_some hkt
  rcases (opd_ok cx hx).map_inv with ⟨h0, -⟩ | ⟨r0, c0, h0, e, hc⟩
  · cases h0
  cases h0
  have hb := AH.map_some hq
  obtain ⟨c1, d1, h1, h2, es', h3, h4⟩ := cx.hr.blk _ _ hb
  rw [hc] at h1
  cases h1
  have hck := r_checkKey (P := E.P) hd hd2 hkt' false w
  have hst := r_stays (P := E.P) hkt' w
  have fin : ∀ (k' : Blk) (o' : Obj), (∀ w' : World, w'.heap[c0]? = some o' → BR ι k' c0 0 w') → (Instr.mapUpdate t (.map (some c0)) kv (rho tmps v)).run E.P w = .ok () { w with heap := w.heap.setIfInBounds c0 o' } → OpOk E ι H w (execOp (rho tmps) o) (.val undef) (H.put r (some k')) := by
    intro k' o' hbr hrun hn
    obtain ⟨g1, g2⟩ := wr_set o' h3
    refine ⟨ι, { w with heap := w.heap.setIfInBounds c0 o' }, ?_, undef, VR.undef ι, .inr ⟨rfl, ?_⟩⟩
    · rw [AH.put_get]
      exact Go.write cx.hr cx.bnd hb rfl hc g1 (hbr _ g2)
    · rcases ho with ho | ho <;> simp only [execOp, ho, Sem.run_bind, e, rk, hrun, Result.andThen_ok, Sem.run_pure]
  rcases findE_ok hd2 hkt' h4 hf with ⟨rfl, h5⟩ | ⟨j, u1, u', rfl, h5, h6, -, e', h7, h8⟩
  · have hb' := r_mapUpdate (v := rho tmps v) (undMap_some hke) h3 hck (MapKept.run_findKey hd h5) (fun i u e => nomatch e) hst
    refine fin (.map (q.1 ++ [(kv, u, q.2)]) (q.2 + 1)) _ (fun w' hw' => ?_) hb'
    refine ⟨rfl, _, hw', ?_⟩
    rw [Array.toList_push]
    exact h4.append (.cons ⟨rkk, rv, rfl⟩ .nil)
  · have hb' := r_mapUpdate (v := rho tmps v) (undMap_some hke) h3 hck (MapKept.run_findKey hd h6) (fun i u e => by
      cases e
      exact ⟨e', by rw [Nat.zero_add, ← Array.getElem?_toList]; exact h7, h8⟩) hst
    refine fin (.map (setE q.1 (0 + j) kv u) q.2) _ (fun w' hw' => ?_) hb'
    refine ⟨rfl, _, hw', ?_⟩
    rw [Array.toList_modify]
    exact setE_ok rkk rv h4 _
theorem ok_mapUpdS (cx : Cx E ι H w ntm T tmps) (o : Oper) (t : TypeId) (m k v : Operand) (ho : o.op = .mapUpdate t m k v ∨ o.op = .insert t m k v) {fs : List Field} (hst : structKey E.P t = some fs) {an : AN} {H' : AH} (h : aMapUpdS t m k v E o.type T H = some (an, H')) : OpOk E ι H w (execOp (rho tmps) o) an H' := by
  obtain ⟨ke, hke, k1⟩ := ob_some.1 h
  obtain ⟨x, hx, k3⟩ := ob_some.1 k1
  obtain ⟨m', hm, k4⟩ := ob_some.1 k3
  obtain ⟨r, hr, k5⟩ := ob_some.1 k4
  obtain ⟨kv, hkv, k6⟩ := ob_some.1 k5
  obtain ⟨u, hu, k8⟩ := ob_some.1 k6
  obtain ⟨k9, k10⟩ := bi_none.1 k8
  obtain ⟨q, hq, k11⟩ := ob_some.1 k10
  obtain ⟨f, hf, k12⟩ := ob_some.1 k11
  subst hr
  have := vMap_some hm; subst this
  obtain ⟨hp, hck0⟩ := keyP_iff k9
  have rk : kv = rho tmps k := plain_eq hp (opd_ok cx hkv)
  have rkk : VR ι kv kv := plain_self ι hp
  have rv := opd_ok cx hu
  obtain ⟨ke', hke', hd⟩ := structKey_some hst
  have : ke' = ke := Option.some.inj (hke'.symm.trans hke)
  subst this
  rcases (opd_ok cx hx).map_inv with ⟨h0, -⟩ | ⟨r0, c0, h0, e, hc⟩
  · cases h0
  cases h0
  have hb := AH.map_some hq
  obtain ⟨c1, d1, h1, h2, es', h3, h4⟩ := cx.hr.blk _ _ hb
  rw [hc] at h1
  cases h1
  have hck := hck0 false w
  have fin : ∀ (k' : Blk) (o' : Obj), (∀ w' : World, w'.heap[c0]? = some o' → BR ι k' c0 0 w') → (Instr.mapUpdate t (.map (some c0)) kv (rho tmps v)).run E.P w = .ok () { w with heap := w.heap.setIfInBounds c0 o' } → OpOk E ι H w (execOp (rho tmps) o) (.val undef) (H.put r (some k')) := by
    intro k' o' hbr hrun hn
    obtain ⟨g1, g2⟩ := wr_set o' h3
    refine ⟨ι, { w with heap := w.heap.setIfInBounds c0 o' }, ?_, undef, VR.undef ι, .inr ⟨rfl, ?_⟩⟩
    · rw [AH.put_get]
      exact Go.write cx.hr cx.bnd hb rfl hc g1 (hbr _ g2)
    · rcases ho with ho | ho <;> simp only [execOp, ho, Sem.run_bind, e, ← rk, hrun, Result.andThen_ok, Sem.run_pure]
  rcases findP_ok w h4 hf with ⟨rfl, h5⟩ | ⟨j, u1, u', rfl, h5, h6, e0, e', h7, h8, h9⟩
  · cases k12
    have hrun : (Instr.mapUpdate t (.map (some c0)) kv (rho tmps v)).run E.P w = .ok () { w with heap := w.heap.setIfInBounds c0 (.map (es'.push { key := kv, val := rho tmps v, born := q.2 }) (q.2 + 1)) } := by
      unfold Instr.mapUpdate
      simp only [Sem.run_bind, run_underlying (undMap_some hke), Result.andThen_ok, MapKept.run_getObj_map h3, hck, findKey_struct hd h5]
      exact MapKept.run_setObj_map _ h3
    refine fin (.map (q.1 ++ [(kv, u, q.2)]) (q.2 + 1)) _ (fun w' hw' => ?_) hrun
    refine ⟨rfl, _, hw', ?_⟩
    rw [Array.toList_push]
    exact h4.append (.cons ⟨rkk, rv, rfl⟩ .nil)
  · obtain ⟨e1, he1, k13⟩ := ob_some.1 (show ob (getL q.1 (0 + j)) (fun e => bi (Instr.sameBits 10000 e.1 kv) (some (AN.val undef, H.put r (some (.map (setE q.1 (0 + j) kv u) q.2)))) none) = some (an, H') from k12)
    obtain ⟨k14, k15⟩ := bi_none.1 k13
    cases k15
    rw [getL_eq, Nat.zero_add, h7] at he1
    cases he1
    have hgk : es'[0 + j]? = some e' := by rw [Nat.zero_add, ← Array.getElem?_toList]; exact h8
    have hstay : (Instr.keyThatStays e'.key kv).run E.P w = .ok kv w := by
      unfold Instr.keyThatStays
      rw [h9, k14]
      simp only [if_true, Sem.run_pure]
    have hrun : (Instr.mapUpdate t (.map (some c0)) kv (rho tmps v)).run E.P w = .ok () { w with heap := w.heap.setIfInBounds c0 (.map (es'.modify (0 + j) fun e => { e with key := kv, val := rho tmps v }) q.2) } := by
      unfold Instr.mapUpdate
      simp only [Sem.run_bind, run_underlying (undMap_some hke), Result.andThen_ok, MapKept.run_getObj_map h3, hck, findKey_struct hd h6, hgk, Option.map_some, Option.getD_some, hstay]
      exact MapKept.run_setObj_map _ h3
    refine fin (.map (setE q.1 (0 + j) kv u) q.2) _ (fun w' hw' => ?_) hrun
    refine ⟨rfl, _, hw', ?_⟩
    rw [Array.toList_modify]
    exact setE_ok rkk rv h4 _
theorem ok_mapUpd (cx : Cx E ι H w ntm T tmps) (o : Oper) (t : TypeId) (m k v : Operand) (ho : o.op = .mapUpdate t m k v ∨ o.op = .insert t m k v) {an : AN} {H' : AH} (h : aMapUpd t m k v E o.type T H = some (an, H')) : OpOk E ι H w (execOp (rho tmps) o) an H' := by
  rcases oc_some.1 h with ⟨-, h⟩ | ⟨fs, h1, h⟩
  · exact ok_mapUpdate cx o t m k v ho h
  · exact ok_mapUpdS cx o t m k v ho h1 h
theorem bClear_ok (cx : Cx E ι H w ntm T tmps) {ts : List TypeId} {args args' : List Value} {ty : TypeId} {v : Value} {H' : AH} (h : bClear E.P H ts args = some (v, H')) (hargs : VRs ι args args') : VOk E ι H w (Builtin.clear_ ⟨ts⟩ ty ⟨args'⟩) v H' := by
  obtain ⟨t, ht, k1⟩ := ob_some.1 h
  obtain ⟨x, hx, k2⟩ := ob_some.1 k1
  obtain ⟨r, hr, k3⟩ := ob_some.1 k2
  obtain ⟨m, hm, k4⟩ := ob_some.1 k3
  have := vMap_some hr; subst this
  obtain ⟨x1, hx1, rx⟩ := hargs.get0 hx
  have hts := get0_ts ht
  have hu := undMap_some hm
  rcases oc_some.1 k4 with ⟨rfl, k5⟩ | ⟨r0, rfl, k5⟩
  · cases k5
    rcases rx.map_inv with ⟨-, e⟩ | ⟨r1, c1, h0, -⟩
    · subst e
      refine fun _ => ⟨ι, w, .tuple #[], Go.refl cx.hr cx.bnd, VR.tupL .nil, ?_⟩
      simp only [Builtin.clear_, hts, hx1, Sem.run_bind, run_underlying hu, Result.andThen_ok, Sem.run_pure]
    · cases h0
  · obtain ⟨q, hq, k6⟩ := ob_some.1 k5
    cases k6
    rcases rx.map_inv with ⟨h0, -⟩ | ⟨r1, c0, h0, e, hc⟩
    · cases h0
    · cases h0
      subst e
      have hb := AH.map_some hq
      obtain ⟨c1, d1, h1, h2, es', h3, h4⟩ := cx.hr.blk _ _ hb
      rw [hc] at h1
      cases h1
      obtain ⟨g1, g2⟩ := wr_set (.map #[] q.2) h3
      refine fun _ => ⟨ι, { w with heap := w.heap.setIfInBounds c0 (.map #[] q.2) }, .tuple #[], ?_, VR.tupL .nil, ?_⟩
      · rw [AH.put_get]
        exact Go.write cx.hr cx.bnd hb rfl hc g1 ⟨rfl, #[], g2, .nil⟩
      · simp only [Builtin.clear_, hts, hx1, Sem.run_bind, run_underlying hu, Result.andThen_ok, MapKept.run_getObj_map h3, MapKept.run_setObj_map _ h3, Sem.run_pure]
theorem ok_range (cx : Cx E ι H w ntm T tmps) (o : Oper) (t : TypeId) (x : Operand) (ho : o.op = .range t x) {an : AN} {H' : AH} (h : aRange t x E o.type T H = some (an, H')) : OpOk E ι H w (execOp (rho tmps) o) an H' := by
  obtain ⟨k1, k2⟩ := bi_none.1 h
  obtain ⟨v, hv, k3⟩ := ob_some.1 k2
  obtain ⟨s, hs, k4⟩ := ob_some.1 k3
  cases k4
  have := vStr_some hs; subst this
  have rv := (opd_ok cx hv).str_inv
  have hu := undStr_iff k1
  have : VOk E ι H w (Instr.range t (rho tmps x)) (newPtr H) (H.new (.obj (.stringIter s 0))) := fun hfr => by
    have hn : ι.f H.next = none := hfr _ (Nat.le_refl _) (Nat.lt_succ_self _)
    have g := Go.alloc (p := none) cx.hr cx.bnd hn (.obj (.stringIter s 0)) (.stringIter s 0) ⟨rfl, trivial, heap_alloc_new _ _⟩
    rw [← AH.new_get] at g
    refine ⟨_, _, .pointer (some ⟨w.heap.size, 0, none⟩), g, VR.newPtr (updA_same _ _ _ _), ?_⟩
    rw [rv]
    unfold Instr.range
    simp only [Sem.run_bind, run_underlying hu, Result.andThen_ok]
    rfl
  have := this.op
  simpa only [execOp, ho] using this
theorem iterOf_some {o : Obj} {s : ByteArray} {p : Nat} (h : iterOf o = some (s, p)) : o = .stringIter s p := by
  cases o <;> first | (cases (show none = some (s, p) from h); done) | (cases (show some _ = some (s, p) from h); rfl)
theorem ok_next (cx : Cx E ι H w ntm T tmps) (o : Oper) (it : Operand) (st : Bool) (ho : o.op = .next it st) {an : AN} {H' : AH} (h : aNext it st E o.type T H = some (an, H')) : OpOk E ι H w (execOp (rho tmps) o) an H' := by
  obtain ⟨k1, k2⟩ := bi_none.1 h
  subst k1
  obtain ⟨v, hv, k3⟩ := ob_some.1 k2
  obtain ⟨a, ha, k4⟩ := ob_some.1 k3
  obtain ⟨p, hp, k5⟩ := ob_some.1 k4
  obtain ⟨k6, k7⟩ := bi_none.1 k5
  obtain ⟨ob0, hob, k8⟩ := ob_some.1 k7
  obtain ⟨s, hs, k9⟩ := ob_some.1 k8
  have k6 := beq_iff.1 k6
  have := vPtr_some ha; subst this
  obtain ⟨c, d, e, hc⟩ := (opd_ok cx hv).ptr_inv hp
  have hbk := AH.obj_some hob
  have := iterOf_some hs; subst this
  obtain ⟨c1, d1, h1, h2, -, h3⟩ := cx.hr.blk _ _ hbk
  rw [hc] at h1
  cases h1
  subst h2
  rw [k6] at e
  have key : VOk E ι H w (Instr.next (rho tmps it) true o.type) (match an with | .val v => v | _ => undef) H' ∧ ∃ v, an = .val v := by
    obtain ⟨s, pos⟩ := s
    dsimp only at k9 h3 hs hob hbk
    unfold nextB at k9
    cases hlt : Nat.blt pos s.size with
    | true =>
      rw [hlt, bi_true] at k9
      cases k9
      have hlt := blt_iff.1 hlt
      refine ⟨fun hfr => ?_, _, rfl⟩
      obtain ⟨g1, g2⟩ := wr_set (.stringIter s (pos + (Utf8.decode s pos).2)) h3
      refine ⟨ι, { w with heap := w.heap.setIfInBounds c (.stringIter s (pos + (Utf8.decode s pos).2)) }, .tuple #[.bool true, goInt pos, .int .i32 (Utf8.decode s pos).1], ?_, VR.tupL (.cons (.bool _) (.cons (.int _ _) (.cons (.int _ _) .nil))), ?_⟩
      · rw [AH.put_get]
        exact Go.write cx.hr cx.bnd hbk rfl hc g1 ⟨rfl, trivial, g2⟩
      · rw [e]
        unfold Instr.next
        have hg : (getObj c).run E.P w = .ok (.stringIter s pos) w := by simp [getObj, Sem.run, h3]
        simp only [Nat.zero_add, Sem.run_bind, hg, Result.andThen_ok, hlt, if_true, run_setObj' _ h3, Sem.run_pure]
    | false =>
      rw [hlt, bi_false] at k9
      cases k9
      refine ⟨VOk.pure cx (VR.tupL (.cons (.bool _) .nil)) ?_, _, rfl⟩
      · rw [e]
        unfold Instr.next
        have hg : (getObj c).run E.P w = .ok (.stringIter s pos) w := by simp [getObj, Sem.run, h3]
        have hlt : ¬ pos < s.size := by
          intro h
          have := blt_iff.2 h
          rw [hlt] at this; cases this
        simp only [Nat.zero_add, Sem.run_bind, hg, Result.andThen_ok, hlt, if_false, Sem.run_pure]
  obtain ⟨h5, v, rfl⟩ := key
  have := h5.op
  simpa only [execOp, ho] using this
end
end Go.Proofs.YthikcbbfnicnlaaGreatDoor.Ev
namespace Go.Proofs.YthikcbbfnicnlaaGreatDoor.Ev
open Go
set_option linter.unusedVariables false
set_option linter.unusedSimpArgs false

section
variable {E : En} {ι : Ren} {H : AH} {w : World} {ntm : Nat} {T : Tr Value} {tmps : Array Value}
theorem liesAt_any {P : Program} {e : TypeId} (hc : P.cellsOf e = 1) (count off n : Nat) (hn : off + n ≤ count) : liesAt P P.depth e count off e n = true := by
  have hd : P.depth = (2 * (P.types.size + Made.depth) + 1) + 1 := rfl
  rw [hd]
  simp only [liesAt, Bool.or_eq_true]
  left
  rw [hd]
  simp [rowAt, hc, hn, sameLayout, Nat.mod_one]
theorem run_loadB {P : Program} (w : World) : ∀ (ns : List Nat) (b o : Nat) (acc : ByteArray), (∀ (j n : Nat), ns[j]? = some n → w.cell? ⟨b, o + j, none⟩ = some (.int .u8 (n : Int))) → (loadBytes ⟨b, o, none⟩ acc ns.length).run P w = .ok ⟨acc.data ++ (ns.map UInt8.ofNat).toArray⟩ w
  | [], b, o, acc, h => by simp [loadBytes]
  | n :: ns, b, o, acc, h => by
    have h0 := h 0 n rfl
    rw [Nat.add_zero] at h0
    have ih := run_loadB (P := P) w ns b (o + 1) (acc.push (UInt8.ofNat n)) (fun j m hm => by
      have := h (j + 1) m (by simpa using hm)
      rw [show o + 1 + j = o + (j + 1) by omega]; exact this)
    have ha : (⟨b, o, none⟩ : Addr).add 1 = ⟨b, o + 1, none⟩ := by simp [Addr.add]
    have hx : ((n : Int).toNat).toUInt8 = UInt8.ofNat n := rfl
    simp only [List.length_cons, loadBytes, Sem.run_bind, run_load, h0, Result.andThen, hx, ha]
    rw [ih]
    congr 1
    apply ByteArray.ext
    simp [ByteArray.push]
theorem freeze_run {w : World} {g o n : Nat} {cs : Array Value} {e : TypeId} {f : Nat × Nat} (h : w.heap[g]? = some (.cells cs e f)) (hn : n ≠ 0) : Wr g w (w.freeze ⟨g, o, none⟩ n) ∧ ∃ f', (w.freeze ⟨g, o, none⟩ n).heap[g]? = some (.cells cs e f') := by
  obtain ⟨lo, hi⟩ := f
  unfold World.freeze
  rw [if_neg hn]
  refine ⟨⟨rfl, rfl, rfl, by simp, fun k hk => by simp [Array.getElem?_modify, Ne.symm hk]⟩, ?_⟩
  simp [Array.getElem?_modify, h]
theorem r_unsafeString {P : Program} {w : World} {pt it ty e : TypeId} (hp : P.underlying pt = some (.pointer e)) (hc : P.cellsOf e = 1) {g o cells : Nat} (hsh : w.shape? g = some (e, cells)) {k : IntKind} {ns : List Nat} (h0 : ns.length ≠ 0) (hn : o + ns.length ≤ cells) (h63 : ns.length < 9223372036854775807)
    (hcell : ∀ (j n : Nat), ns[j]? = some n → w.cell? ⟨g, o + j, none⟩ = some (.int .u8 (n : Int))) :
    (Builtin.unsafeString_ #[pt, it] ty #[.pointer (some ⟨g, o, none⟩), .int k ns.length]).run P w = .ok (.string ⟨⟨ns.map UInt8.ofNat⟩⟩) (w.freeze ⟨g, o, none⟩ ns.length) := by
  have hlb := run_loadB (P := P) w ns g o .empty hcell
  have hlies := liesAt_any (P := P) hc (cells / P.cellsOf e) o ns.length (by rw [hc]; simpa using hn)
  have h63' : ¬ (9223372036854775807 : Int) < (ns.length : Int) := by omega
  have hdef : Builtin.unsafeString_ #[pt, it] ty #[.pointer (some ⟨g, o, none⟩), .int k ns.length] =
      (do
        let n ← asInt (.int k ns.length)
        if n < 0 then runtimePanic (.error "unsafe.String: len out of range")
        if n > IntKind.i64.max then unsupported (.unsafePointer "String: a length above the largest int")
        if n = 0 then pure (.string .empty)
        else if ← variablesAt ⟨g, o, none⟩ (← elemOf pt) n.toNat then do
          let s ← loadBytes ⟨g, o, none⟩ .empty n.toNat
          freeze ⟨g, o, none⟩ n.toNat
          pure (.string s)
        else unsupported (.unsafePointer "String: not so many bytes at ptr")) := rfl
  rw [hdef]
  have hmax : IntKind.i64.max = 9223372036854775807 := rfl
  have hneg : ¬ (ns.length : Int) < 0 := by omega
  simp [asInt, asIntOf, hmax, h63', hneg, h0, variablesAt, hsh, elemOf, run_underlying hp, hlies, hlb]
theorem r_unsafeString0 {P : Program} {w : World} {pt it ty : TypeId} {k : IntKind} (a : Option Addr) :
    (Builtin.unsafeString_ #[pt, it] ty #[.pointer a, .int k 0]).run P w = .ok (.string ⟨⟨[]⟩⟩) w := by
  have hdef : Builtin.unsafeString_ #[pt, it] ty #[.pointer a, .int k 0] =
      (do
        let n ← asInt (.int k 0)
        if n < 0 then runtimePanic (.error "unsafe.String: len out of range")
        if n > IntKind.i64.max then unsupported (.unsafePointer "String: a length above the largest int")
        match a with
        | none =>
          if n = 0 then pure (.string .empty)
          else runtimePanic (.error "unsafe.String: ptr is nil and len is not zero")
        | some a =>
          if n = 0 then pure (.string .empty)
          else if ← variablesAt a (← elemOf pt) n.toNat then do
            let s ← loadBytes a .empty n.toNat
            freeze a n.toNat
            pure (.string s)
          else unsupported (.unsafePointer "String: not so many bytes at ptr")) := rfl
  rw [hdef]
  have hmax : IntKind.i64.max = 9223372036854775807 := rfl
  cases a <;> simp [asInt, asIntOf, hmax] <;> rfl
theorem two_of2 {α : Type} {l : List α} (h : l.length = 2) {a b : α} (h0 : l[0]? = some a) (h1 : l[1]? = some b) : l = [a, b] := by
  match l, h with
  | [x, y], _ => simp at h0 h1; rw [h0, h1]
theorem VRs.two {ι : Ren} {a b : Value} {l : List Value} (h : VRs ι [a, b] l) : ∃ x y, l = [x, y] ∧ VR ι a x ∧ VR ι b y := by
  cases h with
  | cons h1 h2 =>
    cases h2 with
    | cons h3 h4 =>
      cases h4
      exact ⟨_, _, rfl, h1, h3⟩
def P1 (E : En) (u : TypeId) : Prop := E.P.cellsOf u = 1
theorem bString_ok (cx : Cx E ι H w ntm T tmps) {ts : List TypeId} {args args' : List Value} {ty : TypeId} {v : Value} {H' : AH} (h : bString E.P H ts args = some (v, H')) (hargs : VRs ι args args') : VOk E ι H w (Builtin.unsafeString_ ⟨ts⟩ ty ⟨args'⟩) v H' := by
  obtain ⟨pt, hpt, k1⟩ := ob_some.1 h
  obtain ⟨u, hu, k2⟩ := ob_some.1 k1
  obtain ⟨v0, hv0, k3⟩ := ob_some.1 k2
  obtain ⟨nv, hnv, k4⟩ := ob_some.1 k3
  obtain ⟨n, hn, k5⟩ := ob_some.1 k4
  obtain ⟨k6, k7⟩ := bi_none.1 k5
  obtain ⟨k8, k9⟩ := ba_iff.1 k6
  have k8 := beq_iff.1 k8
  have k9 := beq_iff.1 k9
  rw [lenL_eq] at k8 k9
  rw [getL_eq] at hv0 hnv hpt
  obtain ⟨it, hit⟩ : ∃ it, ts[1]? = some it := ⟨ts[1]'(by omega), List.getElem?_eq_getElem _⟩
  have ets := two_of2 k9 hpt hit
  have eargs := two_of2 k8 hv0 hnv
  subst ets
  subst eargs
  obtain ⟨kk, rfl⟩ := vNat_some hn
  have hup := undPtr_some hu
  obtain ⟨x1, x2, rfl, r1, r2⟩ := hargs.two
  have := r2.int_inv
  subst this
  rcases bi_or.1 k7 with ⟨k10, k11⟩ | ⟨k10, k11⟩
  · have k10 := beq_iff.1 k10
    subst k10
    obtain ⟨k12, k13⟩ := bi_none.1 k11
    cases k13
    cases v0 <;> first | exact nomatch (show false = true from k12) | skip
    rename_i a
    have ha : ∃ a', x1 = .pointer a' := by cases r1 <;> exact ⟨_, rfl⟩
    obtain ⟨a', rfl⟩ := ha
    exact VOk.pure cx (.string _) (r_unsafeString0 (P := E.P) (w := w) (pt := pt) (it := it) (ty := ty) (k := kk) a')
  · obtain ⟨a, ha, k12⟩ := ob_some.1 k11
    obtain ⟨p, hp, k13⟩ := ob_some.1 k12
    obtain ⟨c, hc, k14⟩ := ob_some.1 k13
    obtain ⟨k15, k16⟩ := bi_none.1 k14
    obtain ⟨l, hl, k17⟩ := ob_some.1 k16
    obtain ⟨bs, hbs, k18⟩ := ob_some.1 k17
    cases k18
    obtain ⟨q1, k15⟩ := ba_iff.1 k15
    obtain ⟨q2, k15⟩ := ba_iff.1 k15
    obtain ⟨q3, q4⟩ := ba_iff.1 k15
    have q1 : c.ro = false := by simpa using q1
    have q2 := beq_iff.1 q2
    have q4 := blt_iff.1 q4
    have := vPtr_some ha; subst this
    obtain ⟨g, d, rfl, hg⟩ := r1.ptr_inv hp
    obtain ⟨cs, f, h3, h4, h5⟩ := cx.hr.cells hc hg
    obtain ⟨p1, p2, l', p3, p4⟩ := h4.from hl
    obtain ⟨rfl, ns, e1, e2⟩ := bytesL_ok hbs p3
    have hlen : ns.length = n := by rw [← p1, e1, List.length_map]
    have hcell : P1 E u := by
      unfold P1
      unfold sizeIs at q3
      cases hs : sizeA E.P u with
      | none => rw [hs] at q3; cases q3
      | some m =>
        rw [hs] at q3
        have := beq_iff.1 (show Nat.beq m 1 = true from q3)
        obtain ⟨i, hi, h⟩ := sizeA_some hs
        simp [Program.cellsOf, hi, h, this]
    have hn0 : ns.length ≠ 0 := by rw [hlen]; exact beq_false.1 k10
    refine fun _ => ?_
    obtain ⟨g1, f', g2⟩ := freeze_run (o := p.2 + d) h3 hn0
    refine ⟨ι, _, _, ?_, .string _, by
      have := r_unsafeString (P := E.P) (w := w) (pt := pt) (it := it) (ty := ty) (k := kk) hup hcell (g := g) (o := p.2 + d) (cells := cs.size) (by unfold World.shape?; rw [h3, q2]) hn0 (by have := h4.size; omega) (by omega) (fun j m hm => ?_)
      · rw [hlen] at this
        rw [e2]
        exact this
      · rw [cell_of h3]
        exact p4 j _ (by rw [e1, List.getElem?_map, hm]; rfl)⟩
    rw [AH.put_get]
    rw [hlen] at g1 g2
    exact Go.write cx.hr cx.bnd (AH.cells_some hc) q1 hg g1 ⟨cs, f', g2, ⟨h4.size, h4.cell, fun h => (nomatch h), fun h => ⟨(h4.ex h).1, (h4.ex h).2.1, fun h => (nomatch h)⟩⟩, h5⟩
end
end Go.Proofs.YthikcbbfnicnlaaGreatDoor.Ev
namespace Go.Proofs.YthikcbbfnicnlaaGreatDoor.Ev
open Go
set_option linter.unusedVariables false
set_option linter.unusedSimpArgs false

/-- What the evaluator is told of the functions without a body. -/
structure HxOk (E : En) : Prop where
  ng : ∀ (f : FuncId) fd, E.P.funcs[f]? = some fd → (fd.name == "runtime.NumGoroutine") = false
  ok : ∀ f h fd, E.hx f = some h → E.P.funcs[f]? = some fd → fd.body = none → ∀ (ι : Ren) (H : AH) (w : World) (ntm : Nat) (T : Tr Value) (tmps : Array Value) (args args' : List Value) (v : Value) (H' : AH), Cx E ι H w ntm T tmps → VRs ι args args' → h args H = some (v, H') → OpOk E ι H w (callFunc f ⟨args'⟩) (.val v) H'
section
variable {E : En} {ι : Ren} {H : AH} {w : World} {ntm : Nat} {T : Tr Value} {tmps : Array Value}
theorem nextV_some {x : Next} {v : Value} (h : nextV x = some v) : x = .value v := by
  cases x <;> first | (injection (show some _ = some v from h) with h; rw [h]) | exact nomatch (show (none : Option Value) = some v from h)
theorem callX_ok (hx : HxOk E) (cx : Cx E ι H w ntm T tmps) {f : FuncId} {fd : Func} (hf : E.P.funcs[f]? = some fd) (hb : fd.body = none) {args args' : List Value} {an : AN} {H' : AH} (h : callX E H f args = some (an, H')) (hargs : VRs ι args args') : OpOk E ι H w (callFunc f ⟨args'⟩) an H' := by
  rcases oc_some.1 h with ⟨-, k1⟩ | ⟨hk, k1, k2⟩
  · obtain ⟨k2, k3⟩ := bi_none.1 k1
    obtain ⟨x, hx2, k4⟩ := ob_some.1 k3
    obtain ⟨v, hv, k5⟩ := ob_some.1 k4
    obtain ⟨k6, k7⟩ := bi_none.1 k5
    cases k7
    have := plainL_eq k2 hargs
    subst this
    have := nextV_some hv
    subst this
    exact fun _ => ⟨ι, w, Go.refl cx.hr cx.bnd, v, plain_self ι k6, .inl (prun_run _ _ hx2 w)⟩
  · obtain ⟨p, hp, k3⟩ := ob_some.1 k2
    cases k3
    exact hx.ok f hk fd k1 hf hb ι H w ntm T tmps args args' p.1 p.2 cx hargs hp
theorem r_enter {P : Program} {f : FuncId} {fd : Func} {c : Code} {args : Array Value} (hf : P.funcs[f]? = some fd) (hb : fd.body = some c) (hn : (fd.name == "runtime.NumGoroutine") = false) (w : World) : (callFunc f args).run P w = .ok (.enter f args) w := by
  unfold callFunc
  rw [Sem.run_bind, show (program).run P w = .ok P w from rfl, Result.andThen_ok]
  simp only [hf, hn, hb, Bool.false_eq_true, if_false, Option.isNone_some, Sem.run_pure]
theorem callF_ok (hx : HxOk E) (cx : Cx E ι H w ntm T tmps) {f : FuncId} {args args' : List Value} {an : AN} {H' : AH} (h : callF E H f args = some (an, H')) (hargs : VRs ι args args') : OpOk E ι H w (callFunc f ⟨args'⟩) an H' := by
  obtain ⟨fd, hf, k1⟩ := ob_some.1 h
  rcases oc_some.1 k1 with ⟨hb, k2⟩ | ⟨c, hb, k2⟩
  · exact callX_ok hx cx hf hb k2 hargs
  · cases k2
    exact fun _ => ⟨ι, w, Go.refl cx.hr cx.bnd, ⟨args'⟩, hargs, r_enter hf hb (hx.ng f fd hf) w⟩
theorem callA_ok (hx : HxOk E) (cx : Cx E ι H w ntm T tmps) {fn fn' : Fn} {args args' cap cap' : List Value} {an : AN} {H' : AH} (h : callA fn E H args cap = some (an, H')) (hf : FnR ι fn fn') (hargs : VRs ι args args') (hcap : VRs ι cap cap') :
    OpOk E ι H w (invoke (.fn fn' ⟨cap'⟩) ⟨args'⟩) an H' := by
  cases fn with
  | func f =>
    cases fn' with
    | func g =>
      have : f = g := hf
      subst this
      have := callF_ok hx cx (show callF E H f (args ++ cap) = some (an, H') from h) (hargs.append hcap)
      have e : invoke (.fn (.func f) ⟨cap'⟩) ⟨args'⟩ = callFunc f ⟨args' ++ cap'⟩ := by
        show callFunc f (⟨args'⟩ ++ ⟨cap'⟩) = _
        congr 1
        simp
      rw [e]; exact this
    | _ => exact hf.elim
  | yield l =>
    cases fn' with
    | yield m =>
      cases (show some (AN.round l args, H) = some (an, H') from h)
      exact fun _ => ⟨ι, w, Go.refl cx.hr cx.bnd, m, ⟨args'⟩, hf, hargs, rfl, rfl⟩
    | _ => exact hf.elim
  | _ => exact nomatch (show (none : OR) = some (an, H') from h)
theorem findM_eq (n : String) : ∀ (l : List Method), findM n l = l.find? (fun m => m.name == n)
  | [] => rfl
  | m :: r => by
    show bi (m.name == n) (some m) (findM n r) = _
    rw [findM_eq n r, List.find?_cons]
    cases m.name == n <;> rfl
theorem undPtr_none {P : Program} {t : TypeId} {d : TypeDesc} (hd : P.underlying t = some d) (h : undPtr P t = none) : ∀ e, d ≠ .pointer e := by
  intro e he
  subst he
  unfold undPtr at h
  rw [hd] at h
  cases h
theorem recvA_ok (cx : Cx E ι H w ntm T tmps) {t : TypeId} {v v' r : Value} {p : Bool} {name : String} (h : recvA E.P H t v p = some r) (hv : VR ι v v') : ∃ r', VR ι r r' ∧ (receiverAt t (.val v') p (some name)).run E.P w = .ok r' w := by
  obtain ⟨d, hd, k0⟩ := ob_some.1 h
  rcases oc_some.1 k0 with ⟨hu, k1⟩ | ⟨e, hu, k1⟩
  · obtain ⟨k2, k3⟩ := bi_not.1 k1
    cases k3
    subst k2
    refine ⟨v', hv, ?_⟩
    have hne := undPtr_none hd hu
    unfold receiverAt
    rw [Sem.run_bind, run_underlying hd, Result.andThen_ok]
    cases d <;> first | (exact absurd rfl (hne _)) | rfl
  · have hu := undPtr_some hu
    rcases bi_or.1 k1 with ⟨rfl, k2⟩ | ⟨rfl, k2⟩
    · cases k2
      refine ⟨v', hv, ?_⟩
      unfold receiverAt
      rw [Sem.run_bind, run_underlying hu, Result.andThen_ok]
      rfl
    · obtain ⟨a, ha, k3⟩ := ob_some.1 k2
      have := vPtr_some ha; subst this
      obtain ⟨a', r', rfl, h3, h4⟩ := loadA_ok cx.hr k3 hv
      refine ⟨r', h3, ?_⟩
      unfold receiverAt
      rw [Sem.run_bind, run_underlying hu, Result.andThen_ok]
      have hs : ∀ n : String, (Builtin.ssaWrapNilChk_ #[t] t #[.pointer (some a'), strVal "", strVal n]).run E.P w = .ok (.pointer (some a')) w := fun _ => rfl
      simp only [Place.get, Sem.run_bind, Sem.run_pure, Result.andThen_ok, hs, asAddr, h4]
theorem r_callMethod {P : Program} {t : TypeId} {v r : Value} {i : TypeInfo} {m : Method} {name : String} {f : FuncId} {p : Bool} {args : Array Value} {w : World} (hi : P.info? t = some i) (hm : i.methods.find? (fun m => m.name == name) = some m) (hp : m.path = #[]) (hf : m.func = some (f, p))
    (hr : (receiverAt t (.val v) p (some ((name.splitOn ".").getLastD name))).run P w = .ok r w) : (callMethod (.iface t v) name args).run P w = (callFunc f (#[r] ++ args)).run P w := by
  have hpos : ∃ n, P.types.size + Made.depth = n + 1 := ⟨_, (Nat.succ_pred_eq_of_pos (by
    have : 0 < Made.depth := by decide
    omega)).symm⟩
  obtain ⟨n, hn⟩ := hpos
  unfold callMethod
  simp only [Sem.run_bind, show (program).run P w = .ok P w from rfl, Result.andThen_ok, hn, Go.method, r_typeInfo hi, hm, hp, follow, hf]
  have he : (#[] : Array FieldStep).isEmpty = true := rfl
  simp only [he, if_true, Sem.run_bind, hr, Result.andThen_ok, Sem.run_pure]
theorem invokeA_ok (hx : HxOk E) (cx : Cx E ι H w ntm T tmps) {name : String} {recv recv' : Value} {args args' : List Value} {an : AN} {H' : AH} (h : invokeA E H name recv args = some (an, H')) (hv : VR ι recv recv') (hargs : VRs ι args args') : OpOk E ι H w (callMethod recv' name ⟨args'⟩) an H' := by
  obtain ⟨q, hq, k1⟩ := ob_some.1 h
  obtain ⟨i, hi, k2⟩ := ob_some.1 k1
  obtain ⟨m, hm, k3⟩ := ob_some.1 k2
  obtain ⟨k4, k5⟩ := bi_none.1 k3
  obtain ⟨fp, hfp, k6⟩ := ob_some.1 k5
  obtain ⟨r, hr, k7⟩ := ob_some.1 k6
  have := vIface_some hq; subst this
  obtain ⟨u', rfl, hu⟩ := hv.iface_inv
  obtain ⟨r', h1, h2⟩ := recvA_ok (name := (name.splitOn ".").getLastD name) cx hr hu
  have := callF_ok hx cx k7 (.cons h1 hargs)
  rw [findM_eq] at hm
  have e := fun (w' : World) (hr) => r_callMethod (w := w') (r := r') (v := u') (args := ⟨args'⟩) (name := name) hi (by rw [← Array.find?_toList]; exact hm) (by have := nilL_iff.1 k4; rw [← Array.toList_inj]; exact this) hfp hr
  intro hfr
  obtain ⟨ι', w', g, hm⟩ := this hfr
  refine ⟨ι', w', g, ?_⟩
  have e := e w h2
  have e2 : (#[r'] ++ (⟨args'⟩ : Array Value)) = ⟨r' :: args'⟩ := by simp
  rw [e2] at e
  rw [e]
  exact hm
end
end Go.Proofs.YthikcbbfnicnlaaGreatDoor.Ev
namespace Go.Proofs.YthikcbbfnicnlaaGreatDoor.Ev
open Go
set_option linter.unusedVariables false
set_option linter.unusedSimpArgs false
section
variable {E : En} {ι : Ren} {H : AH} {w : World} {ntm : Nat} {T : Tr Value} {tmps : Array Value}
theorem OpOk.congr {s s' : Sem Next} {an : AN} {H' : AH} (e : s'.run E.P w = s.run E.P w) (h : OpOk E ι H w s an H') : OpOk E ι H w s' an H' := by
  intro hfr
  obtain ⟨ι', w', g, hm⟩ := h hfr
  refine ⟨ι', w', g, ?_⟩
  rw [e]
  exact hm
theorem valH_some {x : Option (Value × AH)} {an : AN} {H' : AH} (h : valH x = some (an, H')) : ∃ v, x = some (v, H') ∧ an = .val v := by
  obtain ⟨p, h1, h2⟩ := ob_some.1 h
  cases h2
  exact ⟨_, h1, rfl⟩
theorem builtinA_ok (cx : Cx E ι H w ntm T tmps) {b : Builtin} {ty : TypeId} {ts : List TypeId} {cs : Array Bool} {args args' : List Value} {an : AN} {H' : AH} (h : builtinA b E.P ty ts args H = some (an, H')) (hargs : VRs ι args args') :
    OpOk E ι H w (builtin b ⟨ts⟩ ty cs ⟨args'⟩) an H' := by
  cases b with
  | append =>
    obtain ⟨v, h1, rfl⟩ := valH_some (show valH (appendA E.P H ts args) = some (an, H') from h)
    exact (appendA_ok cx h1 hargs).op
  | copy =>
    obtain ⟨v, h1, rfl⟩ := valH_some (show valH (copyA E.P H ts args) = some (an, H') from h)
    exact (copyA_ok cx h1 hargs).op
  | clear =>
    obtain ⟨v, h1, rfl⟩ := valH_some (show valH (bClear E.P H ts args) = some (an, H') from h)
    exact (bClear_ok cx h1 hargs).op
  | unsafeString =>
    obtain ⟨v, h1, rfl⟩ := valH_some (show valH (bString E.P H ts args) = some (an, H') from h)
    exact (bString_ok cx h1 hargs).op
  | unsafeSliceData =>
    obtain ⟨v, h1, rfl, rfl⟩ := val_some (show val H (bSliceData args) = some (an, H') from h)
    exact (bSliceData_ok cx h1 hargs).op
  | len =>
    obtain ⟨v, h1, rfl, rfl⟩ := val_some (show val H (bLen E.P ts args) = some (an, H') from h)
    exact (bLen_ok cx h1 hargs).op
  | cap =>
    obtain ⟨v, h1, rfl, rfl⟩ := val_some (show val H (bCap E.P ts args) = some (an, H') from h)
    exact (bCap_ok cx h1 hargs).op
  | min =>
    obtain ⟨h0, h⟩ := bi_none.1 (show bi (allL plain args) (val H (pval E.P (Builtin.min_ ⟨ts⟩ ty ⟨args⟩))) none = some (an, H') from h)
    obtain ⟨v, h1, rfl, rfl⟩ := val_some h
    have := plainL_eq h0 hargs
    subst this
    exact (pval_ok cx h1).op
  | max =>
    obtain ⟨h0, h⟩ := bi_none.1 (show bi (allL plain args) (val H (pval E.P (Builtin.max_ ⟨ts⟩ ty ⟨args⟩))) none = some (an, H') from h)
    obtain ⟨v, h1, rfl, rfl⟩ := val_some h
    have := plainL_eq h0 hargs
    subst this
    exact (pval_ok cx h1).op
  | _ => exact nomatch (show (none : OR) = some (an, H') from h)
theorem ok_call (hx : HxOk E) (cx : Cx E ι H w ntm T tmps) (o : Oper) (c : Call) (ho : o.op = .call c) {an : AN} {H' : AH} (h : aCall c E o.type T H = some (an, H')) : OpOk E ι H w (execOp (rho tmps) o) an H' := by
  obtain ⟨args, hargs, k1⟩ := ob_some.1 h
  have ra := opds_ok cx hargs
  obtain ⟨callee, cargs, ctypes⟩ := c
  have hmap : ∀ (f : Operand → Value), cargs.map f = ⟨cargs.toList.map f⟩ := fun f => by apply Array.ext'; simp
  cases callee with
  | value f =>
    obtain ⟨v, hv, k2⟩ := ob_some.1 (show ob (opd f E.g T) (fun v => ob (vFn v) fun q => callA q.1 E H (q.2.1 ++ args) q.2.2) = some (an, H') from k1)
    obtain ⟨q, hq, k3⟩ := ob_some.1 k2
    have := vFn_some hq; subst this
    obtain ⟨fn', l', m', e, h1, h2, h3⟩ := (opd_ok cx hv).fn_inv
    refine OpOk.congr ?_ (callA_ok hx cx k3 h1 (h2.append ra) h3)
    have e2 : (⟨l'⟩ : Array Value) ++ cargs.map (rho tmps) = ⟨l' ++ cargs.toList.map (rho tmps)⟩ := by rw [hmap]; simp
    simp only [execOp, ho, resolve, e, Deferred.ofValue, e2, Sem.run_bind, Sem.run_pure, Result.andThen_ok]
  | invoke r m =>
    obtain ⟨v, hv, k2⟩ := ob_some.1 (show ob (opd r E.g T) (fun v => invokeA E H m v args) = some (an, H') from k1)
    refine OpOk.congr ?_ (invokeA_ok hx cx k2 (opd_ok cx hv) ra)
    have e2 : (#[rho tmps r] : Array Value) ++ cargs.map (rho tmps) = ⟨rho tmps r :: cargs.toList.map (rho tmps)⟩ := by rw [hmap]; simp
    have e3 : (⟨rho tmps r :: cargs.toList.map (rho tmps)⟩ : Array Value)[0]? = some (rho tmps r) := by simp
    have e4 : (⟨rho tmps r :: cargs.toList.map (rho tmps)⟩ : Array Value).extract 1 (⟨rho tmps r :: cargs.toList.map (rho tmps)⟩ : Array Value).size = ⟨cargs.toList.map (rho tmps)⟩ := by
      apply Array.ext'; simp
      rw [List.take_of_length_le (by simp)]
    simp only [execOp, ho, resolve, e2, Sem.run_bind, Sem.run_pure, Result.andThen_ok, invoke, e3, e4]
  | builtin b =>
    have k1 : builtinA b E.P o.type ctypes.toList args H = some (an, H') := k1
    refine OpOk.congr ?_ (builtinA_ok (cs := cargs.map fun | .const _ => true | _ => false) cx k1 ra)
    simp only [execOp, ho, resolve, hmap, Sem.run_bind, Sem.run_pure, Result.andThen_ok, invoke]
    rfl
theorem aop_ok (hx : HxOk E) (cx : Cx E ι H w ntm T tmps) (o : Oper) {an : AN} {H' : AH} (h : aop o.op E o.type T H = some (an, H')) : OpOk E ι H w (execOp (rho tmps) o) an H' := by
  cases ho : o.op <;> rw [ho] at h
  case move x => exact ok_move cx o x (.inl ho) h
  case assign x => exact ok_move cx o x (.inr ho) h
  case pick c a b => exact ok_pick cx o c a b ho h
  case alloc e => exact ok_alloc cx o e ho h
  case box e x => exact ok_box cx o e x ho h
  case build t ps => exact ok_build cx o t ps ho h
  case buildSlice t n ps => exact ok_buildSlice cx o t n ps ho h
  case load t a => exact ok_load cx o t a ho h
  case store t a x => exact ok_store cx o t a x ho h
  case nilCheck x => exact ok_nilCheck cx o x ho h
  case sliceToArrayPointer d x => exact ok_s2A cx o d x ho h
  case binOp op t x y yt => exact ok_bin cx o op t yt x y ho h
  case unOp op t x => exact ok_un cx o op t x ho h
  case convert s d x => exact ok_convert cx o s d x ho h
  case makeInterface t x => exact ok_makeInterface cx o t x ho h
  case makeFunc fn a b => exact ok_makeFunc cx o fn a b ho h
  case makeMap t r => exact ok_makeMap cx o t r ho h
  case makeSlice t l c => exact ok_makeSlice cx o t l c ho h
  case slice t x lo hi mx => exact ok_slice cx o t x lo hi mx ho h
  case fieldAddr s x f => exact ok_fieldAddr cx o s x f ho h
  case field t x f => exact ok_field cx o t x f ho h
  case indexAddr t x ix => exact ok_indexAddr cx o t x ix ho h
  case index t x ix => exact ok_index cx o t x ix ho h
  case lookup t x ix c => exact ok_look cx o t x ix c ho h
  case mapUpdate t m k v => exact ok_mapUpd cx o t m k v (.inl ho) h
  case insert t m k v => exact ok_mapUpd cx o t m k v (.inr ho) h
  case range t x => exact ok_range cx o t x ho h
  case next it s => exact ok_next cx o it s ho h
  case extract t i => exact ok_extract cx o t i ho h
  case call c => exact ok_call hx cx o c ho h
  all_goals exact nomatch (show (none : OR) = some (an, H') from h)
end
end Go.Proofs.YthikcbbfnicnlaaGreatDoor.Ev
namespace Go.Proofs.YthikcbbfnicnlaaGreatDoor.Ev
open Go
set_option linter.unusedVariables false
set_option linter.unusedSimpArgs false
@[simp] theorem next_put (H : AH) (b : Nat) (k : Option Blk) : (H.put b k).next = H.next := rfl
@[simp] theorem next_new (H : AH) (k : Blk) : (H.new k).next = H.next + 1 := rfl
@[simp] theorem next_row (H : AH) (e : TypeId) (l : List Value) : (newRow H e l).next = H.next + 1 := rfl
@[simp] theorem next_exact (H : AH) (e : TypeId) (l : List Value) : (newExact H e l).next = H.next + 1 := rfl
@[simp] theorem next_zeros (H : AH) (e : TypeId) (n : Nat) (z : List Value) : (newZeros H e n z).next = H.next + 1 := rfl
theorem writeB_nn {H H' : AH} {b off : Nat} {l : List Value} {c : Cs} (h : writeB H b off l c = some H') : H'.next = H.next := by
  obtain ⟨-, h2⟩ := bi_none.1 h
  cases h2; rfl
def HxNN (E : En) : Prop := ∀ f h, E.hx f = some h → ∀ args H v H', h args H = some (v, H') → H.next ≤ H'.next
section
variable {E : En} {H H' : AH} {an : AN}
theorem val_nn {x : Option Value} (h : val H x = some (an, H')) : H.next ≤ H'.next := by
  obtain ⟨v, -, -, rfl⟩ := val_some h
  exact Nat.le_refl _
theorem storeA_nn {P : Program} {t : TypeId} {a : Addr} {v : Value} (h : storeA P H t a v = some H') : H.next ≤ H'.next := by
  obtain ⟨p, -, k1⟩ := ob_some.1 h
  obtain ⟨n, -, k2⟩ := ob_some.1 k1
  obtain ⟨-, k3⟩ := bi_none.1 k2
  obtain ⟨c, -, k4⟩ := ob_some.1 k3
  exact Nat.le_of_eq (writeB_nn k4).symm
theorem appOpen_nn {e b o sLen need size : Nat} {new : List Value} {c : Cs} {v : Value} (h : appOpen e H b o sLen need size new c = some (v, H')) : H.next ≤ H'.next := by
  obtain ⟨-, k1⟩ := bi_none.1 h
  rcases bi_or.1 k1 with ⟨-, k2⟩ | ⟨-, k2⟩
  · cases k2; simp
  · obtain ⟨-, k3⟩ := bi_none.1 k2
    obtain ⟨old, -, k4⟩ := ob_some.1 k3
    cases k4; simp
theorem appendA_nn {P : Program} {ts : List TypeId} {args : List Value} {v : Value} (h : appendA P H ts args = some (v, H')) : H.next ≤ H'.next := by
  obtain ⟨-, h⟩ := bi_none.1 h
  obtain ⟨_, -, h⟩ := ob_some.1 h
  obtain ⟨_, -, h⟩ := ob_some.1 h
  obtain ⟨_, -, h⟩ := ob_some.1 h
  obtain ⟨_, -, h⟩ := ob_some.1 h
  obtain ⟨_, -, h⟩ := ob_some.1 h
  obtain ⟨_, -, h⟩ := ob_some.1 h
  obtain ⟨_, -, h⟩ := ob_some.1 h
  obtain ⟨_, -, h⟩ := ob_some.1 h
  obtain ⟨_, -, h⟩ := ob_some.1 h
  obtain ⟨-, h⟩ := bi_none.1 h
  obtain ⟨_, -, h⟩ := ob_some.1 h
  obtain ⟨-, h⟩ := bi_none.1 h
  rcases bi_or.1 h with ⟨-, h⟩ | ⟨-, h⟩
  · obtain ⟨_, -, h⟩ := ob_some.1 h
    obtain ⟨_, -, h⟩ := ob_some.1 h
    obtain ⟨_, -, h⟩ := ob_some.1 h
    exact appOpen_nn h
  · rcases bi_or.1 h with ⟨-, h⟩ | ⟨-, h⟩
    · rcases oc_some.1 h with ⟨-, h⟩ | ⟨_, -, h⟩
      · obtain ⟨-, h⟩ := bi_none.1 h
        cases h; exact Nat.le_refl _
      · obtain ⟨_, -, h⟩ := ob_some.1 h
        obtain ⟨_, -, h⟩ := ob_some.1 h
        obtain ⟨_, h0, h⟩ := ob_some.1 h
        cases h
        exact Nat.le_of_eq (writeB_nn h0).symm
    · obtain ⟨_, -, h⟩ := ob_some.1 h
      obtain ⟨-, h⟩ := bi_none.1 h
      cases h; simp
theorem copyA_nn {P : Program} {ts : List TypeId} {args : List Value} {v : Value} (h : copyA P H ts args = some (v, H')) : H.next ≤ H'.next := by
  obtain ⟨_, -, h⟩ := ob_some.1 h
  obtain ⟨_, -, h⟩ := ob_some.1 h
  obtain ⟨_, -, h⟩ := ob_some.1 h
  obtain ⟨_, -, h⟩ := ob_some.1 h
  obtain ⟨_, -, h⟩ := ob_some.1 h
  obtain ⟨_, -, h⟩ := ob_some.1 h
  obtain ⟨_, -, h⟩ := ob_some.1 h
  obtain ⟨_, -, h⟩ := ob_some.1 h
  rcases oc_some.1 h with ⟨-, h⟩ | ⟨_, -, h⟩
  · cases h; exact Nat.le_refl _
  · obtain ⟨_, -, h⟩ := ob_some.1 h
    obtain ⟨_, -, h⟩ := ob_some.1 h
    obtain ⟨_, h0, h⟩ := ob_some.1 h
    cases h
    exact Nat.le_of_eq (writeB_nn h0).symm
theorem bString_nn {P : Program} {ts : List TypeId} {args : List Value} {v : Value} (h : bString P H ts args = some (v, H')) : H.next ≤ H'.next := by
  obtain ⟨_, -, h⟩ := ob_some.1 h
  obtain ⟨_, -, h⟩ := ob_some.1 h
  obtain ⟨_, -, h⟩ := ob_some.1 h
  obtain ⟨_, -, h⟩ := ob_some.1 h
  obtain ⟨_, -, h⟩ := ob_some.1 h
  obtain ⟨-, h⟩ := bi_none.1 h
  rcases bi_or.1 h with ⟨-, h⟩ | ⟨-, h⟩
  · obtain ⟨-, h⟩ := bi_none.1 h
    cases h; exact Nat.le_refl _
  · obtain ⟨_, -, h⟩ := ob_some.1 h
    obtain ⟨_, -, h⟩ := ob_some.1 h
    obtain ⟨_, -, h⟩ := ob_some.1 h
    obtain ⟨-, h⟩ := bi_none.1 h
    obtain ⟨_, -, h⟩ := ob_some.1 h
    obtain ⟨_, -, h⟩ := ob_some.1 h
    cases h; exact Nat.le_refl _
theorem callF_nn (hx : HxNN E) {f : FuncId} {args : List Value} (h : callF E H f args = some (an, H')) : H.next ≤ H'.next := by
  obtain ⟨fd, -, k1⟩ := ob_some.1 h
  rcases oc_some.1 k1 with ⟨-, k2⟩ | ⟨c, -, k2⟩
  · rcases oc_some.1 k2 with ⟨-, k3⟩ | ⟨hk, h0, k3⟩
    · obtain ⟨-, k3⟩ := bi_none.1 k3
      obtain ⟨_, -, k3⟩ := ob_some.1 k3
      obtain ⟨_, -, k3⟩ := ob_some.1 k3
      obtain ⟨-, k3⟩ := bi_none.1 k3
      cases k3; exact Nat.le_refl _
    · obtain ⟨v, h1, rfl⟩ := valH_some k3
      exact hx _ _ h0 _ _ _ _ h1
  · cases k2; exact Nat.le_refl _
theorem callA_nn (hx : HxNN E) {fn : Fn} {args cap : List Value} (h : callA fn E H args cap = some (an, H')) : H.next ≤ H'.next := by
  cases fn with
  | func f => exact callF_nn hx (show callF E H f (args ++ cap) = some (an, H') from h)
  | yield l => cases (show some (AN.round l args, H) = some (an, H') from h); exact Nat.le_refl _
  | _ => exact nomatch (show (none : OR) = some (an, H') from h)
theorem builtinA_nn {b : Builtin} {P : Program} {ty : TypeId} {ts : List TypeId} {args : List Value} (h : builtinA b P ty ts args H = some (an, H')) : H.next ≤ H'.next := by
  cases b with
  | append => obtain ⟨v, h1, rfl⟩ := valH_some (show valH (appendA P H ts args) = some (an, H') from h); exact appendA_nn h1
  | copy => obtain ⟨v, h1, rfl⟩ := valH_some (show valH (copyA P H ts args) = some (an, H') from h); exact copyA_nn h1
  | clear =>
    obtain ⟨v, h1, rfl⟩ := valH_some (show valH (bClear P H ts args) = some (an, H') from h)
    obtain ⟨t, ht, k1⟩ := ob_some.1 h1
    obtain ⟨x, hx, k2⟩ := ob_some.1 k1
    obtain ⟨r, hr, k3⟩ := ob_some.1 k2
    obtain ⟨m, hm, k4⟩ := ob_some.1 k3
    rcases oc_some.1 k4 with ⟨-, k5⟩ | ⟨r0, -, k5⟩
    · cases k5; exact Nat.le_refl _
    · obtain ⟨q, hq, k6⟩ := ob_some.1 k5
      cases k6; exact Nat.le_refl _
  | unsafeString => obtain ⟨v, h1, rfl⟩ := valH_some (show valH (bString P H ts args) = some (an, H') from h); exact bString_nn h1
  | unsafeSliceData => exact val_nn (show val H (bSliceData args) = some (an, H') from h)
  | len => exact val_nn (show val H (bLen P ts args) = some (an, H') from h)
  | cap => exact val_nn (show val H (bCap P ts args) = some (an, H') from h)
  | min => exact val_nn (bi_none.1 (show bi (allL plain args) (val H (pval P (Builtin.min_ ⟨ts⟩ ty ⟨args⟩))) none = some (an, H') from h)).2
  | max => exact val_nn (bi_none.1 (show bi (allL plain args) (val H (pval P (Builtin.max_ ⟨ts⟩ ty ⟨args⟩))) none = some (an, H') from h)).2
  | _ => exact nomatch (show (none : OR) = some (an, H') from h)
theorem aCall_nn (hx : HxNN E) {c : Call} {ty : TypeId} {T : Tr Value} (h : aCall c E ty T H = some (an, H')) : H.next ≤ H'.next := by
  obtain ⟨args, -, k1⟩ := ob_some.1 h
  obtain ⟨callee, cargs, ctypes⟩ := c
  cases callee with
  | value f =>
    obtain ⟨v, -, k2⟩ := ob_some.1 (show ob (opd f E.g T) (fun v => ob (vFn v) fun q => callA q.1 E H (q.2.1 ++ args) q.2.2) = some (an, H') from k1)
    obtain ⟨q, -, k3⟩ := ob_some.1 k2
    exact callA_nn hx k3
  | invoke r m =>
    obtain ⟨v, -, k2⟩ := ob_some.1 (show ob (opd r E.g T) (fun v => invokeA E H m v args) = some (an, H') from k1)
    obtain ⟨_, -, k2⟩ := ob_some.1 k2
    obtain ⟨_, -, k2⟩ := ob_some.1 k2
    obtain ⟨_, -, k2⟩ := ob_some.1 k2
    obtain ⟨-, k2⟩ := bi_none.1 k2
    obtain ⟨_, -, k2⟩ := ob_some.1 k2
    obtain ⟨_, -, k2⟩ := ob_some.1 k2
    exact callF_nn hx k2
  | builtin b => exact builtinA_nn (show builtinA b E.P ty ctypes.toList args H = some (an, H') from k1)
theorem aop_nn (hx : HxNN E) {op : Op} {ty : TypeId} {T : Tr Value} (h : aop op E ty T H = some (an, H')) : H.next ≤ H'.next := by
  cases op
  case call c => exact aCall_nn hx h
  case store t a x =>
    obtain ⟨_, -, h⟩ := ob_some.1 (show aStore t a x E ty T H = some (an, H') from h)
    obtain ⟨_, -, h⟩ := ob_some.1 h
    obtain ⟨_, -, h⟩ := ob_some.1 h
    obtain ⟨_, h0, h⟩ := ob_some.1 h
    cases h
    exact storeA_nn h0
  case move x => exact val_nn h
  case assign x => exact val_nn h
  case pick c a b =>
    obtain ⟨_, -, h⟩ := ob_some.1 (show aPick c a b E ty T H = some (an, H') from h)
    obtain ⟨_, -, h⟩ := ob_some.1 h
    exact val_nn h
  case alloc e =>
    obtain ⟨_, -, h⟩ := ob_some.1 (show aAlloc e E ty T H = some (an, H') from h)
    cases h; simp
  case box e x =>
    obtain ⟨_, -, h⟩ := ob_some.1 (show aBox e x E ty T H = some (an, H') from h)
    cases h; simp
  case build t ps =>
    obtain ⟨_, -, h⟩ := ob_some.1 (show aBuild t ps E ty T H = some (an, H') from h)
    exact val_nn h
  case buildSlice t n ps =>
    obtain ⟨_, -, h⟩ := ob_some.1 (show aBuildSlice t n ps E ty T H = some (an, H') from h)
    obtain ⟨_, -, h⟩ := ob_some.1 h
    obtain ⟨_, -, h⟩ := ob_some.1 h
    obtain ⟨_, -, h⟩ := ob_some.1 h
    obtain ⟨-, h⟩ := bi_none.1 h
    obtain ⟨_, -, h⟩ := ob_some.1 h
    cases h; simp
  case load t a =>
    obtain ⟨_, -, h⟩ := ob_some.1 (show aLoad t a E ty T H = some (an, H') from h)
    obtain ⟨_, -, h⟩ := ob_some.1 h
    exact val_nn h
  case nilCheck x =>
    obtain ⟨_, -, h⟩ := ob_some.1 (show aNilCheck x E ty T H = some (an, H') from h)
    exact val_nn h
  case sliceToArrayPointer d x =>
    obtain ⟨_, -, h⟩ := ob_some.1 (show aS2A d x E ty T H = some (an, H') from h)
    exact val_nn h
  case binOp op t x y yt =>
    obtain ⟨_, -, h⟩ := ob_some.1 (show aBin op t x y E ty T H = some (an, H') from h)
    obtain ⟨_, -, h⟩ := ob_some.1 h
    exact val_nn h
  case unOp op t x =>
    obtain ⟨_, -, h⟩ := ob_some.1 (show aUn op x E ty T H = some (an, H') from h)
    exact val_nn (bi_none.1 h).2
  case convert s d x =>
    obtain ⟨_, -, h⟩ := ob_some.1 (show aConvert s d x E ty T H = some (an, H') from h)
    rcases oc_some.1 h with ⟨-, h⟩ | ⟨_, -, h⟩
    · rcases oc_some.1 h with ⟨-, h⟩ | ⟨_, -, h⟩
      · exact val_nn (bi_none.1 h).2
      · obtain ⟨_, -, h⟩ := ob_some.1 (bi_none.1 h).2
        have := (bi_none.1 h).2
        cases this; simp
    · rcases bi_or.1 h with ⟨-, h⟩ | ⟨-, h⟩
      · obtain ⟨_, -, h⟩ := ob_some.1 (bi_none.1 h).2
        obtain ⟨_, -, h⟩ := ob_some.1 h
        obtain ⟨_, -, h⟩ := ob_some.1 h
        obtain ⟨_, -, h⟩ := ob_some.1 h
        obtain ⟨-, h⟩ := bi_none.1 h
        cases h; exact Nat.le_refl _
      obtain ⟨_, -, h⟩ := ob_some.1 (bi_none.1 h).2
      obtain ⟨_, -, h⟩ := ob_some.1 h
      obtain ⟨_, -, h⟩ := ob_some.1 h
      cases h; exact Nat.le_refl _
  case makeInterface t x =>
    obtain ⟨_, -, h⟩ := ob_some.1 (show aMakeInterface t x E ty T H = some (an, H') from h)
    obtain ⟨_, -, h⟩ := ob_some.1 h
    obtain ⟨-, h⟩ := bi_not.1 h
    cases h; exact Nat.le_refl _
  case makeFunc fn a b =>
    obtain ⟨-, h⟩ := bi_none.1 (show aMakeFunc fn a b E ty T H = some (an, H') from h)
    obtain ⟨_, -, h⟩ := ob_some.1 h
    obtain ⟨_, -, h⟩ := ob_some.1 h
    cases h; exact Nat.le_refl _
  case makeMap t r =>
    obtain ⟨-, h⟩ := bi_none.1 (show aMakeMap r E ty T H = some (an, H') from h)
    cases h; simp
  case makeSlice t l c =>
    obtain ⟨_, -, h⟩ := ob_some.1 (show aMakeSlice t l c E ty T H = some (an, H') from h)
    obtain ⟨_, -, h⟩ := ob_some.1 h
    obtain ⟨_, -, h⟩ := ob_some.1 h
    obtain ⟨_, -, h⟩ := ob_some.1 h
    obtain ⟨_, -, h⟩ := ob_some.1 h
    obtain ⟨_, -, h⟩ := ob_some.1 h
    obtain ⟨_, -, h⟩ := ob_some.1 h
    obtain ⟨-, h⟩ := bi_none.1 h
    cases h; simp
  case slice t x lo hi mx =>
    obtain ⟨_, -, h⟩ := ob_some.1 (show aSlice t x lo hi mx E ty T H = some (an, H') from h)
    obtain ⟨_, -, h⟩ := ob_some.1 h
    obtain ⟨_, -, h⟩ := ob_some.1 h
    obtain ⟨_, -, h⟩ := ob_some.1 h
    exact val_nn h
  case fieldAddr s x f =>
    obtain ⟨_, -, h⟩ := ob_some.1 (show aFieldAddr s x f E ty T H = some (an, H') from h)
    obtain ⟨_, -, h⟩ := ob_some.1 h
    obtain ⟨_, -, h⟩ := ob_some.1 h
    obtain ⟨_, -, h⟩ := ob_some.1 h
    obtain ⟨_, -, h⟩ := ob_some.1 h
    obtain ⟨-, h⟩ := bi_not.1 h
    cases h; exact Nat.le_refl _
  case field t x f =>
    obtain ⟨_, -, h⟩ := ob_some.1 (show aField t x f E ty T H = some (an, H') from h)
    obtain ⟨_, -, h⟩ := ob_some.1 h
    obtain ⟨_, -, h⟩ := ob_some.1 h
    exact val_nn h
  case indexAddr t x ix =>
    obtain ⟨_, -, h⟩ := ob_some.1 (show aIndexAddr t x ix E ty T H = some (an, H') from h)
    obtain ⟨_, -, h⟩ := ob_some.1 h
    obtain ⟨_, -, h⟩ := ob_some.1 h
    have fin : ∀ {elem : TypeId} {len : Nat} {a : Addr} {i : Nat}, idxAt E.P H elem len a i = some (an, H') → H.next ≤ H'.next := by
      intro elem len a i h
      obtain ⟨_, -, h⟩ := ob_some.1 h
      obtain ⟨_, -, h⟩ := ob_some.1 h
      obtain ⟨-, h⟩ := bi_none.1 h
      cases h; exact Nat.le_refl _
    rcases oc_some.1 h with ⟨-, h⟩ | ⟨_, -, h⟩
    · obtain ⟨_, -, h⟩ := ob_some.1 h
      obtain ⟨_, -, h⟩ := ob_some.1 h
      exact fin h
    · obtain ⟨_, -, h⟩ := ob_some.1 h
      obtain ⟨_, -, h⟩ := ob_some.1 h
      exact fin h
  case index t x ix =>
    obtain ⟨_, -, h⟩ := ob_some.1 (show aIndex t x ix E ty T H = some (an, H') from h)
    obtain ⟨_, -, h⟩ := ob_some.1 h
    rcases oc_some.1 h with ⟨-, h⟩ | ⟨_, -, h⟩
    · obtain ⟨_, -, h⟩ := ob_some.1 h
      obtain ⟨_, -, h⟩ := ob_some.1 h
      obtain ⟨-, h⟩ := bi_none.1 h
      obtain ⟨_, -, h⟩ := ob_some.1 h
      cases h; exact Nat.le_refl _
    · obtain ⟨_, -, h⟩ := ob_some.1 h
      obtain ⟨_, -, h⟩ := ob_some.1 h
      obtain ⟨_, -, h⟩ := ob_some.1 h
      exact val_nn (bi_none.1 h).2
  case lookup t x ix c =>
    rcases oc_some.1 (show aLook t x ix c E ty T H = some (an, H') from h) with ⟨-, h⟩ | ⟨_, -, h⟩
    rotate_left
    · obtain ⟨_, -, h⟩ := ob_some.1 (show aLookupS t x ix c E ty T H = some (an, H') from h)
      obtain ⟨_, -, h⟩ := ob_some.1 h
      obtain ⟨_, -, h⟩ := ob_some.1 h
      obtain ⟨_, -, h⟩ := ob_some.1 h
      obtain ⟨_, -, h⟩ := ob_some.1 (bi_none.1 h).2
      cases h; exact Nat.le_refl _
    obtain ⟨_, -, h⟩ := ob_some.1 (show aLookup t x ix c E ty T H = some (an, H') from h)
    obtain ⟨_, -, h⟩ := ob_some.1 h
    obtain ⟨_, -, h⟩ := ob_some.1 h
    obtain ⟨_, -, h⟩ := ob_some.1 h
    obtain ⟨_, -, h⟩ := ob_some.1 h
    obtain ⟨_, -, h⟩ := ob_some.1 h
    obtain ⟨_, -, h⟩ := ob_some.1 (bi_none.1 h).2
    cases h; exact Nat.le_refl _
  case mapUpdate t m k v =>
    rcases oc_some.1 (show aMapUpd t m k v E ty T H = some (an, H') from h) with ⟨-, h⟩ | ⟨_, -, h⟩
    rotate_left
    · obtain ⟨_, -, h⟩ := ob_some.1 (show aMapUpdS t m k v E ty T H = some (an, H') from h)
      obtain ⟨_, -, h⟩ := ob_some.1 h
      obtain ⟨_, -, h⟩ := ob_some.1 h
      obtain ⟨_, -, h⟩ := ob_some.1 h
      obtain ⟨_, -, h⟩ := ob_some.1 h
      obtain ⟨_, -, h⟩ := ob_some.1 h
      obtain ⟨_, -, h⟩ := ob_some.1 (bi_none.1 h).2
      obtain ⟨_, -, h⟩ := ob_some.1 h
      rcases oc_some.1 h with ⟨-, h⟩ | ⟨_, -, h⟩
      · cases h; exact Nat.le_refl _
      · obtain ⟨_, -, h⟩ := ob_some.1 h
        have h := (bi_none.1 h).2
        cases h; exact Nat.le_refl _
    obtain ⟨_, -, h⟩ := ob_some.1 (show aMapUpdate t m k v E ty T H = some (an, H') from h)
    obtain ⟨_, -, h⟩ := ob_some.1 h
    obtain ⟨_, -, h⟩ := ob_some.1 h
    obtain ⟨_, -, h⟩ := ob_some.1 h
    obtain ⟨_, -, h⟩ := ob_some.1 h
    obtain ⟨_, -, h⟩ := ob_some.1 h
    obtain ⟨_, -, h⟩ := ob_some.1 h
    obtain ⟨_, -, h⟩ := ob_some.1 h
    obtain ⟨_, -, h⟩ := ob_some.1 (bi_none.1 h).2
    obtain ⟨_, -, h⟩ := ob_some.1 h
    cases h; exact Nat.le_refl _
  case insert t m k v =>
    rcases oc_some.1 (show aMapUpd t m k v E ty T H = some (an, H') from h) with ⟨-, h⟩ | ⟨_, -, h⟩
    rotate_left
    · obtain ⟨_, -, h⟩ := ob_some.1 (show aMapUpdS t m k v E ty T H = some (an, H') from h)
      obtain ⟨_, -, h⟩ := ob_some.1 h
      obtain ⟨_, -, h⟩ := ob_some.1 h
      obtain ⟨_, -, h⟩ := ob_some.1 h
      obtain ⟨_, -, h⟩ := ob_some.1 h
      obtain ⟨_, -, h⟩ := ob_some.1 h
      obtain ⟨_, -, h⟩ := ob_some.1 (bi_none.1 h).2
      obtain ⟨_, -, h⟩ := ob_some.1 h
      rcases oc_some.1 h with ⟨-, h⟩ | ⟨_, -, h⟩
      · cases h; exact Nat.le_refl _
      · obtain ⟨_, -, h⟩ := ob_some.1 h
        have h := (bi_none.1 h).2
        cases h; exact Nat.le_refl _
    obtain ⟨_, -, h⟩ := ob_some.1 (show aMapUpdate t m k v E ty T H = some (an, H') from h)
    obtain ⟨_, -, h⟩ := ob_some.1 h
    obtain ⟨_, -, h⟩ := ob_some.1 h
    obtain ⟨_, -, h⟩ := ob_some.1 h
    obtain ⟨_, -, h⟩ := ob_some.1 h
    obtain ⟨_, -, h⟩ := ob_some.1 h
    obtain ⟨_, -, h⟩ := ob_some.1 h
    obtain ⟨_, -, h⟩ := ob_some.1 h
    obtain ⟨_, -, h⟩ := ob_some.1 (bi_none.1 h).2
    obtain ⟨_, -, h⟩ := ob_some.1 h
    cases h; exact Nat.le_refl _
  case range t x =>
    obtain ⟨_, -, h⟩ := ob_some.1 (bi_none.1 (show aRange t x E ty T H = some (an, H') from h)).2
    obtain ⟨_, -, h⟩ := ob_some.1 h
    cases h; simp
  case next it s =>
    obtain ⟨_, -, h⟩ := ob_some.1 (bi_none.1 (show aNext it s E ty T H = some (an, H') from h)).2
    obtain ⟨_, -, h⟩ := ob_some.1 h
    obtain ⟨_, -, h⟩ := ob_some.1 h
    obtain ⟨_, -, h⟩ := ob_some.1 (bi_none.1 h).2
    obtain ⟨_, -, h⟩ := ob_some.1 h
    rcases bi_or.1 h with ⟨-, h⟩ | ⟨-, h⟩ <;> cases h <;> exact Nat.le_refl _
  case extract t i =>
    obtain ⟨_, -, h⟩ := ob_some.1 (show aExtract t i E ty T H = some (an, H') from h)
    obtain ⟨_, -, h⟩ := ob_some.1 h
    exact val_nn h
  all_goals exact nomatch (show (none : OR) = some (an, H') from h)
end
end Go.Proofs.YthikcbbfnicnlaaGreatDoor.Ev
