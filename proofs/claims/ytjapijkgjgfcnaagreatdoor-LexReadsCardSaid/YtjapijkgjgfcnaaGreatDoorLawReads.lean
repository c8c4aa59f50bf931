/- LexReads: the walk of the law. -/
import Derived.Test.YtjapijkgjgfcnaaGreatDoorTokSame
import Derived.Test.YtjapijkgjgfcnaaGreatDoorRTokens
namespace Go.Proofs.YtjapijkgjgfcnaaGreatDoor
open Go.RowKit Go.Shelf
set_option linter.unusedVariables false
set_option linter.unusedSimpArgs false

/-- Only numbers of numbers' own blocks, within two bounds, are turned. -/
def Bumped (base lim : Nat) (w wr : World) : Prop :=
  w.heap.size ≤ wr.heap.size ∧ ∀ q, q < w.heap.size → wr.heap[q]? = w.heap[q]? ∨ (base ≤ q ∧ q < lim ∧ ∃ (cs cs' : Array Value) (t : TypeId), t ≠ 34 ∧ w.heap[q]? = some (.cells cs t) ∧ wr.heap[q]? = some (.cells cs' t) ∧ ∀ (i : Nat) (x : Int), cs[i]? = some (Value.int .i64 x) → ∃ y, cs'[i]? = some (Value.int .i64 y))
theorem Bumped.refl (base lim : Nat) (w : World) : Bumped base lim w w := ⟨Nat.le_refl _, fun q _ => .inl rfl⟩
theorem Bumped.tok {base lim : Nat} {w wr : World} (h : Bumped base lim w wr) {q : Nat} {cs : Array Value} (hq : w.heap[q]? = some (.cells cs 34)) : wr.heap[q]? = w.heap[q]? := by
  rcases h.2 q (Array.getElem?_eq_some_iff.1 hq).1 with e | ⟨_, _, cs1, cs2, t, ht, e, _⟩
  · exact e
  · rw [hq] at e; cases e; exact absurd rfl ht
theorem Bumped.far {base lim : Nat} {w wr : World} (h : Bumped base lim w wr) {q : Nat} (h1 : lim ≤ q) (hq : q < w.heap.size) : wr.heap[q]? = w.heap[q]? := by
  rcases h.2 q hq with e | ⟨_, h2, _⟩
  · exact e
  · omega
theorem Bumped.old {base lim : Nat} {w wr : World} (h : Bumped base lim w wr) {q : Nat} (h1 : q < base) (hq : q < w.heap.size) : wr.heap[q]? = w.heap[q]? := by
  rcases h.2 q hq with e | ⟨h2, _⟩
  · exact e
  · omega
theorem Bumped.num {base lim : Nat} {w wr : World} (h : Bumped base lim w wr) {q i : Nat} {cs : Array Value} {t : TypeId} {x : Int} (hq : w.heap[q]? = some (.cells cs t)) (hx : cs[i]? = some (.int .i64 x)) :
    ∃ y, wr.cell? ⟨q, i, none⟩ = some (.int .i64 y) ∧ wr.frozen? ⟨q, i, none⟩ = false := by
  rcases h.2 q (Array.getElem?_eq_some_iff.1 hq).1 with e | ⟨_, _, cs1, cs2, t', _, e1, e2, e3⟩
  · rw [hq] at e
    exact ⟨x, by rw [Lib.cell_of_heap e]; exact hx, Lib.frozen_of_heap e i⟩
  · rw [hq] at e1; cases e1
    obtain ⟨y, hy⟩ := e3 i x hx
    exact ⟨y, by rw [Lib.cell_of_heap e2]; exact hy, Lib.frozen_of_heap e2 i⟩
theorem Bumped.set {base lim : Nat} {w wr : World} (h : Bumped base lim w wr) {q i : Nat} {cs : Array Value} {t : TypeId} (hq : w.heap[q]? = some (.cells cs t)) (ht : t ≠ 34) (h1 : base ≤ q) (h2 : q < lim) (u : Int) :
    Bumped base lim w (wr.setCell ⟨q, i, none⟩ (.int .i64 u)) := by
  refine ⟨by have := h.1; simpa [World.setCell] using this, fun j hj => ?_⟩
  by_cases e : j = q
  · subst e
    right
    obtain ⟨cs', hc, hn⟩ : ∃ cs', wr.heap[j]? = some (.cells cs' t) ∧ ∀ (i : Nat) (x : Int), cs[i]? = some (Value.int .i64 x) → ∃ y, cs'[i]? = some (Value.int .i64 y) := by
      rcases h.2 j hj with e | ⟨_, _, cs1, cs2, t', _, e1, e2, e3⟩
      · exact ⟨cs, e.trans hq, fun i x hx => ⟨x, hx⟩⟩
      · rw [hq] at e1; cases e1; exact ⟨cs2, e2, e3⟩
    refine ⟨h1, h2, cs, cs'.setIfInBounds i (.int .i64 u), t, ht, hq, heap_set1 hc _, fun k x hx => ?_⟩
    obtain ⟨y, hy⟩ := hn k x hx
    by_cases hk : i = k
    · subst hk
      have hlt := (Array.getElem?_eq_some_iff.1 hy).1
      exact ⟨u, by rw [Array.getElem?_setIfInBounds_self_of_lt hlt]⟩
    · exact ⟨y, by rw [Array.getElem?_setIfInBounds_ne hk]; exact hy⟩
  · rcases h.2 j hj with e1 | ⟨a, b, cs1, cs2, t', c1, c2, c3, c4⟩
    · exact .inl ((Below.heap_setCell _ _ _ _ e).trans e1)
    · exact .inr ⟨a, b, cs1, cs2, t', c1, c2, (Below.heap_setCell _ _ _ _ e).trans c3, c4⟩
theorem own_kept {w wr : World} {lim k n : Nat} {e : TypeId} {v : Value} {xs : List Value} (h : w.ownsRow lim e k v n xs) (hs : ∀ q, lim ≤ q → q < w.heap.size → wr.heap[q]? = w.heap[q]?) : wr.ownsRow lim e k v n xs := by
  obtain ⟨h1, h2 | ⟨g, cap, cur, hv, h3, h4, h5⟩⟩ := h
  · exact ⟨h1, .inl h2⟩
  · exact ⟨h1, .inr ⟨g, cap, cur, hv, h3, (hs g h3 (Array.getElem?_eq_some_iff.1 h4).1).trans h4, h5⟩⟩
theorem Bumped.toks {base lim : Nat} {w wr : World} (h : Bumped base lim w wr) {v : Value} {us : List (List Value)} {T : List Tok} (h1 : w.ownsRow lim 34 5 v T.length us.flatten) (h2 : ToksOwn w lim us T) : IsToks wr v T :=
  IsToks.of_own (own_kept h1 fun q a b => h.far a b) (h2.map fun v t ⟨vs, ve, e, o1, o2, o3⟩ => ⟨vs, ve, e, own_kept o1 fun q a b => h.far a b, own_kept o2 fun q a b => h.far a b, o3⟩)

theorem TokAt.kept {w wr : World} {b o : Nat} {t : Tok} {vs ve : Value} (h : TokAt w b o t vs ve) (e : wr.heap[b]? = w.heap[b]?) : TokAt wr b o t vs ve :=
  ⟨(World.cell?_of_block e).trans h.1, (World.cell?_of_block e).trans h.2.1, (World.cell?_of_block e).trans h.2.2.1, (World.cell?_of_block e).trans h.2.2.2.1, (World.cell?_of_block e).trans h.2.2.2.2⟩

/-- A token of a list of one's own: its cells, and its numbers' blocks. -/
theorem own_tok {w : World} {base : Nat} {v : Value} {us : List (List Value)} {T : List Tok} (h : w.ownsRow base 34 5 v T.length us.flatten) (ht : ToksOwn w base us T) {k : Nat} {t : Tok} (hk : T[k]? = some t) :
    ∃ g vs ve cap cur, v = .slice (some ⟨g, 0, none⟩) T.length cap ∧ w.heap[g]? = some (.cells cur 34) ∧ TokAt w g (k * 5) t vs ve ∧
      w.ownsRow base 3 1 vs t.val.shape.length (t.val.shape.map (.int .i64)) ∧ w.ownsRow base 2 1 ve t.val.elems.length (t.val.elems.map (.int .i64)) := by
  obtain ⟨h1, ⟨rfl, h2⟩ | ⟨g, cap, cur, rfl, h3, h4, h5, h6, h7, h8⟩⟩ := h
  · obtain rfl : T = [] := List.eq_nil_of_length_eq_zero h2
    simp at hk
  · obtain ⟨hk', rfl⟩ := List.getElem?_eq_some_iff.1 hk
    obtain ⟨u, hu1, hu2, hu3⟩ := ht.at k hk'
    have h5' := tok_five hu2
    obtain ⟨vs, ve, hu, o1, o2, o3⟩ := hu2
    have hu' : u = [.int .i64 T[k].kind, .string (bs T[k].txt), .int .i64 T[k].val.kind, vs, ve] := by
      have : u.toArray = #[.int .i64 T[k].kind, .string (bs T[k].txt), .int .i64 T[k].val.kind, vs, ve] := by simpa using hu
      simpa using congrArg Array.toList this
    rw [← h8] at hu3
    have hc : ∀ i, i < 5 → w.cell? ⟨g, k * 5 + i, none⟩ = u[i]? := by
      intro i hi
      have := take_get hu3 hi h5'
      rw [World.cell?, h4]
      simp only
      rw [← Array.getElem?_toList, this]
      cases u[i]? <;> rfl
    refine ⟨g, vs, ve, cap, cur, rfl, h4, ⟨?_, ?_, ?_, ?_, ?_⟩, o1, o2⟩
    · have := hc 0 (by omega); rw [hu'] at this; exact this
    · have := hc 1 (by omega); rw [hu'] at this; exact this
    · have := hc 2 (by omega); rw [hu'] at this; exact this
    · have := hc 3 (by omega); rw [hu'] at this; exact this
    · have := hc 4 (by omega); rw [hu'] at this; exact this

/-- Number j of a row of one's own: where it lies, whatever has been turned. -/
theorem own_num {w : World} {base n : Nat} {e : TypeId} {v : Value} {xs : List Int} (h : w.ownsRow base e 1 v n (xs.map (.int .i64))) (hn : 0 < n) :
    ∃ g cap cs, v = .slice (some ⟨g, 0, none⟩) n cap ∧ n ≤ cap ∧ cap ≤ 9223372036854775807 ∧ base ≤ g ∧ w.heap[g]? = some (.cells cs e) ∧ ∀ j, j < n → ∃ x, cs[j]? = some (.int .i64 x) := by
  obtain ⟨h1, ⟨rfl, h2⟩ | ⟨g, cap, cur, rfl, h3, h4, h5, h6, h7, h8⟩⟩ := h
  · omega
  · refine ⟨g, cap, cur, rfl, h5, by simpa [maxLen] using h6, h3, h4, fun j hj => ?_⟩
    have hl : xs.length = n := by simpa using h1
    refine ⟨xs[j]'(by omega), ?_⟩
    have h9 : (cur.toList.take (n * 1))[j]? = some (.int .i64 (xs[j]'(by omega))) := by rw [h8, List.getElem?_map, List.getElem?_eq_getElem (by omega)]; rfl
    rw [List.getElem?_take_of_lt (by omega), Array.getElem?_toList] at h9
    exact h9

set_option maxRecDepth 100000 in
set_option maxHeartbeats 4000000 in
theorem reads_walk (s : ByteArray) (w : World) (hG : Glob w) (hs0 : s.size ≤ 9223372036854775807) :
    Calls Tryz.prog 3 #[.string s] w fun e w' => e = .returned (.bool true) ∧ Below w.heap.size w w' := by
  have hsz : (s.size : Int) ≤ 9223372036854775807 := by omega
  go_enter Tryz.func3, Tryz.ntmps3
  by_cases hlen : 20000 < s.size
  · have d1 : decide (20000 < s.size) = true := by simpa using hlen
    have d2 : decide ((20000 : Int) < (s.size : Int)) = true := by simp; omega
    clear hlen
    go_wp2_with fail
    go_ret
    exact ⟨rfl, Below.refl _ _⟩
  · have d1 : decide (20000 < s.size) = false := by simpa using hlen
    have d2 : decide ((20000 : Int) < (s.size : Int)) = false := by simp; omega
    obtain ⟨l, rfl⟩ : ∃ l, s = bs l := ⟨s.data.toList, rfl⟩
    have hl : l.length ≤ 20000 := by rw [bs_size] at hlen; omega
    have HL := hid hl
    clear hlen hl
    go_wp2_with fail
    refine (tokens_any l _ hG (by have := HL.out; omega)).mono ?_
    rintro e w1 ⟨⟨v1, us1, rfl, hrow1, htoks1⟩, b1⟩
    obtain ⟨a1, c1, rfl⟩ := own_slice hrow1
    have hG1 := hG.below b1
    go_wp2_with fail
    refine (rtokens_any l _ (by have := HL.out; omega)).mono ?_
    rintro e w2 ⟨⟨v2, us2, rfl, hrow2, htoks2⟩, b2⟩
    obtain ⟨a2, c2, rfl⟩ := own_slice hrow2
    have HR := hid (fun W (h : Glob W) => tokens_any l W h (by have := HL.out; omega))
    generalize tokensOf l = TT at *
    obtain ⟨T, er⟩ := TT
    simp only at hrow1 htoks1 hrow2 htoks2 HR ⊢
    have hrow1' := owns_below hrow1 b2
    have htoks1' := htoks1.map (fun v t ht => ht.below b2)
    have hB2 := b1.trans (b2.mono b1.size)
    have hx := IsToks.of_own hrow1' htoks1'
    have hy := IsToks.of_own hrow2 htoks2
    go_wp2_with fail
    refine (rtsame_any _ _ T T _ hx hy).mono ?_
    rintro e w3 ⟨rfl, b3⟩
    rw [decide_eq_true rfl]
    have te : (er != er) = false := by simp
    have hrow3 := owns_below hrow1' b3
    have htoks3 := htoks1'.map (fun v t ht => ht.below b3)
    have hrowY := owns_below hrow2 b3
    have htoksY := htoks2.map (fun v t ht => ht.below b3)
    have hB3 := hB2.trans (b3.mono hB2.size)
    have hG3 := (hG1.below b2).below b3
    have hlim : w1.heap.size ≤ w3.heap.size := Nat.le_trans b2.size b3.size
    have b13 : Below w1.heap.size w1 w3 := b2.trans (b3.mono b2.size)
    have hbs := b1.size
    have hTl : T.length ≤ 9223372036854775807 := by
      obtain ⟨a, cap, e, h1, h2, -⟩ := hx
      omega
    have Hrow1 := hid hrow1
    have Htoks1 := hid htoks1
    have HrowY := hid hrowY
    have HtoksY := hid htoksY
    clear hrow1' htoks1' hx hy b2 b3 hB2 hrow2 htoks2 hrow3 htoks3 hrowY htoksY hrow1 htoks1 hG1 hG3
    go_wp2_with fail
    go_loopw [7, 8, 9, 36] (fun _ _ _ i wr => ∃ k : Nat, k ≤ T.length ∧ i = .int .i64 k ∧ Bumped w.heap.size w1.heap.size w3 wr ∧ Below w.heap.size w wr) (fun _ _ _ i _ => T.length - (intOf i).toNat)
    case atStart => exact ⟨0, by omega, rfl, Bumped.refl _ _ _, hB3⟩
    case round =>
      obtain ⟨k, hk, rfl, hBu, hBw⟩ := hrel
      by_cases hlt : k < T.length
      · have hd : decide (k < T.length) = true := by simpa using hlt
        have hki : (k : Int) < (T.length : Int) := by omega
        obtain ⟨g, vs, ve, cap, cur, hv, hg, hat, o1, o2⟩ := own_tok Hrow1.out Htoks1.out (List.getElem?_eq_getElem hlt)
        have hav : a1 = some ⟨g, 0, none⟩ ∧ c1 = cap := by cases hv; exact ⟨rfl, rfl⟩
        obtain ⟨rfl, rfl⟩ := hav
        generalize T[k] = t at *
        have hg3 := (b13.block g (Array.getElem?_eq_some_iff.1 hg).1).trans hg
        have hat3 : TokAt w3 g (k * 5) t vs ve := hat.below b13
        have hAt : ∀ W, Bumped w.heap.size w1.heap.size w3 W → TokAt W g (k * 5) t vs ve := fun W hW => hat3.kept (hW.tok hg3)
        have O1 := hid (own_num o1)
        have O2 := hid (own_num o2)
        obtain ⟨as_, cs_, rfl⟩ := own_slice o1
        obtain ⟨ae, ce, rfl⟩ := own_slice o2
        have HAt := hid hAt
        have HB := hid b13
        have ne1 : t.val.elems.length ≤ 9223372036854775807 := by
          obtain ⟨a, cap, e, h1, h2, -⟩ := (Ints.of_owns o2).parts
          omega
        have ns1 : t.val.shape.length ≤ 9223372036854775807 := by
          obtain ⟨a, cap, e, h1, h2, -⟩ := (Ints.of_owns o1).parts
          omega
        clear hv hat hat3 hAt o1 o2 hg hg3
        obtain ⟨k0, k1, k2, k3, k4⟩ := HAt.out _ hBu
        generalize t.val.elems.length = ne at *
        generalize t.val.shape.length = ns at *
        clear k0 k1 k2 k3 k4
        obtain ⟨k0, k1, k2, k3, k4⟩ := HAt.out _ hBu
        go_wp2_with fail
        go_loopw [8, 46] (fun _ j wr1 => ∃ m : Nat, m ≤ ne ∧ j = .int .i64 m ∧ Bumped w.heap.size w1.heap.size w3 wr1 ∧ Below w.heap.size w wr1) (fun _ j _ => ne - (intOf j).toNat)
        case atStart => exact ⟨0, by omega, rfl, hBu, hBw⟩
        case round =>
          obtain ⟨m, hm, rfl, hBu1, hBw1⟩ := hrel
          clear hBu hBw
          by_cases hlm : m < ne
          · have dm : decide (m < ne) = true := by simpa using hlm
            have hmi : (m : Int) < (ne : Int) := by omega
            obtain ⟨q, qc, cs, hq, hqc, hqm, hqb, hqh, hqn⟩ := O2.out (by omega)
            obtain ⟨rfl, rfl⟩ : ae = some ⟨q, 0, none⟩ ∧ ce = qc := by cases hq; exact ⟨rfl, rfl⟩
            obtain ⟨x, hx⟩ := hqn m hlm
            have hql := (Array.getElem?_eq_some_iff.1 hqh).1
            have hq3 := (HB.out.block q hql).trans hqh
            obtain ⟨y, hy, hf⟩ := hBu1.num hq3 hx
            have Hset := hid (fun u => hBu1.set (i := m) hq3 (by decide) hqb hql u)
            obtain ⟨k0, k1, k2, k3, k4⟩ := HAt.out _ hBu1
            clear hq hqn hqh hq3 hx
            go_wp2_with fail
            go_roundw
            case rel => exact ⟨m + 1, by omega, by go_num, Hset.out _, hBw1.setCell (p := ⟨q, m, none⟩) hqb _⟩
            case measure => simp [intOf]; omega
          · have dm : decide (m < ne) = false := by simpa using hlm
            obtain ⟨k0, k1, k2, k3, k4⟩ := HAt.out _ hBu1
            have hBu := hBu1
            have hBw := hBw1
            clear hBu1 hBw1
            go_wp2_with fail
            go_loopw [9, 68] (fun _ j wr1 => ∃ m : Nat, m ≤ ns ∧ j = .int .i64 m ∧ Bumped w.heap.size w1.heap.size w3 wr1 ∧ Below w.heap.size w wr1) (fun _ j _ => ns - (intOf j).toNat)
            case atStart => exact ⟨0, by omega, rfl, hBu, hBw⟩
            case round =>
              obtain ⟨m, hm, rfl, hBu1, hBw1⟩ := hrel
              clear hBu hBw
              by_cases hlm : m < ns
              · have dm : decide (m < ns) = true := by simpa using hlm
                have hmi : (m : Int) < (ns : Int) := by omega
                obtain ⟨q, qc, cs, hq, hqc, hqm, hqb, hqh, hqn⟩ := O1.out (by omega)
                obtain ⟨rfl, rfl⟩ : as_ = some ⟨q, 0, none⟩ ∧ cs_ = qc := by cases hq; exact ⟨rfl, rfl⟩
                obtain ⟨x, hx⟩ := hqn m hlm
                have hql := (Array.getElem?_eq_some_iff.1 hqh).1
                have hq3 := (HB.out.block q hql).trans hqh
                obtain ⟨y, hy, hf⟩ := hBu1.num hq3 hx
                have Hset := hid (fun u => hBu1.set (i := m) hq3 (by decide) hqb hql u)
                obtain ⟨k0, k1, k2, k3, k4⟩ := HAt.out _ hBu1
                clear hq hqn hqh hq3 hx
                go_wp2_with fail
                go_roundw
                case rel => exact ⟨m + 1, by omega, by go_num, Hset.out _, hBw1.setCell (p := ⟨q, m, none⟩) hqb _⟩
                case measure => simp [intOf]; omega
              · have dm : decide (m < ns) = false := by simpa using hlm
                obtain ⟨k0, k1, k2, k3, k4⟩ := HAt.out _ hBu1
                have hBu := hBu1
                have hBw := hBw1
                clear hBu1 hBw1
                go_wp2_with fail
                go_roundw
                case rel => exact ⟨k + 1, by omega, by go_num, hBu, hBw⟩
                case measure => simp [intOf]; omega
      · have hd : decide (k < T.length) = false := by simpa using hlt
        go_wp2_with fail
        refine (HR.out _ (hG.below hBw)).mono ?_
        rintro e w5 ⟨⟨v5, us5, rfl, hrow5, htoks5⟩, b5⟩
        obtain ⟨a5, c5, rfl⟩ := own_slice hrow5
        go_wp2_with fail
        refine (rtsame_any _ _ T T _ (IsToks.of_own hrow5 htoks5) ((hBu.toks HrowY.out HtoksY.out).below b5)).mono ?_
        rintro e w6 ⟨rfl, b6⟩
        rw [decide_eq_true rfl]
        go_wp2_with fail
        go_ret
        exact ⟨rfl, (hBw.trans (b5.mono hBw.size)).trans (b6.mono (Nat.le_trans hBw.size b5.size))⟩
end Go.Proofs.YtjapijkgjgfcnaaGreatDoor
