/- LexPieces: the walk of the law. -/
import Derived.Test.YtjapijkgjgfcnaaGreatDoorLAlive
namespace Go.Proofs.YtjapijkgjgfcnaaGreatDoor
open Go.RowKit Go.Shelf
set_option linter.unusedVariables false
set_option linter.unusedSimpArgs false

theorem pieces_len (l : List UInt8) : (piecesOf l).length ≤ l.length + 1 := by
  have h := outOf_len (bs l) (allCuts (bs l)) 0
  have h2 := allCuts_length_le (bs l)
  have h3 := congrArg List.length (split_pieces l)
  rw [List.length_map] at h3
  unfold splitOf at h3
  rw [bs_size] at h2
  omega
theorem piece_len (l x : List UInt8) (hx : x ∈ piecesOf l) : x.length ≤ l.length := by
  have h1 : bs x ∈ splitOf (bs l) := by rw [split_pieces]; exact List.mem_map_of_mem hx
  obtain ⟨a, b, e⟩ := out_infix _ _ _ _ h1
  have := congrArg ByteArray.size e
  rw [bs_size, ByteArray.size_extract, bs_size] at this
  omega
theorem pjoin_len (l : List UInt8) (sep : List UInt8) (hs : sep.length ≤ 3) (hl : l.length ≤ 20000) : (Lib.join (piecesOf l) sep).length ≤ 500000000 := by
  have h1 := join_le 20000 (piecesOf l) sep fun x hx => Nat.le_trans (piece_len l x hx) hl
  have h2 := pieces_len l
  have h3 : (piecesOf l).length * 20000 ≤ 20001 * 20000 := Nat.mul_le_mul_right _ (by omega)
  have h4 : sep.length * (piecesOf l).length ≤ 3 * 20001 := Nat.mul_le_mul hs (by omega)
  omega

set_option maxRecDepth 100000 in
set_option maxHeartbeats 4000000 in
theorem pieces_walk (s : ByteArray) (w : World) (hG : Glob w) (hs0 : s.size ≤ 9223372036854775807) :
    Calls Tryz.prog 4 #[.string s] w fun e w' => e = .returned (.bool true) ∧ Below w.heap.size w w' := by
  have hsz : (s.size : Int) ≤ 9223372036854775807 := by omega
  go_enter Tryz.func4, Tryz.ntmps4
  go_wp2_with fail
  refine (lalive_any _ hG).mono ?_
  rintro e w1 ⟨rfl, b1⟩
  have hG1 := hG.below b1
  by_cases hlen : 20000 < s.size
  · have d1 : decide (20000 < s.size) = true := by simpa using hlen
    have d2 : decide ((20000 : Int) < (s.size : Int)) = true := by simp; omega
    clear hlen
    go_wp2_with fail
    go_ret
    exact ⟨rfl, b1⟩
  · have d1 : decide (20000 < s.size) = false := by simpa using hlen
    have d2 : decide ((20000 : Int) < (s.size : Int)) = false := by simp; omega
    obtain ⟨l, rfl⟩ : ∃ l, s = bs l := ⟨s.data.toList, rfl⟩
    have hl : l.length ≤ 20000 := by rw [bs_size] at hlen; omega
    have hsp := fun W => split_any (bs l) W (by rw [bs_size]; omega)
    rw [split_pieces] at hsp
    have hpl := pieces_len l
    have hj1 := fun v W (h : Strs W v ((piecesOf l).map bs)) => join_any v (piecesOf l) ⟨#[10]⟩ W h (by omega) (fun x hx => Nat.le_trans (piece_len l x hx) (by omega)) (by decide)
    have hj2 := fun v W (h : Strs W v ((piecesOf l).map bs)) => join_any v (piecesOf l) ⟨#[226, 139, 132]⟩ W h (by omega) (fun x hx => Nat.le_trans (piece_len l x hx) (by omega)) (by decide)
    rw [show (ByteArray.mk #[10]).data.toList = [10] from rfl] at hj1
    rw [show (ByteArray.mk #[226, 139, 132]).data.toList = dia from rfl] at hj2
    have hs1 := fun W => split_any (bs (Lib.join (piecesOf l) [10])) W (by rw [bs_size]; have := pjoin_len l [10] (by decide) hl; omega)
    have hs2 := fun W => split_any (bs (Lib.join (piecesOf l) dia)) W (by rw [bs_size]; have := pjoin_len l dia (by decide) hl; omega)
    rw [split_pieces, pieces_join [10] (.inl rfl)] at hs1
    rw [split_pieces, pieces_join dia (.inr rfl)] at hs2
    have HX := hid (fun x (hx : x ∈ piecesOf l) => (⟨pieces_nbl l x hx, pieces_infix l x hx, pieces_single l x hx, piece_len l x hx⟩ : nbl x = true ∧ Lib.contains l x = true ∧ piecesOf x = [x] ∧ x.length ≤ l.length))
    have Hl := hid hl
    have Hpl := hid hpl
    generalize Lib.join (piecesOf l) [10] = J1 at *
    generalize Lib.join (piecesOf l) dia = J2 at *
    generalize piecesOf l = X at *
    clear hlen hl hpl
    go_wp2_with fail
    refine (hsp _).mono ?_
    rintro e w2 ⟨v2, rfl, hv2, b2⟩
    have h2 := Strs.of_owns hv2
    obtain ⟨a2, c2, rfl⟩ := own_slice hv2
    have B2 := b1.trans (b2.mono b1.size)
    have hG2 := hG1.below b2
    rw [List.length_map] at h2 ⊢
    clear hv2 b2 b1 hG1 hsp
    go_wp2_with fail
    refine (hj1 _ _ h2).mono ?_
    rintro e w3 ⟨rfl, b3⟩
    have h3 := h2.below b3
    have B3 := B2.trans (b3.mono B2.size)
    have hG3 := hG2.below b3
    clear b3 B2 hG2 h2 hj1
    go_wp2_with fail
    refine (hs1 _).mono ?_
    rintro e w4 ⟨v4, rfl, hv4, b4⟩
    have h4 := Strs.of_owns hv4
    obtain ⟨a4, c4, rfl⟩ := own_slice hv4
    have h34 := h3.below b4
    have B4 := B3.trans (b4.mono B3.size)
    have hG4 := hG3.below b4
    rw [List.length_map] at h4 ⊢
    clear hv4 b4 B3 hG3 h3 hs1
    go_wp2_with fail
    refine (rtexts_any _ _ _ _ _ h4 h34).mono ?_
    rintro e w5 ⟨rfl, nq, rfl⟩
    rw [decide_eq_true rfl]
    have h5 := h34.below (below_drewN (Below.refl _ _) nq)
    have B5 := below_drewN B4 nq
    have hG5 := hG4.drewN nq
    generalize w4.drewN nq = w5 at *
    clear B4 hG4 h34 h4
    go_wp2_with fail
    refine (hj2 _ _ h5).mono ?_
    rintro e w6 ⟨rfl, b6⟩
    have h6 := h5.below b6
    have B6 := B5.trans (b6.mono B5.size)
    have hG6 := hG5.below b6
    clear b6 B5 hG5 h5 hj2
    go_wp2_with fail
    refine (hs2 _).mono ?_
    rintro e w7 ⟨v7, rfl, hv7, b7⟩
    have h7 := Strs.of_owns hv7
    obtain ⟨a7, c7, rfl⟩ := own_slice hv7
    have h67 := h6.below b7
    have B7 := B6.trans (b7.mono B6.size)
    have hG7 := hG6.below b7
    rw [List.length_map] at h7 ⊢
    clear hv7 b7 B6 hG6 h6 hs2
    go_wp2_with fail
    refine (rtexts_any _ _ _ _ _ h7 h67).mono ?_
    rintro e w8 ⟨rfl, nq8, rfl⟩
    rw [decide_eq_true rfl]
    have h8 := h67.below (below_drewN (Below.refl _ _) nq8)
    have B8 := below_drewN B7 nq8
    have hG8 := hG7.drewN nq8
    generalize w7.drewN nq8 = w8 at *
    clear B7 hG7 h67 h7
    go_wp2_with fail
    have hXl : X.length ≤ 20001 := by have := Hpl.out; have := Hl.out; omega
    go_loopw [5, 33] (fun _ i wr => ∃ k : Nat, k ≤ X.length ∧ i = .int .i64 k ∧ Strs wr (.slice a2 X.length c2) (X.map bs) ∧ Below w.heap.size w wr ∧ Glob wr) (fun _ i _ => X.length - (intOf i).toNat)
    case atStart => exact ⟨0, by omega, rfl, h8, B8, hG8⟩
    case round =>
      obtain ⟨k, hk, rfl, hst, hB, hGw⟩ := hrel
      by_cases hlt : k < X.length
      · have hd : decide (k < X.length) = true := by simpa using hlt
        have hki : (k : Int) < (X.length : Int) := by omega
        obtain ⟨q1, q2, q3, q4⟩ := HX.out X[k] (List.getElem_mem hlt)
        obtain ⟨a', cap', e', p1, p2, p3, p4⟩ := hst.parts
        have hne : X.map bs ≠ [] := fun e => by have := congrArg List.length e; simp at this; rw [this] at hlt; simp at hlt
        rcases p4 with p4 | ⟨b, o, rfl, hcell⟩
        · exact absurd p4 hne
        have hav : a2 = some ⟨b, o, none⟩ := by simp only [Value.slice.injEq] at e'; exact e'.1
        subst hav
        have hc := hcell k (by rw [List.length_map]; exact hlt)
        rw [List.getElem_map] at hc
        generalize X[k] = x at *
        have htr : (Lib.trimB (bs x).data.toList 32).isEmpty = false := by
          rw [List.isEmpty_eq_false_iff]
          intro e
          have := (trim_blank (bs x)).1 e
          rw [blank_seg, q1] at this; cases this
        have hxs : (bs x).size ≤ 20000 := by rw [bs_size]; have := Hl.out; omega
        have Htrim := fun W => trim_any (bs x) W (by omega)
        generalize Lib.trimB (bs x).data.toList 32 = tl at *
        obtain ⟨m, hm⟩ := hGw.2.2
        have Hcon := fun W hm => Tryz.strings_Contains (bs l) (bs x) m W (by rw [bs_size]; have := Hl.out; omega) hm
        rw [bs_list, bs_list, q2] at Hcon
        have Hsp := fun W => split_any (bs x) W (by omega)
        rw [split_pieces, q3] at Hsp
        have Hst := hid hst
        clear q1 q2 q3 q4 hcell e' p1 p2 p3 hne
        go_wp2_with fail
        have hbl : b < wr.heap.size := World.block_lt_of_cell? wr _ hc
        have gC : wr.drew.cell? ⟨b, o + k, none⟩ = some (.string (bs x)) := hc
        have gA : ∀ (n : Nat) (w' : World), Below (wr.drewN n).heap.size (wr.drewN n) w' → w'.cell? ⟨b, o + k, none⟩ = some (.string (bs x)) := fun n w' h => (h.cell (p := ⟨b, o + k, none⟩) hbl).trans hc
        have gA2 : ∀ (n : Nat) (w' : World) O, Below (wr.drewN n).heap.size (wr.drewN n) w' → (w'.alloc O).cell? ⟨b, o + k, none⟩ = some (.string (bs x)) := fun n w' O h => ((h.alloc h.size O).cell (p := ⟨b, o + k, none⟩) hbl).trans hc
        have gB : ∀ (n : Nat) O, ((wr.drewN n).alloc O).cell? ⟨b, o + k, none⟩ = some (.string (bs x)) := fun n O => (((Below.refl _ (wr.drewN n)).alloc (Nat.le_refl _) O).cell (p := ⟨b, o + k, none⟩) hbl).trans hc
        have gB2 : ∀ (n : Nat) O (w' : World), Below ((wr.drewN n).alloc O).heap.size ((wr.drewN n).alloc O) w' → w'.cell? ⟨b, o + k, none⟩ = some (.string (bs x)) := fun n O w' h => (h.cell (p := ⟨b, o + k, none⟩) (by show b < ((wr.drewN n).alloc O).heap.size; simp; omega)).trans (gB n O)
        have gA3 : ∀ (n : Nat) (w' : World) O (n2 : Nat), Below (wr.drewN n).heap.size (wr.drewN n) w' → ((w'.alloc O).drewN n2).cell? ⟨b, o + k, none⟩ = some (.string (bs x)) := fun n w' O n2 h => gA2 n w' O h
        have gB3 : ∀ (n : Nat) O (w' : World) (n2 : Nat), Below ((wr.drewN n).alloc O).heap.size ((wr.drewN n).alloc O) w' → (w'.drewN n2).cell? ⟨b, o + k, none⟩ = some (.string (bs x)) := fun n O w' n2 h => gB2 n O w' h
        have gD : ∀ n : Nat, (wr.drewN n).cell? ⟨b, o + k, none⟩ = some (.string (bs x)) := fun n => hc
        have rA : ∀ (base : Nat) (w' : World) v', w'.ownsRow base 9 1 v' ([x].map bs).length (([x].map bs).map Value.string) →
            Calls Tryz.prog 14 #[v', .slice (some ⟨w'.heap.size, 0, none⟩) 1 1] (w'.alloc (.cells #[.string (bs x)] 9)) fun e w'' => e = .returned (.bool true) ∧ Quiet (w'.alloc (.cells #[.string (bs x)] 9)) w'' := fun base w' v' hv' => by
          refine (rtexts_any v' (.slice (some ⟨w'.heap.size, 0, none⟩) 1 1) ([x].map bs) ([x].map bs) _ ((Strs.of_owns hv').below ((Below.refl _ _).alloc (Nat.le_refl _) _)) (strs_lit ([x].map bs) (heap_alloc_new _ _) rfl (by simp [maxLen]))).mono ?_
          rintro e w'' ⟨rfl, h⟩
          exact ⟨by rw [decide_eq_true rfl], h⟩
        have rB : ∀ (n base : Nat) (w' : World) v', w'.ownsRow base 9 1 v' ([x].map bs).length (([x].map bs).map Value.string) → Below ((wr.drewN n).alloc (.cells #[.string (bs x)] 9)).heap.size ((wr.drewN n).alloc (.cells #[.string (bs x)] 9)) w' →
            Calls Tryz.prog 14 #[v', .slice (some ⟨wr.heap.size, 0, none⟩) 1 1] w' fun e w'' => e = .returned (.bool true) ∧ Quiet w' w'' := fun n base w' v' hv' hb => by
          refine (rtexts_any v' (.slice (some ⟨wr.heap.size, 0, none⟩) 1 1) ([x].map bs) ([x].map bs) w' (Strs.of_owns hv') (strs_lit ([x].map bs) ((hb.block _ (by simp)).trans (heap_alloc_new (wr.drewN n) _)) rfl (by simp [maxLen]))).mono ?_
          rintro e w'' ⟨rfl, h⟩
          exact ⟨by rw [decide_eq_true rfl], h⟩
        have eA : ∀ (n : Nat) (w' : World) O (n2 : Nat), Below (wr.drewN n).heap.size (wr.drewN n) w' → Below wr.heap.size wr ((w'.alloc O).drewN n2) := fun n w' O n2 h =>
          below_drewN (((below_drewN (Below.refl _ wr) n).trans h).alloc h.size O) n2
        have eB : ∀ (n : Nat) O (w' : World) (n2 : Nat), Below ((wr.drewN n).alloc O).heap.size ((wr.drewN n).alloc O) w' → Below wr.heap.size wr (w'.drewN n2) := fun n O w' n2 h =>
          below_drewN (((below_drewN (Below.refl _ wr) n).alloc (Nat.le_refl _) O).trans (h.mono (by simp))) n2
        have fin : ∀ V : World, Below wr.heap.size wr V → Strs V (.slice (some ⟨b, o, none⟩) X.length c2) (X.map bs) ∧ Below w.heap.size w V ∧ Glob V := fun V h => ⟨Hst.out.below h, hB.trans (h.mono hB.size), hGw.below h⟩
        go_region_held3 (fun w' => w'.cell? ⟨b, o + k, none⟩ = some (.string (bs x)))
          (first
            | with_reducible exact gC | with_reducible exact hc | with_reducible exact gD _ | with_reducible exact gA _ _ b' | with_reducible exact gA2 _ _ _ b' | with_reducible exact gB _ _ | with_reducible exact gB2 _ _ _ b' | with_reducible exact gA3 _ _ _ _ b' | with_reducible exact gB3 _ _ _ _ b' | fail)
          (first
          | (go_at_call 16; refine (Htrim _).mono ?_; rintro e w' ⟨rfl, nq, rfl⟩)
          | (go_at_call 17; refine (Hcon _ (by exact hm)).mono ?_; rintro e w' ⟨rfl, rfl⟩)
          | (go_at_call 13; refine (Hsp _).mono ?_; rintro e w' ⟨v', rfl, hv', b'⟩)
          | (go_at_call 14; (with_reducible (have hgA := gA _ _ b'; clear hgA)); have rr := rA _ _ _ hv'; refine rr.mono ?_; rintro e w'' ⟨rfl, nq2, rfl⟩)
          | (go_at_call 14; (with_reducible (have hgB := gB2 _ _ _ b'; clear hgB)); have rr := rB _ _ _ _ hv' b'; refine rr.mono ?_; rintro e w'' ⟨rfl, nq2, rfl⟩)
          | fail)
        all_goals go_wp2
        all_goals
          refine ⟨⟨k + 1, by omega, by go_num, ?_⟩, by simp [intOf]; omega⟩
          first
            | exact fin _ (eA _ _ _ _ b')
            | exact fin _ (eB _ _ _ _ b')
      · have hd : decide (k < X.length) = false := by simpa using hlt
        go_wp2_with fail
        go_ret
        exact ⟨rfl, hB⟩
end Go.Proofs.YtjapijkgjgfcnaaGreatDoor
