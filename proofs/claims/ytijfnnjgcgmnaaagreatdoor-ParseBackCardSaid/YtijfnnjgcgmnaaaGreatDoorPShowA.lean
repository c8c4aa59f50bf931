/- parse: a tree's text: within. -/
import Derived.Test.YtijfnnjgcgmnaaaGreatDoorPShowC
import Derived.Test.YtijfnnjgcgmnaaaGreatDoorPShowW
namespace Go.Proofs.YtijfnnjgcgmnaaaGreatDoor.Par
open Go.RowKit Go.Shelf
set_option linter.unusedVariables false
set_option linter.unusedSimpArgs false

/-- A glyph's cells, or a name's. -/
def glC (k : Int) (s : ByteArray) : List Value := [.int .i64 k, .string s, .int .i64 0, .slice none 0 0, .slice none 0 0]
theorem glC_one (k : Int) (s : ByteArray) : (glC k s).length = 5 ∧ ∀ x ∈ glC k s, x.oneCell' = true := ⟨rfl, fun x hx => by
  simp only [glC, List.mem_cons, List.not_mem_nil, or_false] at hx
  rcases hx with rfl | rfl | rfl | rfl | rfl <;> rfl⟩
theorem glC_all (k : Int) (s : ByteArray) : ∀ u ∈ [glC k s], u.length = 5 ∧ ∀ x ∈ u, x.oneCell' = true := fun u hu => by
  rw [List.mem_singleton.1 hu]; exact glC_one k s
theorem own_weak {w : World} {base base' : Nat} {e : TypeId} {size : Nat} {v : Value} {n : Nat} {xs : List Value} (h : w.ownsRow base e size v n xs) (hb : base' ≤ base) : w.ownsRow base' e size v n xs := by
  refine ⟨h.1, ?_⟩
  rcases h.2 with h | ⟨g, cap, cur, e, h1, h2⟩
  · exact .inl h
  · exact .inr ⟨g, cap, cur, e, Nat.le_trans hb h1, h2⟩
theorem src_lit {w : World} {b : Nat} {T : TypeId} {us : List (List Value)} {n : Nat} (hn : n = us.length) (h : w.heap[b]? = some (.cells us.flatten.toArray T)) (h1 : ∀ u ∈ us, u.length = 5 ∧ ∀ x ∈ u, x.oneCell' = true) : Src w (.slice (some ⟨b, 0, none⟩) n n) us := by
  subst hn
  refine ⟨_, _, rfl, (fun e => by cases e), (fun ad e j u hj => ?_), h1⟩
  injection e with e
  subst e
  rw [Addr.add_lit, Lib.cell_of_heap h]
  simpa using hj
theorem Src.below {w w' : World} {v : Value} {us : List (List Value)} (h : Src w v us) (hb : Below w.heap.size w w') : Src w' v us := by
  obtain ⟨a, c, e, h1, h2, h3⟩ := h
  exact ⟨a, c, e, h1, fun ad e j u hj => (hb.cell (World.block_lt_of_cell? w _ (h2 ad e j u hj))).trans (h2 ad e j u hj), h3⟩
set_option maxRecDepth 100000 in
set_option maxHeartbeats 4000000 in
theorem pwithin_any (s1 s2 : ByteArray) (v : Value) (us : List (List Value)) (w : World) (hv : Src w v us) (hl : us.length ≤ 999998) :
    Calls Tryz.prog 46 #[.string s1, v, .string s2] w fun e w' => (∃ v', e = .returned v' ∧ w'.ownsRow w.heap.size 88 5 v' (us.length + 2) (glC 3 s1 ++ us.flatten ++ glC 3 s2)) ∧ Below w.heap.size w w' := by
  obtain ⟨va, vc, rfl, -⟩ := id hv
  go_enter Tryz.func46, Tryz.ntmps46
  go_wp2_with fail
  refine (tglyph_any _ _).mono ?_
  rintro e w1 ⟨rfl, b1⟩
  have hR1 := heap_alloc_new w1 (.cells #[.int .i64 3, .string s1, .int .i64 0, .slice none 0 0, .slice none 0 0] 88)
  have c1 := (Below.refl _ w1).alloc (Nat.le_refl _) (.cells #[.int .i64 3, .string s1, .int .i64 0, .slice none 0 0, .slice none 0 0] 88)
  go_wp2_with fail
  refine (tglyph_any _ _).mono ?_
  rintro e w2 ⟨rfl, b2⟩
  have hS1 : Src w2 (.slice (some ⟨w1.heap.size, 0, none⟩) 1 1) [glC 3 s1] := (src_lit rfl hR1 (glC_all _ _)).below b2
  have hB2 := b1.trans ((c1.trans (b2.mono c1.size)).mono b1.size)
  have hR2 := heap_alloc_new w2 (.cells #[.int .i64 3, .string s2, .int .i64 0, .slice none 0 0, .slice none 0 0] 88)
  have c2 := (Below.refl _ w2).alloc (Nat.le_refl _) (.cells #[.int .i64 3, .string s2, .int .i64 0, .slice none 0 0, .slice none 0 0] 88)
  generalize hW3 : w2.alloc (.cells #[.int .i64 3, .string s2, .int .i64 0, .slice none 0 0, .slice none 0 0] 88) = w3 at *
  have hS2 : Src w3 (.slice (some ⟨w2.heap.size, 0, none⟩) 1 1) [glC 3 s2] := src_lit rfl hR2 (glC_all _ _)
  have hB3 := hB2.trans (c2.mono hB2.size)
  have hR4 := heap_alloc_new w3 (.cells #[.slice (some ⟨w1.heap.size, 0, none⟩) 1 1, .slice va us.length vc, .slice (some ⟨w2.heap.size, 0, none⟩) 1 1] 58)
  have c4 := (Below.refl _ w3).alloc (Nat.le_refl _) (.cells #[.slice (some ⟨w1.heap.size, 0, none⟩) 1 1, .slice va us.length vc, .slice (some ⟨w2.heap.size, 0, none⟩) 1 1] 58)
  have hB4 := hB3.trans (c4.mono hB3.size)
  have hcon := tconcat_any w3.heap.size [.slice (some ⟨w1.heap.size, 0, none⟩) 1 1, .slice va us.length vc, .slice (some ⟨w2.heap.size, 0, none⟩) 1 1] [[glC 3 s1], us, [glC 3 s2]] _ _ hR4 3 rfl rfl (fun k v u hk hu => by
    rcases k with _ | _ | _ | k
    · injection hk with hk; injection hu with hu; subst hk hu; exact hS1.below (c2.trans (c4.mono c2.size))
    · injection hk with hk; injection hu with hu; subst hk hu; exact hv.below hB4
    · injection hk with hk; injection hu with hu; subst hk hu; exact hS2.below c4
    · cases hk) (by simp [sumL]; omega) (by decide)
  rw [show sumL [[glC 3 s1], us, [glC 3 s2]] = us.length + 2 by simp [sumL]; omega, show flatL [[glC 3 s1], us, [glC 3 s2]] = glC 3 s1 ++ us.flatten ++ glC 3 s2 by simp [flatL]] at hcon
  have hsz : w3.heap.size = w2.heap.size + 1 := by rw [← hW3]; simp only [World.alloc, Array.size_push]
  rw [hsz] at hcon
  subst hW3
  have Hcon := hid hcon
  clear hR1 hR2 hR4 hS1 hS2 hv hcon hsz hB2 hB3 c1 c2 c4 b1 b2
  go_wp2_with fail
  refine Hcon.out.mono ?_
  rintro e w5 ⟨⟨v5, rfl, hown⟩, b5⟩
  go_wp2_with fail
  go_ret
  exact ⟨⟨_, rfl, own_weak hown hB4.size⟩, hB4.trans (b5.mono hB4.size)⟩
end Go.Proofs.YtijfnnjgcgmnaaaGreatDoor.Par
