/- What the kernel runs ahead of the law: the table of sums, sectors of noughts. -/
import Derived.Test.YthikcbbfnicnlaaGreatDoorPrSet
namespace Go.Proofs.YthikcbbfnicnlaaGreatDoor.Ev
open Go
set_option linter.unusedVariables false
set_option maxRecDepth 100000
theorem k_dec (w : World) : pmChk (base1 w) 1000000 pDec = true := by kernel_rfl
theorem k_decR (w : World) : pmChk (base1 w) 1000000 pDecR = true := by kernel_rfl
theorem k_f0 (w : World) : memsChk (base0 w) 1000000 (kChunk 64 0) = true := by kernel_rfl
theorem k_f1 (w : World) : memsChk (base0 w) 1000000 (kChunk 64 64) = true := by kernel_rfl
theorem k_f2 (w : World) : memsChk (base0 w) 1000000 (kChunk 64 128) = true := by kernel_rfl
theorem k_f3 (w : World) : memsChk (base0 w) 1000000 (kChunk 64 192) = true := by kernel_rfl
theorem k_known (w : World) : freshChk (eKn w) 1000000 H0 fKnown = true := by kernel_rfl
theorem eKn_ok (w : World) : EnOk (eKn w) :=
  ((((base0_ok w).memsIn (memsChk_in (base0_ok w) (k_f0 w))).memsIn (chunk_in (base0_ok w) (k_f1 w) (by rfl) (by rfl) (by rfl) (by rfl))).memsIn (chunk_in (base0_ok w) (k_f2 w) (by rfl) (by rfl) (by rfl) (by rfl))).memsIn (chunk_in (base0_ok w) (k_f3 w) (by rfl) (by rfl) (by rfl) (by rfl))
theorem base1_ok {w : World} (hw : Wd w) : EnOk (base1 w) := (base0_ok w).newsIn (E1 := eKn w) rfl rfl rfl (eKn_ok w) (((((start0 hw).mems _).mems _).mems _).mems _) fun m hm => by
  rcases List.mem_cons.1 hm with rfl | hm
  · exact ⟨_, k_known w⟩
  · cases hm
theorem base_ok {w : World} (hw : Wd w) : EnOk (baseEn w) := (base1_ok hw).pms fun m hm => by
  rcases List.mem_cons.1 hm with rfl | hm
  · exact ⟨_, k_dec w⟩
  rcases List.mem_cons.1 hm with rfl | hm
  · exact ⟨_, k_decR w⟩
  · cases hm
theorem base_start {w : World} (hw : Wd w) : StartOk (baseEn w) (ren0 Proofs.Tryz.prog 3 w.heap.size w) H0 := ((start0 hw).news [fKnown]).pms [pDec, pDecR]
end Go.Proofs.YthikcbbfnicnlaaGreatDoor.Ev
