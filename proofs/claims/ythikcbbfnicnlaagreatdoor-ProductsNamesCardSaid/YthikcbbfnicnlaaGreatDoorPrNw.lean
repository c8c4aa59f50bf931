/- The document's disk, made: its states, round by round. -/
import Derived.Test.YthikcbbfnicnlaaGreatDoorPrD1
import Derived.Test.YthikcbbfnicnlaaGreatDoorEvF
namespace Go.Proofs.YthikcbbfnicnlaaGreatDoor.Ev
open Go
set_option linter.unusedVariables false
set_option maxRecDepth 100000
noncomputable def cL (q : Code) : Code := match q with | .seq a _ => a | c => c
noncomputable def cR (q : Code) : Code := match q with | .seq _ b => b | c => c
noncomputable def cI (q : Code) : Code := match q with | .block _ b => b | .loop b => b | c => c
noncomputable def nwB : Code := (Proofs.Tryz.f25.body).getD .skip
noncomputable def nwA : Code := cL (cR (cR (cR nwB)))
noncomputable def nwL : Code := cI (cI (cR nwA))
noncomputable def nwEnd : Code := cR (cR (cR (cR nwB)))
theorem nw_body : Proofs.Tryz.f25.body = some nwB := by kernel_rfl
theorem nw_parts : nwB = .seq (cL nwB) (.seq (cL (cR nwB)) (.seq (cL (cR (cR nwB))) (.seq (.seq (cL nwA) (.block 0 (.loop nwL))) nwEnd))) := by kernel_rfl
noncomputable def nwI (n : Nat) : Value := .int .i64 (Int.ofNat n)
noncomputable def nwS (b n c : Nat) : Value := .slice (some ⟨b, 0, none⟩) n c
noncomputable def nwP (b o : Nat) : Value := .pointer (some ⟨b, o, none⟩)
noncomputable def putT (l : List (Nat × Value)) (t : Tr Value) : Tr Value := List.rec (motive := fun _ => Tr Value) t (fun p _ r => r.put p.1 (some p.2)) l
noncomputable def nwT1 : Tr Value := putT [(2, .pointer none), (3, nwI 0)] (Tr.ofList [nwI 1200])
noncomputable def nwT2 : Tr Value := putT [(6, nwI 1200), (7, .bool false), (8, .bool false), (9, nwI 1200), (10, .bool false), (11, .bool false)] nwT1
noncomputable def nwZ : List Value := [.slice none 0 0, .slice none 0 0, nwI 0, .slice none 0 0, nwI 0, nwI 0, nwI 0, .bool false]
noncomputable def nwT3 (b : Nat) : Tr Value := putT [(12, .agg ⟨nwZ⟩), (13, nwP b 0), (4, nwP b 0)] nwT2
noncomputable def nwT4 (b : Nat) : Tr Value := putT [(5, nwI 0)] (nwT3 b)
noncomputable def nwAt (b j o : Nat) : Nat := Nat.add b (Nat.add (Nat.mul 5 j) o)
/-- Behind k rounds. -/
noncomputable def nwT (b k : Nat) : Tr Value := putT [(5, nwI k), (14, nwI (Nat.pred k)), (15, nwI 1200), (16, .bool true), (17, nwI (Nat.pred k)), (18, nwI k), (19, nwP b 0), (20, nwP b 0), (21, nwP b 0), (22, nwP b 0),
  (23, nwS (nwAt b (Nat.sub k 2) 3) (Nat.pred k) openCap), (24, nwS (nwAt b (Nat.pred k) 1) 128 128), (25, nwS (nwAt b (Nat.pred k) 2) 1 1), (26, nwS (nwAt b (Nat.pred k) 3) k openCap), (27, nwP b 0), (28, nwP b 0), (29, nwP b 0), (30, nwP b 0), (31, nwP b 0), (32, nwP b 1),
  (33, nwS (nwAt b (Nat.sub k 2) 5) (Nat.pred k) openCap), (34, nwS (nwAt b (Nat.pred k) 4) 1 1), (35, nwS (nwAt b (Nat.pred k) 5) k openCap), (36, nwP b 0), (37, nwP b 1)] (nwT4 b)
noncomputable def nwT6 (b : Nat) : Tr Value := putT [(14, nwI 1200), (16, .bool false)] (nwT b 1200)
noncomputable def nwD (b k : Nat) : Blk := .cells 128 8 0 false [] (Tr.ofList [nwS (nwAt b (Nat.pred k) 3) k openCap, nwS (nwAt b (Nat.pred k) 5) k openCap, nwI 0, .slice none 0 0, nwI 0, nwI 0, nwI 0, .bool false])
noncomputable def nwOf (b k j r : Nat) : Option Blk :=
  bi (Nat.beq r 0) (some (.cells 5 128 0 false [.int .u8 0] .nil))
  (bi (Nat.beq r 1) (some (.cells 129 1 0 false [nwS (nwAt b j 1) 128 128] (Tr.ofList [nwS (nwAt b j 1) 128 128])))
  (bi (Nat.beq r 2) (bi (Nat.beq (Nat.succ j) k) (some (.cells 129 k 0 false [] (Tr.ofList (slAP k (Nat.succ b) 5 128 128)))) none)
  (bi (Nat.beq r 3) (some (.cells 129 1 0 false [.slice none 0 0] (Tr.ofList [.slice none 0 0])))
  (bi (Nat.beq (Nat.succ j) k) (some (.cells 129 k 0 false [] (Tr.ofList (reps k (.slice none 0 0))))) none))))
noncomputable def nwBlk (b k o : Nat) : Option Blk := bi (Nat.beq o 0) (some (nwD b k)) (nwOf b k (Nat.div (Nat.pred o) 5) (Nat.mod (Nat.pred o) 5))
noncomputable def inRg (lo hi a c : Nat) : Bool := bi (Nat.ble c hi) (bi (Nat.ble lo c) true (Nat.ble (Nat.add c (Nat.mul a (Nat.div (Nat.sub (Nat.add (Nat.sub lo c) a) 1) a))) hi)) false
/-- The trie of the keys from lo to hi. -/
noncomputable def bld (lo hi : Nat) (f : Nat → Option Blk) (d : Nat) : Nat → Nat → Tr Blk := Nat.rec (motive := fun _ => Nat → Nat → Tr Blk) (fun _ _ => .nil)
  (fun _ g a c => bi (inRg lo hi a c) (.node (g (Nat.mul 2 a) (Nat.add a c)) (bi (Nat.ble lo c) (f c) none) (g (Nat.mul 2 a) (Nat.add (Nat.mul 2 a) c))) .nil) d
noncomputable def nwH (b k : Nat) : AH := ⟨nwAt b k 1, bld b (nwAt b k 0) (fun x => nwBlk b k (Nat.sub x b)) 18 1 0⟩
noncomputable def nwH0 (b : Nat) : AH := ⟨b, .nil⟩
noncomputable def nwH3 (b : Nat) : AH := ⟨Nat.succ b, Tr.nil.put b (some (.cells 128 8 0 false [] (Tr.ofList nwZ)))⟩
noncomputable def nwFi : Fi := ⟨25, Proofs.Tryz.f25.ntmps, none⟩
end Go.Proofs.YthikcbbfnicnlaaGreatDoor.Ev
