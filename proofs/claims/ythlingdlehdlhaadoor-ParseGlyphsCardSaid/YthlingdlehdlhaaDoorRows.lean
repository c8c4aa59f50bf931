/-
  NARROWER THAN 'FOR EVERY INPUT', by the rows' own cells (each row's printed sentence says how): ParseGlyphs: laid.
  DERIVED. THE GIVEN ROWS OF THIS SEAT. 1 by the template 'for every input the law returns true; each argument reads behind the call as it read before'; 0 by the template 'total and deterministic' (their statements: YthlingdlehdlhaaDoorTotals.lean).
  GIVEN WITH THE SEED: the statements are not yours to turn. If you find one false, say at which input.
  Laid BY PROGRAM, IN A SANDBOX (cutbox-rows.mjs): the forced cells as the released guide's own fill.sh prints them over the translation ebdc609ed5d7f78a… (all of the seat's roots in one cut). By AI agents, Wed Nov 11 2026. No macro, syntax, notation, axiom, sorry.
-/
import Derived.Test.YthlingdlehdlhaaDoorChecked
import GoSem.Claim
import GoSem.ClaimJoined
import GoSem.ClaimMapViews
import Derived.JoinedTies
import Derived.KernelRfl
namespace Go.Proofs.YthlingdlehdlhaaDoor
/- THE CELL 'sum', in the pinned program and in every row, IS THE sha256 OF THE DUMP (.gsa) THAT YthlingdlehdlhaaDoorProg.lean LOADS. Nothing in Lean hashes anything: it is a label: what it is worth is what the hold of that sum in a sandbox is worth. -/
noncomputable def Tryd.pinned : Pinned := { name := "ythlingdlehdlhaadoor", sum := "ebdc609ed5d7f78a54dae182042812f3ba68a361104d8e52bb4658d74945585b", checked := Tryd.checked }
namespace Rows
def none {H : Type} : Left H := { results := [], args := [] }

/- WHAT THE LISTED PACKAGE-LEVEL VARIABLES READ AS WHEN THE CALL BEGINS. Each datum BY PROGRAM (the guide's laid-datum.mjs) off the statement by which the dump's own 'gosem.cut.vars' lays the variable. In a bare row this is a premise. The card (YthlingdlehdlhaaDoorCards.lean) ties it to the program's text. -/
def laid_quadrat_scalar_glyphs {H : Type} : DataW H := .agg [.lit (.string []), .lit (.string [43]), .lit (.string [45]), .lit (.string [195, 151]), .lit (.string [195, 183]), .lit (.string [124]), .lit (.string [226, 140, 138]), .lit (.string [226, 140, 136]), .lit (.string [42]), .lit (.string [61]), .lit (.string [226, 137, 160]), .lit (.string [60]), .lit (.string [226, 137, 164]), .lit (.string [226, 137, 165]), .lit (.string [62]), .lit (.string [226, 136, 167]), .lit (.string [226, 136, 168]), .lit (.string [126])]
def laid_quadrat_parse_mixed {H : Type} : DataW H := .agg [.lit (.string [226, 141, 180]), .lit (.string [44]), .lit (.string [226, 140, 189]), .lit (.string [226, 141, 137]), .lit (.string [226, 141, 179]), .lit (.string [226, 137, 162]), .lit (.string [226, 141, 139]), .lit (.string [226, 141, 146]), .lit (.string [226, 134, 145]), .lit (.string [226, 134, 147]), .lit (.string [226, 136, 138]), .lit (.string [47])]

/-- 'quadratlaw18.ParseGlyphs': WHATEVER THE INPUT: true; the input reads as it did. -/
def parseGlyphsSpec : ChangeSpec := { name := "parseGlyphs", fn := fun _ => fun
  | [d1, d2, d3, d4] => { results := [.lit (.bool true)], args := [d1, d2, d3, d4] }
  | _ => none }
def parseGlyphsRow : OpenClaim := { program := "ythlingdlehdlhaadoor", sum := "ebdc609ed5d7f78a54dae182042812f3ba68a361104d8e52bb4658d74945585b", func := "quadrat/quadratlaw18.ParseGlyphs", spec := "parseGlyphs", unfollowed := true, recurses := true, named := ["quadrat/parse.mixed", "quadrat/scalar.glyphs"], apart := false, laid := [("quadrat/scalar.glyphs", laid_quadrat_scalar_glyphs), ("quadrat/parse.mixed", laid_quadrat_parse_mixed)] }
def ParseGlyphsSaid : Prop := parseGlyphsRow.holds Tryd.pinned (OpenSpec.ofChange parseGlyphsSpec)

/-- ITS FALSE NEIGHBOUR: 'it returns false'. Refute it at one input. -/
def parseGlyphsWrong : ChangeSpec := { name := "parseGlyphs", fn := fun _ => fun
  | [d1, d2, d3, d4] => { results := [.lit (.bool false)], args := [d1, d2, d3, d4] }
  | _ => none }
def ParseGlyphsWrongFalsely : Prop := parseGlyphsRow.holds Tryd.pinned (OpenSpec.ofChange parseGlyphsWrong)

/- THE SECOND FORM. 'bulk': how many values and letters a reading holds, each counted each time it is reached (what is shared counts as often as it is met; a slice's spare places count too). A statement '..UptoSaid' is the law's where the arguments, and the package variables that the reading takes, are together of bulk at most 1048576: NARROWER than '..Said'. Prove '..Said' where nothing that the law and all that it calls make is longer than what came in: it says more and counts as full. Else prove '..UptoSaid'. A law counts once. -/
mutual
def uptoBulk {H : Type} : DataW H → Nat
  | .lit (.string bytes) => bytes.length + 1
  | .lit _ => 1
  | .nil => 1
  | .ptr d => uptoBulk d + 1
  | .slice elems spare => uptoBulkAll elems + uptoBulkAll spare + 1
  | .agg parts => uptoBulkAll parts + 1
  | .iface _ d => uptoBulk d + 1
  | .map entries => uptoBulkEntries entries + 1
  | .held _ => 1
def uptoBulkAll {H : Type} : List (DataW H) → Nat
  | [] => 0
  | d :: r => uptoBulk d + uptoBulkAll r
def uptoBulkEntries {H : Type} : List (Lit × DataW H) → Nat
  | [] => 0
  | x :: r => uptoBulkEntry x + uptoBulkEntries r
def uptoBulkEntry {H : Type} : Lit × DataW H → Nat
  | (.string bytes, d) => bytes.length + uptoBulk d + 1
  | (_, d) => uptoBulk d + 1
 end
def uptoSmall : (H : Type) → List (DataW H) → Bool := fun _ ds => decide (uptoBulkAll ds ≤ 1048576)
def OpenSpec.upto (s : _root_.Go.ChangeSpec) : _root_.Go.OpenSpec := { _root_.Go.OpenSpec.ofChange s with cond := some uptoSmall }

/-- 'quadratlaw18.ParseGlyphs', WHERE WHAT IT READS IS OF BULK AT MOST 1048576: true; the input reads as it did. -/
def parseGlyphsUptoRow : OpenClaim := { program := "ythlingdlehdlhaadoor", sum := "ebdc609ed5d7f78a54dae182042812f3ba68a361104d8e52bb4658d74945585b", func := "quadrat/quadratlaw18.ParseGlyphs", spec := "parseGlyphs", unfollowed := true, recurses := true, named := ["quadrat/parse.mixed", "quadrat/scalar.glyphs"], apart := false, laid := [("quadrat/scalar.glyphs", laid_quadrat_scalar_glyphs), ("quadrat/parse.mixed", laid_quadrat_parse_mixed)], narrowed := true }
def ParseGlyphsUptoSaid : Prop := parseGlyphsUptoRow.holds Tryd.pinned (OpenSpec.upto parseGlyphsSpec)

end Rows
end Go.Proofs.YthlingdlehdlhaaDoor
