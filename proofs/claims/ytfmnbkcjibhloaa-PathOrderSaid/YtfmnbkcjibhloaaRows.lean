/-
  No cell of these rows narrows 'for every input' (looked for: loops, veiled, ifaces, maps, wideKeys, modest, calm, conditions, laid).
  DERIVED. THE GIVEN ROWS OF THIS SEAT. 8 by the template 'for every input the law returns true; each argument reads behind the call as it read before'; 0 by the template 'total and deterministic' (their statements: YtfmnbkcjibhloaaTotals.lean).
  GIVEN WITH THE SEED: the statements are not yours to turn. If you find one false, say at which input.
  Laid BY PROGRAM, IN A SANDBOX (cutbox-rows.mjs): the forced cells as the released guide's own fill.sh prints them over the translation 324b4955e18ffb46… (all of the seat's roots in one cut). By AI agents, Wed Nov 11 2026. No macro, syntax, notation, axiom, sorry.
-/
import Derived.Test.YtfmnbkcjibhloaaChecked
import GoSem.Claim
import GoSem.ClaimJoined
import GoSem.ClaimMapViews
import Derived.JoinedTies
import Derived.KernelRfl
namespace Go.Proofs.Ytfmnbkcjibhloaa
/- THE CELL 'sum', in the pinned program and in every row, IS THE sha256 OF THE DUMP (.gsa) THAT YtfmnbkcjibhloaaProg.lean LOADS. Nothing in Lean hashes anything: it is a label: what it is worth is what the hold of that sum in a sandbox is worth. -/
noncomputable def Try.pinned : Pinned := { name := "ytfmnbkcjibhloaa", sum := "324b4955e18ffb46c96afd6257781d43b8314c7f0e00e689453c0da73e304e3c", checked := Try.checked }
namespace Rows
def none {H : Type} : Left H := { results := [], args := [] }

/-- 'watershedlaw05.PathMakes': WHATEVER THE INPUT: true; the input reads as it did. -/
def pathMakesSpec : ChangeSpec := { name := "pathMakes", fn := fun _ => fun
  | [d1, d2] => { results := [.lit (.bool true)], args := [d1, d2] }
  | _ => none }
def pathMakesRow : OpenClaim := { program := "ytfmnbkcjibhloaa", sum := "324b4955e18ffb46c96afd6257781d43b8314c7f0e00e689453c0da73e304e3c", func := "watershed/watershedlaw05.PathMakes", spec := "pathMakes", apart := false }
def PathMakesSaid : Prop := pathMakesRow.holds Try.pinned (OpenSpec.ofChange pathMakesSpec)

/-- ITS FALSE NEIGHBOUR: 'it returns false'. Refute it at one input. -/
def pathMakesWrong : ChangeSpec := { name := "pathMakes", fn := fun _ => fun
  | [d1, d2] => { results := [.lit (.bool false)], args := [d1, d2] }
  | _ => none }
def PathMakesWrongFalsely : Prop := pathMakesRow.holds Try.pinned (OpenSpec.ofChange pathMakesWrong)

/-- 'watershedlaw05.PathChecks': WHATEVER THE INPUT: true; the input reads as it did. -/
def pathChecksSpec : ChangeSpec := { name := "pathChecks", fn := fun _ => fun
  | [d1, d2] => { results := [.lit (.bool true)], args := [d1, d2] }
  | _ => none }
def pathChecksRow : OpenClaim := { program := "ytfmnbkcjibhloaa", sum := "324b4955e18ffb46c96afd6257781d43b8314c7f0e00e689453c0da73e304e3c", func := "watershed/watershedlaw05.PathChecks", spec := "pathChecks", unfollowed := true, recurses := true, apart := false }
def PathChecksSaid : Prop := pathChecksRow.holds Try.pinned (OpenSpec.ofChange pathChecksSpec)

/-- ITS FALSE NEIGHBOUR: 'it returns false'. Refute it at one input. -/
def pathChecksWrong : ChangeSpec := { name := "pathChecks", fn := fun _ => fun
  | [d1, d2] => { results := [.lit (.bool false)], args := [d1, d2] }
  | _ => none }
def PathChecksWrongFalsely : Prop := pathChecksRow.holds Try.pinned (OpenSpec.ofChange pathChecksWrong)

/-- 'watershedlaw05.PathGoes': WHATEVER THE INPUT: true; the input reads as it did. -/
def pathGoesSpec : ChangeSpec := { name := "pathGoes", fn := fun _ => fun
  | [d1, d2, d3] => { results := [.lit (.bool true)], args := [d1, d2, d3] }
  | _ => none }
def pathGoesRow : OpenClaim := { program := "ytfmnbkcjibhloaa", sum := "324b4955e18ffb46c96afd6257781d43b8314c7f0e00e689453c0da73e304e3c", func := "watershed/watershedlaw05.PathGoes", spec := "pathGoes", unfollowed := true, recurses := true, apart := false }
def PathGoesSaid : Prop := pathGoesRow.holds Try.pinned (OpenSpec.ofChange pathGoesSpec)

/-- ITS FALSE NEIGHBOUR: 'it returns false'. Refute it at one input. -/
def pathGoesWrong : ChangeSpec := { name := "pathGoes", fn := fun _ => fun
  | [d1, d2, d3] => { results := [.lit (.bool false)], args := [d1, d2, d3] }
  | _ => none }
def PathGoesWrongFalsely : Prop := pathGoesRow.holds Try.pinned (OpenSpec.ofChange pathGoesWrong)

/-- 'watershedlaw05.PathThen': WHATEVER THE INPUT: true; the input reads as it did. -/
def pathThenSpec : ChangeSpec := { name := "pathThen", fn := fun _ => fun
  | [d1, d2, d3] => { results := [.lit (.bool true)], args := [d1, d2, d3] }
  | _ => none }
def pathThenRow : OpenClaim := { program := "ytfmnbkcjibhloaa", sum := "324b4955e18ffb46c96afd6257781d43b8314c7f0e00e689453c0da73e304e3c", func := "watershed/watershedlaw05.PathThen", spec := "pathThen", unfollowed := true, recurses := true, apart := false }
def PathThenSaid : Prop := pathThenRow.holds Try.pinned (OpenSpec.ofChange pathThenSpec)

/-- ITS FALSE NEIGHBOUR: 'it returns false'. Refute it at one input. -/
def pathThenWrong : ChangeSpec := { name := "pathThen", fn := fun _ => fun
  | [d1, d2, d3] => { results := [.lit (.bool false)], args := [d1, d2, d3] }
  | _ => none }
def PathThenWrongFalsely : Prop := pathThenRow.holds Try.pinned (OpenSpec.ofChange pathThenWrong)

/-- 'watershedlaw05.PathBrackets': WHATEVER THE INPUT: true; the input reads as it did. -/
def pathBracketsSpec : ChangeSpec := { name := "pathBrackets", fn := fun _ => fun
  | [d1, d2, d3] => { results := [.lit (.bool true)], args := [d1, d2, d3] }
  | _ => none }
def pathBracketsRow : OpenClaim := { program := "ytfmnbkcjibhloaa", sum := "324b4955e18ffb46c96afd6257781d43b8314c7f0e00e689453c0da73e304e3c", func := "watershed/watershedlaw05.PathBrackets", spec := "pathBrackets", unfollowed := true, recurses := true, apart := false }
def PathBracketsSaid : Prop := pathBracketsRow.holds Try.pinned (OpenSpec.ofChange pathBracketsSpec)

/-- ITS FALSE NEIGHBOUR: 'it returns false'. Refute it at one input. -/
def pathBracketsWrong : ChangeSpec := { name := "pathBrackets", fn := fun _ => fun
  | [d1, d2, d3] => { results := [.lit (.bool false)], args := [d1, d2, d3] }
  | _ => none }
def PathBracketsWrongFalsely : Prop := pathBracketsRow.holds Try.pinned (OpenSpec.ofChange pathBracketsWrong)

/-- 'watershedlaw05.PathBefore': WHATEVER THE INPUT: true; the input reads as it did. -/
def pathBeforeSpec : ChangeSpec := { name := "pathBefore", fn := fun _ => fun
  | [d1, d2, d3] => { results := [.lit (.bool true)], args := [d1, d2, d3] }
  | _ => none }
def pathBeforeRow : OpenClaim := { program := "ytfmnbkcjibhloaa", sum := "324b4955e18ffb46c96afd6257781d43b8314c7f0e00e689453c0da73e304e3c", func := "watershed/watershedlaw05.PathBefore", spec := "pathBefore", unfollowed := true, recurses := true, apart := false }
def PathBeforeSaid : Prop := pathBeforeRow.holds Try.pinned (OpenSpec.ofChange pathBeforeSpec)

/-- ITS FALSE NEIGHBOUR: 'it returns false'. Refute it at one input. -/
def pathBeforeWrong : ChangeSpec := { name := "pathBefore", fn := fun _ => fun
  | [d1, d2, d3] => { results := [.lit (.bool false)], args := [d1, d2, d3] }
  | _ => none }
def PathBeforeWrongFalsely : Prop := pathBeforeRow.holds Try.pinned (OpenSpec.ofChange pathBeforeWrong)

/-- 'watershedlaw05.PathAlong': WHATEVER THE INPUT: true; the input reads as it did. -/
def pathAlongSpec : ChangeSpec := { name := "pathAlong", fn := fun _ => fun
  | [d1, d2, d3] => { results := [.lit (.bool true)], args := [d1, d2, d3] }
  | _ => none }
def pathAlongRow : OpenClaim := { program := "ytfmnbkcjibhloaa", sum := "324b4955e18ffb46c96afd6257781d43b8314c7f0e00e689453c0da73e304e3c", func := "watershed/watershedlaw05.PathAlong", spec := "pathAlong", unfollowed := true, recurses := true, apart := false }
def PathAlongSaid : Prop := pathAlongRow.holds Try.pinned (OpenSpec.ofChange pathAlongSpec)

/-- ITS FALSE NEIGHBOUR: 'it returns false'. Refute it at one input. -/
def pathAlongWrong : ChangeSpec := { name := "pathAlong", fn := fun _ => fun
  | [d1, d2, d3] => { results := [.lit (.bool false)], args := [d1, d2, d3] }
  | _ => none }
def PathAlongWrongFalsely : Prop := pathAlongRow.holds Try.pinned (OpenSpec.ofChange pathAlongWrong)

/-- 'watershedlaw05.PathOrder': WHATEVER THE INPUT: true; the input reads as it did. -/
def pathOrderSpec : ChangeSpec := { name := "pathOrder", fn := fun _ => fun
  | [d1, d2, d3] => { results := [.lit (.bool true)], args := [d1, d2, d3] }
  | _ => none }
def pathOrderRow : OpenClaim := { program := "ytfmnbkcjibhloaa", sum := "324b4955e18ffb46c96afd6257781d43b8314c7f0e00e689453c0da73e304e3c", func := "watershed/watershedlaw05.PathOrder", spec := "pathOrder", unfollowed := true, recurses := true, apart := false }
def PathOrderSaid : Prop := pathOrderRow.holds Try.pinned (OpenSpec.ofChange pathOrderSpec)

/-- ITS FALSE NEIGHBOUR: 'it returns false'. Refute it at one input. -/
def pathOrderWrong : ChangeSpec := { name := "pathOrder", fn := fun _ => fun
  | [d1, d2, d3] => { results := [.lit (.bool false)], args := [d1, d2, d3] }
  | _ => none }
def PathOrderWrongFalsely : Prop := pathOrderRow.holds Try.pinned (OpenSpec.ofChange pathOrderWrong)

/- THE SECOND FORM. 'bulk': how many values and letters a reading holds, each counted each time it is reached (what is shared counts as often as it is met; a slice's spare places count too). A statement '..UptoSaid' is the law's where the arguments, and the package variables that the reading takes, are together of bulk at most 1048576: NARROWER than '..Said'. Prove '..Said' where nothing that the law and all that it calls make is longer than what came in: it says more and counts as full. Else prove '..UptoSaid'. A law counts once. -/
mutual
def uptoBulk {H : Type} : DataW H → Nat
  | .lit (.string bytes) => bytes.length + 1
  | .lit _ => 1
  | .nil => 1
  | .ptr d => uptoBulk d + 1
  | .slice elems spare => uptoBulkAll elems + uptoBulkAll spare + 1
  | .agg parts => uptoBulkAll parts + 1
  | .iface _ d => uptoBulk d + 1
  | .map entries => uptoBulkEntries entries + 1
  | .held _ => 1
def uptoBulkAll {H : Type} : List (DataW H) → Nat
  | [] => 0
  | d :: r => uptoBulk d + uptoBulkAll r
def uptoBulkEntries {H : Type} : List (Lit × DataW H) → Nat
  | [] => 0
  | x :: r => uptoBulkEntry x + uptoBulkEntries r
def uptoBulkEntry {H : Type} : Lit × DataW H → Nat
  | (.string bytes, d) => bytes.length + uptoBulk d + 1
  | (_, d) => uptoBulk d + 1
 end
def uptoSmall : (H : Type) → List (DataW H) → Bool := fun _ ds => decide (uptoBulkAll ds ≤ 1048576)
def OpenSpec.upto (s : _root_.Go.ChangeSpec) : _root_.Go.OpenSpec := { _root_.Go.OpenSpec.ofChange s with cond := some uptoSmall }

/-- 'watershedlaw05.PathMakes', WHERE WHAT IT READS IS OF BULK AT MOST 1048576: true; the input reads as it did. -/
def pathMakesUptoRow : OpenClaim := { program := "ytfmnbkcjibhloaa", sum := "324b4955e18ffb46c96afd6257781d43b8314c7f0e00e689453c0da73e304e3c", func := "watershed/watershedlaw05.PathMakes", spec := "pathMakes", apart := false, narrowed := true }
def PathMakesUptoSaid : Prop := pathMakesUptoRow.holds Try.pinned (OpenSpec.upto pathMakesSpec)

/-- 'watershedlaw05.PathChecks', WHERE WHAT IT READS IS OF BULK AT MOST 1048576: true; the input reads as it did. -/
def pathChecksUptoRow : OpenClaim := { program := "ytfmnbkcjibhloaa", sum := "324b4955e18ffb46c96afd6257781d43b8314c7f0e00e689453c0da73e304e3c", func := "watershed/watershedlaw05.PathChecks", spec := "pathChecks", unfollowed := true, recurses := true, apart := false, narrowed := true }
def PathChecksUptoSaid : Prop := pathChecksUptoRow.holds Try.pinned (OpenSpec.upto pathChecksSpec)

/-- 'watershedlaw05.PathGoes', WHERE WHAT IT READS IS OF BULK AT MOST 1048576: true; the input reads as it did. -/
def pathGoesUptoRow : OpenClaim := { program := "ytfmnbkcjibhloaa", sum := "324b4955e18ffb46c96afd6257781d43b8314c7f0e00e689453c0da73e304e3c", func := "watershed/watershedlaw05.PathGoes", spec := "pathGoes", unfollowed := true, recurses := true, apart := false, narrowed := true }
def PathGoesUptoSaid : Prop := pathGoesUptoRow.holds Try.pinned (OpenSpec.upto pathGoesSpec)

/-- 'watershedlaw05.PathThen', WHERE WHAT IT READS IS OF BULK AT MOST 1048576: true; the input reads as it did. -/
def pathThenUptoRow : OpenClaim := { program := "ytfmnbkcjibhloaa", sum := "324b4955e18ffb46c96afd6257781d43b8314c7f0e00e689453c0da73e304e3c", func := "watershed/watershedlaw05.PathThen", spec := "pathThen", unfollowed := true, recurses := true, apart := false, narrowed := true }
def PathThenUptoSaid : Prop := pathThenUptoRow.holds Try.pinned (OpenSpec.upto pathThenSpec)

/-- 'watershedlaw05.PathBrackets', WHERE WHAT IT READS IS OF BULK AT MOST 1048576: true; the input reads as it did. -/
def pathBracketsUptoRow : OpenClaim := { program := "ytfmnbkcjibhloaa", sum := "324b4955e18ffb46c96afd6257781d43b8314c7f0e00e689453c0da73e304e3c", func := "watershed/watershedlaw05.PathBrackets", spec := "pathBrackets", unfollowed := true, recurses := true, apart := false, narrowed := true }
def PathBracketsUptoSaid : Prop := pathBracketsUptoRow.holds Try.pinned (OpenSpec.upto pathBracketsSpec)

/-- 'watershedlaw05.PathBefore', WHERE WHAT IT READS IS OF BULK AT MOST 1048576: true; the input reads as it did. -/
def pathBeforeUptoRow : OpenClaim := { program := "ytfmnbkcjibhloaa", sum := "324b4955e18ffb46c96afd6257781d43b8314c7f0e00e689453c0da73e304e3c", func := "watershed/watershedlaw05.PathBefore", spec := "pathBefore", unfollowed := true, recurses := true, apart := false, narrowed := true }
def PathBeforeUptoSaid : Prop := pathBeforeUptoRow.holds Try.pinned (OpenSpec.upto pathBeforeSpec)

/-- 'watershedlaw05.PathAlong', WHERE WHAT IT READS IS OF BULK AT MOST 1048576: true; the input reads as it did. -/
def pathAlongUptoRow : OpenClaim := { program := "ytfmnbkcjibhloaa", sum := "324b4955e18ffb46c96afd6257781d43b8314c7f0e00e689453c0da73e304e3c", func := "watershed/watershedlaw05.PathAlong", spec := "pathAlong", unfollowed := true, recurses := true, apart := false, narrowed := true }
def PathAlongUptoSaid : Prop := pathAlongUptoRow.holds Try.pinned (OpenSpec.upto pathAlongSpec)

/-- 'watershedlaw05.PathOrder', WHERE WHAT IT READS IS OF BULK AT MOST 1048576: true; the input reads as it did. -/
def pathOrderUptoRow : OpenClaim := { program := "ytfmnbkcjibhloaa", sum := "324b4955e18ffb46c96afd6257781d43b8314c7f0e00e689453c0da73e304e3c", func := "watershed/watershedlaw05.PathOrder", spec := "pathOrder", unfollowed := true, recurses := true, apart := false, narrowed := true }
def PathOrderUptoSaid : Prop := pathOrderUptoRow.holds Try.pinned (OpenSpec.upto pathOrderSpec)

end Rows
end Go.Proofs.Ytfmnbkcjibhloaa
