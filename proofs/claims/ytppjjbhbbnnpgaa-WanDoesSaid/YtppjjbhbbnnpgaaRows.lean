/-
  No cell of these rows narrows 'for every input' (looked for: loops, veiled, ifaces, maps, wideKeys, modest, calm, conditions, laid).
  DERIVED. THE GIVEN ROWS OF THIS SEAT. 3 by the template 'for every input the law returns true; each argument reads behind the call as it read before'; 0 by the template 'total and deterministic' (their statements: YtppjjbhbbnnpgaaTotals.lean).
  GIVEN WITH THE SEED: the statements are not yours to turn. If you find one false, say at which input.
  Laid BY PROGRAM, IN A SANDBOX (cutbox-rows.mjs): the forced cells as the released guide's own fill.sh prints them over the translation 507f131211cf4d0c… (all of the seat's roots in one cut). By AI agents, Wed Nov 11 2026. No macro, syntax, notation, axiom, sorry.
-/
import Derived.Test.YtppjjbhbbnnpgaaChecked
import GoSem.Claim
import GoSem.ClaimJoined
import GoSem.ClaimMapViews
import Derived.JoinedTies
import Derived.KernelRfl
namespace Go.Proofs.Ytppjjbhbbnnpgaa
/- THE CELL 'sum', in the pinned program and in every row, IS THE sha256 OF THE DUMP (.gsa) THAT YtppjjbhbbnnpgaaProg.lean LOADS. Nothing in Lean hashes anything: it is a label: what it is worth is what the hold of that sum in a sandbox is worth. -/
noncomputable def Try.pinned : Pinned := { name := "ytppjjbhbbnnpgaa", sum := "507f131211cf4d0c8fa16725b4c33bbc0e1d9fa8d603fc0c1ef647fa2b2ff084", checked := Try.checked }
namespace Rows
def none {H : Type} : Left H := { results := [], args := [] }

/-- 'watershedlaw16.WanDoes': WHATEVER THE INPUT: true; the input reads as it did. -/
def wanDoesSpec : ChangeSpec := { name := "wanDoes", fn := fun _ => fun
  | [d1, d2] => { results := [.lit (.bool true)], args := [d1, d2] }
  | _ => none }
def wanDoesRow : OpenClaim := { program := "ytppjjbhbbnnpgaa", sum := "507f131211cf4d0c8fa16725b4c33bbc0e1d9fa8d603fc0c1ef647fa2b2ff084", func := "watershed/watershedlaw16.WanDoes", spec := "wanDoes", unfollowed := true, recurses := true, plainKeys := false, apart := false }
def WanDoesSaid : Prop := wanDoesRow.holds Try.pinned (OpenSpec.ofChange wanDoesSpec)

/-- ITS FALSE NEIGHBOUR: 'it returns false'. Refute it at one input. -/
def wanDoesWrong : ChangeSpec := { name := "wanDoes", fn := fun _ => fun
  | [d1, d2] => { results := [.lit (.bool false)], args := [d1, d2] }
  | _ => none }
def WanDoesWrongFalsely : Prop := wanDoesRow.holds Try.pinned (OpenSpec.ofChange wanDoesWrong)

/-- 'watershedlaw16.WanCounts': WHATEVER THE INPUT: true; the input reads as it did. -/
def wanCountsSpec : ChangeSpec := { name := "wanCounts", fn := fun _ => fun
  | [d1, d2] => { results := [.lit (.bool true)], args := [d1, d2] }
  | _ => none }
def wanCountsRow : OpenClaim := { program := "ytppjjbhbbnnpgaa", sum := "507f131211cf4d0c8fa16725b4c33bbc0e1d9fa8d603fc0c1ef647fa2b2ff084", func := "watershed/watershedlaw16.WanCounts", spec := "wanCounts", unfollowed := true, recurses := true, plainKeys := false, apart := false }
def WanCountsSaid : Prop := wanCountsRow.holds Try.pinned (OpenSpec.ofChange wanCountsSpec)

/-- ITS FALSE NEIGHBOUR: 'it returns false'. Refute it at one input. -/
def wanCountsWrong : ChangeSpec := { name := "wanCounts", fn := fun _ => fun
  | [d1, d2] => { results := [.lit (.bool false)], args := [d1, d2] }
  | _ => none }
def WanCountsWrongFalsely : Prop := wanCountsRow.holds Try.pinned (OpenSpec.ofChange wanCountsWrong)

/-- 'watershedlaw16.WanCuts': WHATEVER THE INPUT: true; the input reads as it did. -/
def wanCutsSpec : ChangeSpec := { name := "wanCuts", fn := fun _ => fun
  | [d1, d2, d3, d4] => { results := [.lit (.bool true)], args := [d1, d2, d3, d4] }
  | _ => none }
def wanCutsRow : OpenClaim := { program := "ytppjjbhbbnnpgaa", sum := "507f131211cf4d0c8fa16725b4c33bbc0e1d9fa8d603fc0c1ef647fa2b2ff084", func := "watershed/watershedlaw16.WanCuts", spec := "wanCuts", unfollowed := true, recurses := true, plainKeys := false, apart := false }
def WanCutsSaid : Prop := wanCutsRow.holds Try.pinned (OpenSpec.ofChange wanCutsSpec)

/-- ITS FALSE NEIGHBOUR: 'it returns false'. Refute it at one input. -/
def wanCutsWrong : ChangeSpec := { name := "wanCuts", fn := fun _ => fun
  | [d1, d2, d3, d4] => { results := [.lit (.bool false)], args := [d1, d2, d3, d4] }
  | _ => none }
def WanCutsWrongFalsely : Prop := wanCutsRow.holds Try.pinned (OpenSpec.ofChange wanCutsWrong)

/- THE SECOND FORM. 'bulk': how many values and letters a reading holds, each counted each time it is reached (what is shared counts as often as it is met; a slice's spare places count too). A statement '..UptoSaid' is the law's where the arguments, and the package variables that the reading takes, are together of bulk at most 1048576: NARROWER than '..Said'. Prove '..Said' where nothing that the law and all that it calls make is longer than what came in: it says more and counts as full. Else prove '..UptoSaid'. A law counts once. -/
mutual
def uptoBulk {H : Type} : DataW H → Nat
  | .lit (.string bytes) => bytes.length + 1
  | .lit _ => 1
  | .nil => 1
  | .ptr d => uptoBulk d + 1
  | .slice elems spare => uptoBulkAll elems + uptoBulkAll spare + 1
  | .agg parts => uptoBulkAll parts + 1
  | .iface _ d => uptoBulk d + 1
  | .map entries => uptoBulkEntries entries + 1
  | .held _ => 1
def uptoBulkAll {H : Type} : List (DataW H) → Nat
  | [] => 0
  | d :: r => uptoBulk d + uptoBulkAll r
def uptoBulkEntries {H : Type} : List (Lit × DataW H) → Nat
  | [] => 0
  | x :: r => uptoBulkEntry x + uptoBulkEntries r
def uptoBulkEntry {H : Type} : Lit × DataW H → Nat
  | (.string bytes, d) => bytes.length + uptoBulk d + 1
  | (_, d) => uptoBulk d + 1
 end
def uptoSmall : (H : Type) → List (DataW H) → Bool := fun _ ds => decide (uptoBulkAll ds ≤ 1048576)
def OpenSpec.upto (s : _root_.Go.ChangeSpec) : _root_.Go.OpenSpec := { _root_.Go.OpenSpec.ofChange s with cond := some uptoSmall }

/-- 'watershedlaw16.WanDoes', WHERE WHAT IT READS IS OF BULK AT MOST 1048576: true; the input reads as it did. -/
def wanDoesUptoRow : OpenClaim := { program := "ytppjjbhbbnnpgaa", sum := "507f131211cf4d0c8fa16725b4c33bbc0e1d9fa8d603fc0c1ef647fa2b2ff084", func := "watershed/watershedlaw16.WanDoes", spec := "wanDoes", unfollowed := true, recurses := true, plainKeys := false, apart := false, narrowed := true }
def WanDoesUptoSaid : Prop := wanDoesUptoRow.holds Try.pinned (OpenSpec.upto wanDoesSpec)

/-- 'watershedlaw16.WanCounts', WHERE WHAT IT READS IS OF BULK AT MOST 1048576: true; the input reads as it did. -/
def wanCountsUptoRow : OpenClaim := { program := "ytppjjbhbbnnpgaa", sum := "507f131211cf4d0c8fa16725b4c33bbc0e1d9fa8d603fc0c1ef647fa2b2ff084", func := "watershed/watershedlaw16.WanCounts", spec := "wanCounts", unfollowed := true, recurses := true, plainKeys := false, apart := false, narrowed := true }
def WanCountsUptoSaid : Prop := wanCountsUptoRow.holds Try.pinned (OpenSpec.upto wanCountsSpec)

/-- 'watershedlaw16.WanCuts', WHERE WHAT IT READS IS OF BULK AT MOST 1048576: true; the input reads as it did. -/
def wanCutsUptoRow : OpenClaim := { program := "ytppjjbhbbnnpgaa", sum := "507f131211cf4d0c8fa16725b4c33bbc0e1d9fa8d603fc0c1ef647fa2b2ff084", func := "watershed/watershedlaw16.WanCuts", spec := "wanCuts", unfollowed := true, recurses := true, plainKeys := false, apart := false, narrowed := true }
def WanCutsUptoSaid : Prop := wanCutsUptoRow.holds Try.pinned (OpenSpec.upto wanCutsSpec)

end Rows
end Go.Proofs.Ytppjjbhbbnnpgaa
