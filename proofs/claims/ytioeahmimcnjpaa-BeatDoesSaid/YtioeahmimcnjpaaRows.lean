/-
  No cell of these rows narrows 'for every input' (looked for: loops, veiled, ifaces, maps, wideKeys, modest, calm, conditions, laid).
  DERIVED. THE GIVEN ROWS OF THIS SEAT. 3 by the template 'for every input the law returns true; each argument reads behind the call as it read before'; 0 by the template 'total and deterministic' (their statements: YtioeahmimcnjpaaTotals.lean).
  GIVEN WITH THE SEED: the statements are not yours to turn. If you find one false, say at which input.
  Laid BY PROGRAM, IN A SANDBOX (cutbox-rows.mjs): the forced cells as the released guide's own fill.sh prints them over the translation d21da0a619971332… (all of the seat's roots in one cut). By AI agents, Wed Nov 11 2026. No macro, syntax, notation, axiom, sorry.
-/
import Derived.Test.YtioeahmimcnjpaaChecked
import GoSem.Claim
import GoSem.ClaimJoined
import GoSem.ClaimMapViews
import Derived.JoinedTies
import Derived.KernelRfl
namespace Go.Proofs.Ytioeahmimcnjpaa
/- THE CELL 'sum', in the pinned program and in every row, IS THE sha256 OF THE DUMP (.gsa) THAT YtioeahmimcnjpaaProg.lean LOADS. Nothing in Lean hashes anything: it is a label: what it is worth is what the hold of that sum in a sandbox is worth. -/
noncomputable def Try.pinned : Pinned := { name := "ytioeahmimcnjpaa", sum := "d21da0a6199713322d565473c2ef34bddf317f3c495f119e3666d2e9523e3c7e", checked := Try.checked }
namespace Rows
def none {H : Type} : Left H := { results := [], args := [] }

/-- 'watershedlaw23.BeatBeats': WHATEVER THE INPUT: true; the input reads as it did. -/
def beatBeatsSpec : ChangeSpec := { name := "beatBeats", fn := fun _ => fun
  | [d1, d2] => { results := [.lit (.bool true)], args := [d1, d2] }
  | _ => none }
def beatBeatsRow : OpenClaim := { program := "ytioeahmimcnjpaa", sum := "d21da0a6199713322d565473c2ef34bddf317f3c495f119e3666d2e9523e3c7e", func := "watershed/watershedlaw23.BeatBeats", spec := "beatBeats", unfollowed := true, recurses := true, apart := false }
def BeatBeatsSaid : Prop := beatBeatsRow.holds Try.pinned (OpenSpec.ofChange beatBeatsSpec)

/-- ITS FALSE NEIGHBOUR: 'it returns false'. Refute it at one input. -/
def beatBeatsWrong : ChangeSpec := { name := "beatBeats", fn := fun _ => fun
  | [d1, d2] => { results := [.lit (.bool false)], args := [d1, d2] }
  | _ => none }
def BeatBeatsWrongFalsely : Prop := beatBeatsRow.holds Try.pinned (OpenSpec.ofChange beatBeatsWrong)

/-- 'watershedlaw23.BeatDoes': WHATEVER THE INPUT: true; the input reads as it did. -/
def beatDoesSpec : ChangeSpec := { name := "beatDoes", fn := fun _ => fun
  | [d1, d2, d3, d4, d5] => { results := [.lit (.bool true)], args := [d1, d2, d3, d4, d5] }
  | _ => none }
def beatDoesRow : OpenClaim := { program := "ytioeahmimcnjpaa", sum := "d21da0a6199713322d565473c2ef34bddf317f3c495f119e3666d2e9523e3c7e", func := "watershed/watershedlaw23.BeatDoes", spec := "beatDoes", unfollowed := true, recurses := true, apart := false }
def BeatDoesSaid : Prop := beatDoesRow.holds Try.pinned (OpenSpec.ofChange beatDoesSpec)

/-- ITS FALSE NEIGHBOUR: 'it returns false'. Refute it at one input. -/
def beatDoesWrong : ChangeSpec := { name := "beatDoes", fn := fun _ => fun
  | [d1, d2, d3, d4, d5] => { results := [.lit (.bool false)], args := [d1, d2, d3, d4, d5] }
  | _ => none }
def BeatDoesWrongFalsely : Prop := beatDoesRow.holds Try.pinned (OpenSpec.ofChange beatDoesWrong)

/-- 'watershedlaw23.BeatFinds': WHATEVER THE INPUT: true; the input reads as it did. -/
def beatFindsSpec : ChangeSpec := { name := "beatFinds", fn := fun _ => fun
  | [d1, d2, d3, d4] => { results := [.lit (.bool true)], args := [d1, d2, d3, d4] }
  | _ => none }
def beatFindsRow : OpenClaim := { program := "ytioeahmimcnjpaa", sum := "d21da0a6199713322d565473c2ef34bddf317f3c495f119e3666d2e9523e3c7e", func := "watershed/watershedlaw23.BeatFinds", spec := "beatFinds", unfollowed := true, recurses := true, apart := false }
def BeatFindsSaid : Prop := beatFindsRow.holds Try.pinned (OpenSpec.ofChange beatFindsSpec)

/-- ITS FALSE NEIGHBOUR: 'it returns false'. Refute it at one input. -/
def beatFindsWrong : ChangeSpec := { name := "beatFinds", fn := fun _ => fun
  | [d1, d2, d3, d4] => { results := [.lit (.bool false)], args := [d1, d2, d3, d4] }
  | _ => none }
def BeatFindsWrongFalsely : Prop := beatFindsRow.holds Try.pinned (OpenSpec.ofChange beatFindsWrong)

/- THE SECOND FORM. 'bulk': how many values and letters a reading holds, each counted each time it is reached (what is shared counts as often as it is met; a slice's spare places count too). A statement '..UptoSaid' is the law's where the arguments, and the package variables that the reading takes, are together of bulk at most 1048576: NARROWER than '..Said'. Prove '..Said' where nothing that the law and all that it calls make is longer than what came in: it says more and counts as full. Else prove '..UptoSaid'. A law counts once. -/
mutual
def uptoBulk {H : Type} : DataW H → Nat
  | .lit (.string bytes) => bytes.length + 1
  | .lit _ => 1
  | .nil => 1
  | .ptr d => uptoBulk d + 1
  | .slice elems spare => uptoBulkAll elems + uptoBulkAll spare + 1
  | .agg parts => uptoBulkAll parts + 1
  | .iface _ d => uptoBulk d + 1
  | .map entries => uptoBulkEntries entries + 1
  | .held _ => 1
def uptoBulkAll {H : Type} : List (DataW H) → Nat
  | [] => 0
  | d :: r => uptoBulk d + uptoBulkAll r
def uptoBulkEntries {H : Type} : List (Lit × DataW H) → Nat
  | [] => 0
  | x :: r => uptoBulkEntry x + uptoBulkEntries r
def uptoBulkEntry {H : Type} : Lit × DataW H → Nat
  | (.string bytes, d) => bytes.length + uptoBulk d + 1
  | (_, d) => uptoBulk d + 1
 end
def uptoSmall : (H : Type) → List (DataW H) → Bool := fun _ ds => decide (uptoBulkAll ds ≤ 1048576)
def OpenSpec.upto (s : _root_.Go.ChangeSpec) : _root_.Go.OpenSpec := { _root_.Go.OpenSpec.ofChange s with cond := some uptoSmall }

/-- 'watershedlaw23.BeatBeats', WHERE WHAT IT READS IS OF BULK AT MOST 1048576: true; the input reads as it did. -/
def beatBeatsUptoRow : OpenClaim := { program := "ytioeahmimcnjpaa", sum := "d21da0a6199713322d565473c2ef34bddf317f3c495f119e3666d2e9523e3c7e", func := "watershed/watershedlaw23.BeatBeats", spec := "beatBeats", unfollowed := true, recurses := true, apart := false, narrowed := true }
def BeatBeatsUptoSaid : Prop := beatBeatsUptoRow.holds Try.pinned (OpenSpec.upto beatBeatsSpec)

/-- 'watershedlaw23.BeatDoes', WHERE WHAT IT READS IS OF BULK AT MOST 1048576: true; the input reads as it did. -/
def beatDoesUptoRow : OpenClaim := { program := "ytioeahmimcnjpaa", sum := "d21da0a6199713322d565473c2ef34bddf317f3c495f119e3666d2e9523e3c7e", func := "watershed/watershedlaw23.BeatDoes", spec := "beatDoes", unfollowed := true, recurses := true, apart := false, narrowed := true }
def BeatDoesUptoSaid : Prop := beatDoesUptoRow.holds Try.pinned (OpenSpec.upto beatDoesSpec)

/-- 'watershedlaw23.BeatFinds', WHERE WHAT IT READS IS OF BULK AT MOST 1048576: true; the input reads as it did. -/
def beatFindsUptoRow : OpenClaim := { program := "ytioeahmimcnjpaa", sum := "d21da0a6199713322d565473c2ef34bddf317f3c495f119e3666d2e9523e3c7e", func := "watershed/watershedlaw23.BeatFinds", spec := "beatFinds", unfollowed := true, recurses := true, apart := false, narrowed := true }
def BeatFindsUptoSaid : Prop := beatFindsUptoRow.holds Try.pinned (OpenSpec.upto beatFindsSpec)

end Rows
end Go.Proofs.Ytioeahmimcnjpaa
