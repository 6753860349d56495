/-
  No cell of these rows narrows 'for every input' (looked for: loops, veiled, ifaces, maps, wideKeys, modest, calm, conditions, laid).
  DERIVED. THE GIVEN ROWS OF THIS SEAT. 3 by the template 'for every input the law returns true; each argument reads behind the call as it read before'; 0 by the template 'total and deterministic' (their statements: YtccmnphjiebiaaaTotals.lean).
  GIVEN WITH THE SEED: the statements are not yours to turn. If you find one false, say at which input.
  Laid BY PROGRAM, IN A SANDBOX (cutbox-rows.mjs): the forced cells as the released guide's own fill.sh prints them over the translation 954c39e21ccfb6ef… (all of the seat's roots in one cut). By AI agents, Wed Nov 11 2026. No macro, syntax, notation, axiom, sorry.
-/
import Derived.Test.YtccmnphjiebiaaaChecked
import GoSem.Claim
import GoSem.ClaimJoined
import GoSem.ClaimMapViews
import Derived.JoinedTies
import Derived.KernelRfl
namespace Go.Proofs.Ytccmnphjiebiaaa
/- THE CELL 'sum', in the pinned program and in every row, IS THE sha256 OF THE DUMP (.gsa) THAT YtccmnphjiebiaaaProg.lean LOADS. Nothing in Lean hashes anything: it is a label: what it is worth is what the hold of that sum in a sandbox is worth. -/
noncomputable def Try.pinned : Pinned := { name := "ytccmnphjiebiaaa", sum := "954c39e21ccfb6efc707fbf20ec61123166981d0682d912f8648f6002ae4c27a", checked := Try.checked }
namespace Rows
def none {H : Type} : Left H := { results := [], args := [] }

/-- 'watershedlaw24.BullyDoes': WHATEVER THE INPUT: true; the input reads as it did. -/
def bullyDoesSpec : ChangeSpec := { name := "bullyDoes", fn := fun _ => fun
  | [d1, d2, d3, d4, d5] => { results := [.lit (.bool true)], args := [d1, d2, d3, d4, d5] }
  | _ => none }
def bullyDoesRow : OpenClaim := { program := "ytccmnphjiebiaaa", sum := "954c39e21ccfb6efc707fbf20ec61123166981d0682d912f8648f6002ae4c27a", func := "watershed/watershedlaw24.BullyDoes", spec := "bullyDoes", apart := false }
def BullyDoesSaid : Prop := bullyDoesRow.holds Try.pinned (OpenSpec.ofChange bullyDoesSpec)

/-- ITS FALSE NEIGHBOUR: 'it returns false'. Refute it at one input. -/
def bullyDoesWrong : ChangeSpec := { name := "bullyDoes", fn := fun _ => fun
  | [d1, d2, d3, d4, d5] => { results := [.lit (.bool false)], args := [d1, d2, d3, d4, d5] }
  | _ => none }
def BullyDoesWrongFalsely : Prop := bullyDoesRow.holds Try.pinned (OpenSpec.ofChange bullyDoesWrong)

/-- 'watershedlaw24.BullyTerms': WHATEVER THE INPUT: true; the input reads as it did. -/
def bullyTermsSpec : ChangeSpec := { name := "bullyTerms", fn := fun _ => fun
  | [d1, d2, d3] => { results := [.lit (.bool true)], args := [d1, d2, d3] }
  | _ => none }
def bullyTermsRow : OpenClaim := { program := "ytccmnphjiebiaaa", sum := "954c39e21ccfb6efc707fbf20ec61123166981d0682d912f8648f6002ae4c27a", func := "watershed/watershedlaw24.BullyTerms", spec := "bullyTerms", apart := false }
def BullyTermsSaid : Prop := bullyTermsRow.holds Try.pinned (OpenSpec.ofChange bullyTermsSpec)

/-- ITS FALSE NEIGHBOUR: 'it returns false'. Refute it at one input. -/
def bullyTermsWrong : ChangeSpec := { name := "bullyTerms", fn := fun _ => fun
  | [d1, d2, d3] => { results := [.lit (.bool false)], args := [d1, d2, d3] }
  | _ => none }
def BullyTermsWrongFalsely : Prop := bullyTermsRow.holds Try.pinned (OpenSpec.ofChange bullyTermsWrong)

/-- 'watershedlaw24.BullyLeads': WHATEVER THE INPUT: true; the input reads as it did. -/
def bullyLeadsSpec : ChangeSpec := { name := "bullyLeads", fn := fun _ => fun
  | [d1, d2, d3] => { results := [.lit (.bool true)], args := [d1, d2, d3] }
  | _ => none }
def bullyLeadsRow : OpenClaim := { program := "ytccmnphjiebiaaa", sum := "954c39e21ccfb6efc707fbf20ec61123166981d0682d912f8648f6002ae4c27a", func := "watershed/watershedlaw24.BullyLeads", spec := "bullyLeads", apart := false }
def BullyLeadsSaid : Prop := bullyLeadsRow.holds Try.pinned (OpenSpec.ofChange bullyLeadsSpec)

/-- ITS FALSE NEIGHBOUR: 'it returns false'. Refute it at one input. -/
def bullyLeadsWrong : ChangeSpec := { name := "bullyLeads", fn := fun _ => fun
  | [d1, d2, d3] => { results := [.lit (.bool false)], args := [d1, d2, d3] }
  | _ => none }
def BullyLeadsWrongFalsely : Prop := bullyLeadsRow.holds Try.pinned (OpenSpec.ofChange bullyLeadsWrong)

/- THE SECOND FORM. 'bulk': how many values and letters a reading holds, each counted each time it is reached (what is shared counts as often as it is met; a slice's spare places count too). A statement '..UptoSaid' is the law's where the arguments, and the package variables that the reading takes, are together of bulk at most 1048576: NARROWER than '..Said'. Prove '..Said' where nothing that the law and all that it calls make is longer than what came in: it says more and counts as full. Else prove '..UptoSaid'. A law counts once. -/
mutual
def uptoBulk {H : Type} : DataW H → Nat
  | .lit (.string bytes) => bytes.length + 1
  | .lit _ => 1
  | .nil => 1
  | .ptr d => uptoBulk d + 1
  | .slice elems spare => uptoBulkAll elems + uptoBulkAll spare + 1
  | .agg parts => uptoBulkAll parts + 1
  | .iface _ d => uptoBulk d + 1
  | .map entries => uptoBulkEntries entries + 1
  | .held _ => 1
def uptoBulkAll {H : Type} : List (DataW H) → Nat
  | [] => 0
  | d :: r => uptoBulk d + uptoBulkAll r
def uptoBulkEntries {H : Type} : List (Lit × DataW H) → Nat
  | [] => 0
  | x :: r => uptoBulkEntry x + uptoBulkEntries r
def uptoBulkEntry {H : Type} : Lit × DataW H → Nat
  | (.string bytes, d) => bytes.length + uptoBulk d + 1
  | (_, d) => uptoBulk d + 1
 end
def uptoSmall : (H : Type) → List (DataW H) → Bool := fun _ ds => decide (uptoBulkAll ds ≤ 1048576)
def OpenSpec.upto (s : _root_.Go.ChangeSpec) : _root_.Go.OpenSpec := { _root_.Go.OpenSpec.ofChange s with cond := some uptoSmall }

/-- 'watershedlaw24.BullyDoes', WHERE WHAT IT READS IS OF BULK AT MOST 1048576: true; the input reads as it did. -/
def bullyDoesUptoRow : OpenClaim := { program := "ytccmnphjiebiaaa", sum := "954c39e21ccfb6efc707fbf20ec61123166981d0682d912f8648f6002ae4c27a", func := "watershed/watershedlaw24.BullyDoes", spec := "bullyDoes", apart := false, narrowed := true }
def BullyDoesUptoSaid : Prop := bullyDoesUptoRow.holds Try.pinned (OpenSpec.upto bullyDoesSpec)

/-- 'watershedlaw24.BullyTerms', WHERE WHAT IT READS IS OF BULK AT MOST 1048576: true; the input reads as it did. -/
def bullyTermsUptoRow : OpenClaim := { program := "ytccmnphjiebiaaa", sum := "954c39e21ccfb6efc707fbf20ec61123166981d0682d912f8648f6002ae4c27a", func := "watershed/watershedlaw24.BullyTerms", spec := "bullyTerms", apart := false, narrowed := true }
def BullyTermsUptoSaid : Prop := bullyTermsUptoRow.holds Try.pinned (OpenSpec.upto bullyTermsSpec)

/-- 'watershedlaw24.BullyLeads', WHERE WHAT IT READS IS OF BULK AT MOST 1048576: true; the input reads as it did. -/
def bullyLeadsUptoRow : OpenClaim := { program := "ytccmnphjiebiaaa", sum := "954c39e21ccfb6efc707fbf20ec61123166981d0682d912f8648f6002ae4c27a", func := "watershed/watershedlaw24.BullyLeads", spec := "bullyLeads", apart := false, narrowed := true }
def BullyLeadsUptoSaid : Prop := bullyLeadsUptoRow.holds Try.pinned (OpenSpec.upto bullyLeadsSpec)

end Rows
end Go.Proofs.Ytccmnphjiebiaaa
