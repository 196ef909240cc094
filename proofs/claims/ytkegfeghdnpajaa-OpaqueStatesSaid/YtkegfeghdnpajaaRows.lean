/-
  No cell of these rows narrows 'for every input' (looked for: loops, veiled, ifaces, maps, wideKeys, modest, calm, conditions, laid).
  DERIVED. THE GIVEN ROWS OF THIS SEAT. 6 by the template 'for every input the law returns true; each argument reads behind the call as it read before'; 0 by the template 'total and deterministic' (their statements: YtkegfeghdnpajaaTotals.lean).
  GIVEN WITH THE SEED: the statements are not yours to turn. If you find one false, say at which input.
  Laid BY PROGRAM, IN A SANDBOX (cutbox-rows.mjs): the forced cells as the released guide's own fill.sh prints them over the translation 3b83d1f1a49657ea… (all of the seat's roots in one cut). By AI agents, Wed Nov 11 2026. No macro, syntax, notation, axiom, sorry.
-/
import Derived.Test.YtkegfeghdnpajaaChecked
import GoSem.Claim
import GoSem.ClaimJoined
import GoSem.ClaimMapViews
import Derived.JoinedTies
import Derived.KernelRfl
namespace Go.Proofs.Ytkegfeghdnpajaa
/- THE CELL 'sum', in the pinned program and in every row, IS THE sha256 OF THE DUMP (.gsa) THAT YtkegfeghdnpajaaProg.lean LOADS. Nothing in Lean hashes anything: it is a label: what it is worth is what the hold of that sum in a sandbox is worth. -/
noncomputable def Try.pinned : Pinned := { name := "ytkegfeghdnpajaa", sum := "3b83d1f1a49657eaf24af64d81f1f560ee8557c735c8e1147993accdc9576e35", checked := Try.checked }
namespace Rows
def none {H : Type} : Left H := { results := [], args := [] }

/-- 'assartlaw28.BoundNumbers': WHATEVER THE INPUT: true; the input reads as it did. -/
def boundNumbersSpec : ChangeSpec := { name := "boundNumbers", fn := fun _ => fun
  | [d] => { results := [.lit (.bool true)], args := [d] }
  | _ => none }
def boundNumbersRow : OpenClaim := { program := "ytkegfeghdnpajaa", sum := "3b83d1f1a49657eaf24af64d81f1f560ee8557c735c8e1147993accdc9576e35", func := "assart/assartlaw28.BoundNumbers", spec := "boundNumbers", apart := false }
def BoundNumbersSaid : Prop := boundNumbersRow.holds Try.pinned (OpenSpec.ofChange boundNumbersSpec)

/-- ITS FALSE NEIGHBOUR: 'it returns false'. Refute it at one input. -/
def boundNumbersWrong : ChangeSpec := { name := "boundNumbers", fn := fun _ => fun
  | [d] => { results := [.lit (.bool false)], args := [d] }
  | _ => none }
def BoundNumbersWrongFalsely : Prop := boundNumbersRow.holds Try.pinned (OpenSpec.ofChange boundNumbersWrong)

/-- 'assartlaw38.HeatTotals': WHATEVER THE INPUT: true; the input reads as it did. -/
def heatTotalsSpec : ChangeSpec := { name := "heatTotals", fn := fun _ => fun
  | [d] => { results := [.lit (.bool true)], args := [d] }
  | _ => none }
def heatTotalsRow : OpenClaim := { program := "ytkegfeghdnpajaa", sum := "3b83d1f1a49657eaf24af64d81f1f560ee8557c735c8e1147993accdc9576e35", func := "assart/assartlaw38.HeatTotals", spec := "heatTotals", unfollowed := true, recurses := true, apart := false }
def HeatTotalsSaid : Prop := heatTotalsRow.holds Try.pinned (OpenSpec.ofChange heatTotalsSpec)

/-- ITS FALSE NEIGHBOUR: 'it returns false'. Refute it at one input. -/
def heatTotalsWrong : ChangeSpec := { name := "heatTotals", fn := fun _ => fun
  | [d] => { results := [.lit (.bool false)], args := [d] }
  | _ => none }
def HeatTotalsWrongFalsely : Prop := heatTotalsRow.holds Try.pinned (OpenSpec.ofChange heatTotalsWrong)

/-- 'assartlaw38.HeatLocks': WHATEVER THE INPUT: true; the input reads as it did. -/
def heatLocksSpec : ChangeSpec := { name := "heatLocks", fn := fun _ => fun
  | [d1, d2] => { results := [.lit (.bool true)], args := [d1, d2] }
  | _ => none }
def heatLocksRow : OpenClaim := { program := "ytkegfeghdnpajaa", sum := "3b83d1f1a49657eaf24af64d81f1f560ee8557c735c8e1147993accdc9576e35", func := "assart/assartlaw38.HeatLocks", spec := "heatLocks", unfollowed := true, recurses := true, apart := false }
def HeatLocksSaid : Prop := heatLocksRow.holds Try.pinned (OpenSpec.ofChange heatLocksSpec)

/-- ITS FALSE NEIGHBOUR: 'it returns false'. Refute it at one input. -/
def heatLocksWrong : ChangeSpec := { name := "heatLocks", fn := fun _ => fun
  | [d1, d2] => { results := [.lit (.bool false)], args := [d1, d2] }
  | _ => none }
def HeatLocksWrongFalsely : Prop := heatLocksRow.holds Try.pinned (OpenSpec.ofChange heatLocksWrong)

/-- 'assartlaw34.OpaqueChecks': WHATEVER THE INPUT: true; the input reads as it did. -/
def opaqueChecksSpec : ChangeSpec := { name := "opaqueChecks", fn := fun _ => fun
  | [d1, d2] => { results := [.lit (.bool true)], args := [d1, d2] }
  | _ => none }
def opaqueChecksRow : OpenClaim := { program := "ytkegfeghdnpajaa", sum := "3b83d1f1a49657eaf24af64d81f1f560ee8557c735c8e1147993accdc9576e35", func := "assart/assartlaw34.OpaqueChecks", spec := "opaqueChecks", unfollowed := true, recurses := true, apart := false }
def OpaqueChecksSaid : Prop := opaqueChecksRow.holds Try.pinned (OpenSpec.ofChange opaqueChecksSpec)

/-- ITS FALSE NEIGHBOUR: 'it returns false'. Refute it at one input. -/
def opaqueChecksWrong : ChangeSpec := { name := "opaqueChecks", fn := fun _ => fun
  | [d1, d2] => { results := [.lit (.bool false)], args := [d1, d2] }
  | _ => none }
def OpaqueChecksWrongFalsely : Prop := opaqueChecksRow.holds Try.pinned (OpenSpec.ofChange opaqueChecksWrong)

/-- 'assartlaw34.OpaqueStates': WHATEVER THE INPUT: true; the input reads as it did. -/
def opaqueStatesSpec : ChangeSpec := { name := "opaqueStates", fn := fun _ => fun
  | [d1, d2, d3] => { results := [.lit (.bool true)], args := [d1, d2, d3] }
  | _ => none }
def opaqueStatesRow : OpenClaim := { program := "ytkegfeghdnpajaa", sum := "3b83d1f1a49657eaf24af64d81f1f560ee8557c735c8e1147993accdc9576e35", func := "assart/assartlaw34.OpaqueStates", spec := "opaqueStates", unfollowed := true, recurses := true, apart := false }
def OpaqueStatesSaid : Prop := opaqueStatesRow.holds Try.pinned (OpenSpec.ofChange opaqueStatesSpec)

/-- ITS FALSE NEIGHBOUR: 'it returns false'. Refute it at one input. -/
def opaqueStatesWrong : ChangeSpec := { name := "opaqueStates", fn := fun _ => fun
  | [d1, d2, d3] => { results := [.lit (.bool false)], args := [d1, d2, d3] }
  | _ => none }
def OpaqueStatesWrongFalsely : Prop := opaqueStatesRow.holds Try.pinned (OpenSpec.ofChange opaqueStatesWrong)

/-- 'assartlaw40.ReportLines': WHATEVER THE INPUT: true; the input reads as it did. -/
def reportLinesSpec : ChangeSpec := { name := "reportLines", fn := fun _ => fun
  | [d1, d2, d3] => { results := [.lit (.bool true)], args := [d1, d2, d3] }
  | _ => none }
def reportLinesRow : OpenClaim := { program := "ytkegfeghdnpajaa", sum := "3b83d1f1a49657eaf24af64d81f1f560ee8557c735c8e1147993accdc9576e35", func := "assart/assartlaw40.ReportLines", spec := "reportLines", inPlace := ["internal/abi.NoEscape", "internal/bytealg.MakeNoZero"], apart := false }
def ReportLinesSaid : Prop := reportLinesRow.holds Try.pinned (OpenSpec.ofChange reportLinesSpec)

/-- ITS FALSE NEIGHBOUR: 'it returns false'. Refute it at one input. -/
def reportLinesWrong : ChangeSpec := { name := "reportLines", fn := fun _ => fun
  | [d1, d2, d3] => { results := [.lit (.bool false)], args := [d1, d2, d3] }
  | _ => none }
def ReportLinesWrongFalsely : Prop := reportLinesRow.holds Try.pinned (OpenSpec.ofChange reportLinesWrong)

/- THE SECOND FORM. 'bulk': how many values and letters a reading holds, each counted each time it is reached (what is shared counts as often as it is met; a slice's spare places count too). A statement '..UptoSaid' is the law's where the arguments, and the package variables that the reading takes, are together of bulk at most 1048576: NARROWER than '..Said'. Prove '..Said' where nothing that the law and all that it calls make is longer than what came in: it says more and counts as full. Else prove '..UptoSaid'. A law counts once. -/
mutual
def uptoBulk {H : Type} : DataW H → Nat
  | .lit (.string bytes) => bytes.length + 1
  | .lit _ => 1
  | .nil => 1
  | .ptr d => uptoBulk d + 1
  | .slice elems spare => uptoBulkAll elems + uptoBulkAll spare + 1
  | .agg parts => uptoBulkAll parts + 1
  | .iface _ d => uptoBulk d + 1
  | .map entries => uptoBulkEntries entries + 1
  | .held _ => 1
def uptoBulkAll {H : Type} : List (DataW H) → Nat
  | [] => 0
  | d :: r => uptoBulk d + uptoBulkAll r
def uptoBulkEntries {H : Type} : List (Lit × DataW H) → Nat
  | [] => 0
  | x :: r => uptoBulkEntry x + uptoBulkEntries r
def uptoBulkEntry {H : Type} : Lit × DataW H → Nat
  | (.string bytes, d) => bytes.length + uptoBulk d + 1
  | (_, d) => uptoBulk d + 1
 end
def uptoSmall : (H : Type) → List (DataW H) → Bool := fun _ ds => decide (uptoBulkAll ds ≤ 1048576)
def OpenSpec.upto (s : _root_.Go.ChangeSpec) : _root_.Go.OpenSpec := { _root_.Go.OpenSpec.ofChange s with cond := some uptoSmall }

/-- 'assartlaw28.BoundNumbers', WHERE WHAT IT READS IS OF BULK AT MOST 1048576: true; the input reads as it did. -/
def boundNumbersUptoRow : OpenClaim := { program := "ytkegfeghdnpajaa", sum := "3b83d1f1a49657eaf24af64d81f1f560ee8557c735c8e1147993accdc9576e35", func := "assart/assartlaw28.BoundNumbers", spec := "boundNumbers", apart := false, narrowed := true }
def BoundNumbersUptoSaid : Prop := boundNumbersUptoRow.holds Try.pinned (OpenSpec.upto boundNumbersSpec)

/-- 'assartlaw38.HeatTotals', WHERE WHAT IT READS IS OF BULK AT MOST 1048576: true; the input reads as it did. -/
def heatTotalsUptoRow : OpenClaim := { program := "ytkegfeghdnpajaa", sum := "3b83d1f1a49657eaf24af64d81f1f560ee8557c735c8e1147993accdc9576e35", func := "assart/assartlaw38.HeatTotals", spec := "heatTotals", unfollowed := true, recurses := true, apart := false, narrowed := true }
def HeatTotalsUptoSaid : Prop := heatTotalsUptoRow.holds Try.pinned (OpenSpec.upto heatTotalsSpec)

/-- 'assartlaw38.HeatLocks', WHERE WHAT IT READS IS OF BULK AT MOST 1048576: true; the input reads as it did. -/
def heatLocksUptoRow : OpenClaim := { program := "ytkegfeghdnpajaa", sum := "3b83d1f1a49657eaf24af64d81f1f560ee8557c735c8e1147993accdc9576e35", func := "assart/assartlaw38.HeatLocks", spec := "heatLocks", unfollowed := true, recurses := true, apart := false, narrowed := true }
def HeatLocksUptoSaid : Prop := heatLocksUptoRow.holds Try.pinned (OpenSpec.upto heatLocksSpec)

/-- 'assartlaw34.OpaqueChecks', WHERE WHAT IT READS IS OF BULK AT MOST 1048576: true; the input reads as it did. -/
def opaqueChecksUptoRow : OpenClaim := { program := "ytkegfeghdnpajaa", sum := "3b83d1f1a49657eaf24af64d81f1f560ee8557c735c8e1147993accdc9576e35", func := "assart/assartlaw34.OpaqueChecks", spec := "opaqueChecks", unfollowed := true, recurses := true, apart := false, narrowed := true }
def OpaqueChecksUptoSaid : Prop := opaqueChecksUptoRow.holds Try.pinned (OpenSpec.upto opaqueChecksSpec)

/-- 'assartlaw34.OpaqueStates', WHERE WHAT IT READS IS OF BULK AT MOST 1048576: true; the input reads as it did. -/
def opaqueStatesUptoRow : OpenClaim := { program := "ytkegfeghdnpajaa", sum := "3b83d1f1a49657eaf24af64d81f1f560ee8557c735c8e1147993accdc9576e35", func := "assart/assartlaw34.OpaqueStates", spec := "opaqueStates", unfollowed := true, recurses := true, apart := false, narrowed := true }
def OpaqueStatesUptoSaid : Prop := opaqueStatesUptoRow.holds Try.pinned (OpenSpec.upto opaqueStatesSpec)

/-- 'assartlaw40.ReportLines', WHERE WHAT IT READS IS OF BULK AT MOST 1048576: true; the input reads as it did. -/
def reportLinesUptoRow : OpenClaim := { program := "ytkegfeghdnpajaa", sum := "3b83d1f1a49657eaf24af64d81f1f560ee8557c735c8e1147993accdc9576e35", func := "assart/assartlaw40.ReportLines", spec := "reportLines", inPlace := ["internal/abi.NoEscape", "internal/bytealg.MakeNoZero"], apart := false, narrowed := true }
def ReportLinesUptoSaid : Prop := reportLinesUptoRow.holds Try.pinned (OpenSpec.upto reportLinesSpec)

end Rows
end Go.Proofs.Ytkegfeghdnpajaa
