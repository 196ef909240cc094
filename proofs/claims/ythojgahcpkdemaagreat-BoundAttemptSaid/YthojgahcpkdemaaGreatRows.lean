/-
  No cell of these rows narrows 'for every input' (looked for: loops, veiled, ifaces, maps, wideKeys, modest, calm, conditions, laid).
  DERIVED. THE GIVEN ROWS OF THIS SEAT. 6 by the template 'for every input the law returns true; each argument reads behind the call as it read before'; 0 by the template 'total and deterministic' (their statements: YthojgahcpkdemaaGreatTotals.lean).
  GIVEN WITH THE SEED: the statements are not yours to turn. If you find one false, say at which input.
  Laid BY PROGRAM, IN A SANDBOX (cutbox-rows.mjs): the forced cells as the released guide's own fill.sh prints them over the translation 54accd60e1fe3fd7… (all of the seat's roots in one cut). By AI agents, Wed Nov 11 2026. No macro, syntax, notation, axiom, sorry.
-/
import Derived.Test.YthojgahcpkdemaaGreatChecked
import GoSem.Claim
import GoSem.ClaimJoined
import GoSem.ClaimMapViews
import Derived.JoinedTies
import Derived.KernelRfl
namespace Go.Proofs.YthojgahcpkdemaaGreat
/- THE CELL 'sum', in the pinned program and in every row, IS THE sha256 OF THE DUMP (.gsa) THAT YthojgahcpkdemaaGreatProg.lean LOADS. Nothing in Lean hashes anything: it is a label: what it is worth is what the hold of that sum in a sandbox is worth. -/
noncomputable def Tryz.pinned : Pinned := { name := "ythojgahcpkdemaagreat", sum := "54accd60e1fe3fd78a1787a951b38a55dbc0a241b1ca0332a6b69da083cb6f9e", checked := Tryz.checked }
namespace Rows
def none {H : Type} : Left H := { results := [], args := [] }

/-- 'assartlaw28.BoundAttempt': WHATEVER THE INPUT: true; the input reads as it did. -/
def boundAttemptSpec : ChangeSpec := { name := "boundAttempt", fn := fun _ => fun
  | [d1, d2, d3, d4] => { results := [.lit (.bool true)], args := [d1, d2, d3, d4] }
  | _ => none }
def boundAttemptRow : OpenClaim := { program := "ythojgahcpkdemaagreat", sum := "54accd60e1fe3fd78a1787a951b38a55dbc0a241b1ca0332a6b69da083cb6f9e", func := "assart/assartlaw28.BoundAttempt", spec := "boundAttempt", unfollowed := true, recurses := true, apart := false }
def BoundAttemptSaid : Prop := boundAttemptRow.holds Tryz.pinned (OpenSpec.ofChange boundAttemptSpec)

/-- ITS FALSE NEIGHBOUR: 'it returns false'. Refute it at one input. -/
def boundAttemptWrong : ChangeSpec := { name := "boundAttempt", fn := fun _ => fun
  | [d1, d2, d3, d4] => { results := [.lit (.bool false)], args := [d1, d2, d3, d4] }
  | _ => none }
def BoundAttemptWrongFalsely : Prop := boundAttemptRow.holds Tryz.pinned (OpenSpec.ofChange boundAttemptWrong)

/-- 'assartlaw22.AttemptLocks': WHATEVER THE INPUT: true; the input reads as it did. -/
def attemptLocksSpec : ChangeSpec := { name := "attemptLocks", fn := fun _ => fun
  | [d1, d2, d3, d4] => { results := [.lit (.bool true)], args := [d1, d2, d3, d4] }
  | _ => none }
def attemptLocksRow : OpenClaim := { program := "ythojgahcpkdemaagreat", sum := "54accd60e1fe3fd78a1787a951b38a55dbc0a241b1ca0332a6b69da083cb6f9e", func := "assart/assartlaw22.AttemptLocks", spec := "attemptLocks", unfollowed := true, recurses := true, apart := false }
def AttemptLocksSaid : Prop := attemptLocksRow.holds Tryz.pinned (OpenSpec.ofChange attemptLocksSpec)

/-- ITS FALSE NEIGHBOUR: 'it returns false'. Refute it at one input. -/
def attemptLocksWrong : ChangeSpec := { name := "attemptLocks", fn := fun _ => fun
  | [d1, d2, d3, d4] => { results := [.lit (.bool false)], args := [d1, d2, d3, d4] }
  | _ => none }
def AttemptLocksWrongFalsely : Prop := attemptLocksRow.holds Tryz.pinned (OpenSpec.ofChange attemptLocksWrong)

/-- 'assartlaw22.AttemptSpent': WHATEVER THE INPUT: true; the input reads as it did. -/
def attemptSpentSpec : ChangeSpec := { name := "attemptSpent", fn := fun _ => fun
  | [d1, d2, d3] => { results := [.lit (.bool true)], args := [d1, d2, d3] }
  | _ => none }
def attemptSpentRow : OpenClaim := { program := "ythojgahcpkdemaagreat", sum := "54accd60e1fe3fd78a1787a951b38a55dbc0a241b1ca0332a6b69da083cb6f9e", func := "assart/assartlaw22.AttemptSpent", spec := "attemptSpent", unfollowed := true, recurses := true, apart := false }
def AttemptSpentSaid : Prop := attemptSpentRow.holds Tryz.pinned (OpenSpec.ofChange attemptSpentSpec)

/-- ITS FALSE NEIGHBOUR: 'it returns false'. Refute it at one input. -/
def attemptSpentWrong : ChangeSpec := { name := "attemptSpent", fn := fun _ => fun
  | [d1, d2, d3] => { results := [.lit (.bool false)], args := [d1, d2, d3] }
  | _ => none }
def AttemptSpentWrongFalsely : Prop := attemptSpentRow.holds Tryz.pinned (OpenSpec.ofChange attemptSpentWrong)

/-- 'assartlaw22.AttemptSteps': WHATEVER THE INPUT: true; the input reads as it did. -/
def attemptStepsSpec : ChangeSpec := { name := "attemptSteps", fn := fun _ => fun
  | [d1, d2, d3] => { results := [.lit (.bool true)], args := [d1, d2, d3] }
  | _ => none }
def attemptStepsRow : OpenClaim := { program := "ythojgahcpkdemaagreat", sum := "54accd60e1fe3fd78a1787a951b38a55dbc0a241b1ca0332a6b69da083cb6f9e", func := "assart/assartlaw22.AttemptSteps", spec := "attemptSteps", unfollowed := true, recurses := true, apart := false }
def AttemptStepsSaid : Prop := attemptStepsRow.holds Tryz.pinned (OpenSpec.ofChange attemptStepsSpec)

/-- ITS FALSE NEIGHBOUR: 'it returns false'. Refute it at one input. -/
def attemptStepsWrong : ChangeSpec := { name := "attemptSteps", fn := fun _ => fun
  | [d1, d2, d3] => { results := [.lit (.bool false)], args := [d1, d2, d3] }
  | _ => none }
def AttemptStepsWrongFalsely : Prop := attemptStepsRow.holds Tryz.pinned (OpenSpec.ofChange attemptStepsWrong)

/-- 'assartlaw22.AttemptOrder': WHATEVER THE INPUT: true; the input reads as it did. -/
def attemptOrderSpec : ChangeSpec := { name := "attemptOrder", fn := fun _ => fun
  | [d1, d2, d3, d4] => { results := [.lit (.bool true)], args := [d1, d2, d3, d4] }
  | _ => none }
def attemptOrderRow : OpenClaim := { program := "ythojgahcpkdemaagreat", sum := "54accd60e1fe3fd78a1787a951b38a55dbc0a241b1ca0332a6b69da083cb6f9e", func := "assart/assartlaw22.AttemptOrder", spec := "attemptOrder", unfollowed := true, recurses := true, apart := false }
def AttemptOrderSaid : Prop := attemptOrderRow.holds Tryz.pinned (OpenSpec.ofChange attemptOrderSpec)

/-- ITS FALSE NEIGHBOUR: 'it returns false'. Refute it at one input. -/
def attemptOrderWrong : ChangeSpec := { name := "attemptOrder", fn := fun _ => fun
  | [d1, d2, d3, d4] => { results := [.lit (.bool false)], args := [d1, d2, d3, d4] }
  | _ => none }
def AttemptOrderWrongFalsely : Prop := attemptOrderRow.holds Tryz.pinned (OpenSpec.ofChange attemptOrderWrong)

/-- 'assartlaw22.AttemptNil': WHATEVER THE INPUT: true; the input reads as it did. -/
def attemptNilSpec : ChangeSpec := { name := "attemptNil", fn := fun _ => fun
  | [d1, d2] => { results := [.lit (.bool true)], args := [d1, d2] }
  | _ => none }
def attemptNilRow : OpenClaim := { program := "ythojgahcpkdemaagreat", sum := "54accd60e1fe3fd78a1787a951b38a55dbc0a241b1ca0332a6b69da083cb6f9e", func := "assart/assartlaw22.AttemptNil", spec := "attemptNil", unfollowed := true, recurses := true, apart := false }
def AttemptNilSaid : Prop := attemptNilRow.holds Tryz.pinned (OpenSpec.ofChange attemptNilSpec)

/-- ITS FALSE NEIGHBOUR: 'it returns false'. Refute it at one input. -/
def attemptNilWrong : ChangeSpec := { name := "attemptNil", fn := fun _ => fun
  | [d1, d2] => { results := [.lit (.bool false)], args := [d1, d2] }
  | _ => none }
def AttemptNilWrongFalsely : Prop := attemptNilRow.holds Tryz.pinned (OpenSpec.ofChange attemptNilWrong)

/- THE SECOND FORM. 'bulk': how many values and letters a reading holds, each counted each time it is reached (what is shared counts as often as it is met; a slice's spare places count too). A statement '..UptoSaid' is the law's where the arguments, and the package variables that the reading takes, are together of bulk at most 1048576: NARROWER than '..Said'. Prove '..Said' where nothing that the law and all that it calls make is longer than what came in: it says more and counts as full. Else prove '..UptoSaid'. A law counts once. -/
mutual
def uptoBulk {H : Type} : DataW H → Nat
  | .lit (.string bytes) => bytes.length + 1
  | .lit _ => 1
  | .nil => 1
  | .ptr d => uptoBulk d + 1
  | .slice elems spare => uptoBulkAll elems + uptoBulkAll spare + 1
  | .agg parts => uptoBulkAll parts + 1
  | .iface _ d => uptoBulk d + 1
  | .map entries => uptoBulkEntries entries + 1
  | .held _ => 1
def uptoBulkAll {H : Type} : List (DataW H) → Nat
  | [] => 0
  | d :: r => uptoBulk d + uptoBulkAll r
def uptoBulkEntries {H : Type} : List (Lit × DataW H) → Nat
  | [] => 0
  | x :: r => uptoBulkEntry x + uptoBulkEntries r
def uptoBulkEntry {H : Type} : Lit × DataW H → Nat
  | (.string bytes, d) => bytes.length + uptoBulk d + 1
  | (_, d) => uptoBulk d + 1
 end
def uptoSmall : (H : Type) → List (DataW H) → Bool := fun _ ds => decide (uptoBulkAll ds ≤ 1048576)
def OpenSpec.upto (s : _root_.Go.ChangeSpec) : _root_.Go.OpenSpec := { _root_.Go.OpenSpec.ofChange s with cond := some uptoSmall }

/-- 'assartlaw28.BoundAttempt', WHERE WHAT IT READS IS OF BULK AT MOST 1048576: true; the input reads as it did. -/
def boundAttemptUptoRow : OpenClaim := { program := "ythojgahcpkdemaagreat", sum := "54accd60e1fe3fd78a1787a951b38a55dbc0a241b1ca0332a6b69da083cb6f9e", func := "assart/assartlaw28.BoundAttempt", spec := "boundAttempt", unfollowed := true, recurses := true, apart := false, narrowed := true }
def BoundAttemptUptoSaid : Prop := boundAttemptUptoRow.holds Tryz.pinned (OpenSpec.upto boundAttemptSpec)

/-- 'assartlaw22.AttemptLocks', WHERE WHAT IT READS IS OF BULK AT MOST 1048576: true; the input reads as it did. -/
def attemptLocksUptoRow : OpenClaim := { program := "ythojgahcpkdemaagreat", sum := "54accd60e1fe3fd78a1787a951b38a55dbc0a241b1ca0332a6b69da083cb6f9e", func := "assart/assartlaw22.AttemptLocks", spec := "attemptLocks", unfollowed := true, recurses := true, apart := false, narrowed := true }
def AttemptLocksUptoSaid : Prop := attemptLocksUptoRow.holds Tryz.pinned (OpenSpec.upto attemptLocksSpec)

/-- 'assartlaw22.AttemptSpent', WHERE WHAT IT READS IS OF BULK AT MOST 1048576: true; the input reads as it did. -/
def attemptSpentUptoRow : OpenClaim := { program := "ythojgahcpkdemaagreat", sum := "54accd60e1fe3fd78a1787a951b38a55dbc0a241b1ca0332a6b69da083cb6f9e", func := "assart/assartlaw22.AttemptSpent", spec := "attemptSpent", unfollowed := true, recurses := true, apart := false, narrowed := true }
def AttemptSpentUptoSaid : Prop := attemptSpentUptoRow.holds Tryz.pinned (OpenSpec.upto attemptSpentSpec)

/-- 'assartlaw22.AttemptSteps', WHERE WHAT IT READS IS OF BULK AT MOST 1048576: true; the input reads as it did. -/
def attemptStepsUptoRow : OpenClaim := { program := "ythojgahcpkdemaagreat", sum := "54accd60e1fe3fd78a1787a951b38a55dbc0a241b1ca0332a6b69da083cb6f9e", func := "assart/assartlaw22.AttemptSteps", spec := "attemptSteps", unfollowed := true, recurses := true, apart := false, narrowed := true }
def AttemptStepsUptoSaid : Prop := attemptStepsUptoRow.holds Tryz.pinned (OpenSpec.upto attemptStepsSpec)

/-- 'assartlaw22.AttemptOrder', WHERE WHAT IT READS IS OF BULK AT MOST 1048576: true; the input reads as it did. -/
def attemptOrderUptoRow : OpenClaim := { program := "ythojgahcpkdemaagreat", sum := "54accd60e1fe3fd78a1787a951b38a55dbc0a241b1ca0332a6b69da083cb6f9e", func := "assart/assartlaw22.AttemptOrder", spec := "attemptOrder", unfollowed := true, recurses := true, apart := false, narrowed := true }
def AttemptOrderUptoSaid : Prop := attemptOrderUptoRow.holds Tryz.pinned (OpenSpec.upto attemptOrderSpec)

/-- 'assartlaw22.AttemptNil', WHERE WHAT IT READS IS OF BULK AT MOST 1048576: true; the input reads as it did. -/
def attemptNilUptoRow : OpenClaim := { program := "ythojgahcpkdemaagreat", sum := "54accd60e1fe3fd78a1787a951b38a55dbc0a241b1ca0332a6b69da083cb6f9e", func := "assart/assartlaw22.AttemptNil", spec := "attemptNil", unfollowed := true, recurses := true, apart := false, narrowed := true }
def AttemptNilUptoSaid : Prop := attemptNilUptoRow.holds Tryz.pinned (OpenSpec.upto attemptNilSpec)

end Rows
end Go.Proofs.YthojgahcpkdemaaGreat
