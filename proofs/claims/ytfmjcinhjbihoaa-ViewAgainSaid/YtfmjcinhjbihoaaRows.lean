/-
  No cell of these rows narrows 'for every input' (looked for: loops, veiled, ifaces, maps, wideKeys, modest, calm, conditions, laid).
  DERIVED. THE GIVEN ROWS OF THIS SEAT. 6 by the template 'for every input the law returns true; each argument reads behind the call as it read before'; 0 by the template 'total and deterministic' (their statements: YtfmjcinhjbihoaaTotals.lean).
  GIVEN WITH THE SEED: the statements are not yours to turn. If you find one false, say at which input.
  Laid BY PROGRAM, IN A SANDBOX (cutbox-rows.mjs): the forced cells as the released guide's own fill.sh prints them over the translation 70e16345c4fc6a78… (all of the seat's roots in one cut). By AI agents, Wed Nov 11 2026. No macro, syntax, notation, axiom, sorry.
-/
import Derived.Test.YtfmjcinhjbihoaaChecked
import GoSem.Claim
import GoSem.ClaimJoined
import GoSem.ClaimMapViews
import Derived.JoinedTies
import Derived.KernelRfl
namespace Go.Proofs.Ytfmjcinhjbihoaa
/- THE CELL 'sum', in the pinned program and in every row, IS THE sha256 OF THE DUMP (.gsa) THAT YtfmjcinhjbihoaaProg.lean LOADS. Nothing in Lean hashes anything: it is a label: what it is worth is what the hold of that sum in a sandbox is worth. -/
noncomputable def Try.pinned : Pinned := { name := "ytfmjcinhjbihoaa", sum := "70e16345c4fc6a78dc0c4a9d6bfe7f84e7d6507477d03c4a9498ac53defe2d89", checked := Try.checked }
namespace Rows
def none {H : Type} : Left H := { results := [], args := [] }

/-- 'assartlaw07.ViewRuns': WHATEVER THE INPUT: true; the input reads as it did. -/
def viewRunsSpec : ChangeSpec := { name := "viewRuns", fn := fun _ => fun
  | [d1, d2] => { results := [.lit (.bool true)], args := [d1, d2] }
  | _ => none }
def viewRunsRow : OpenClaim := { program := "ytfmjcinhjbihoaa", sum := "70e16345c4fc6a78dc0c4a9d6bfe7f84e7d6507477d03c4a9498ac53defe2d89", func := "assart/assartlaw07.ViewRuns", spec := "viewRuns", unfollowed := true, recurses := true, apart := false }
def ViewRunsSaid : Prop := viewRunsRow.holds Try.pinned (OpenSpec.ofChange viewRunsSpec)

/-- ITS FALSE NEIGHBOUR: 'it returns false'. Refute it at one input. -/
def viewRunsWrong : ChangeSpec := { name := "viewRuns", fn := fun _ => fun
  | [d1, d2] => { results := [.lit (.bool false)], args := [d1, d2] }
  | _ => none }
def ViewRunsWrongFalsely : Prop := viewRunsRow.holds Try.pinned (OpenSpec.ofChange viewRunsWrong)

/-- 'assartlaw07.ViewOver': WHATEVER THE INPUT: true; the input reads as it did. -/
def viewOverSpec : ChangeSpec := { name := "viewOver", fn := fun _ => fun
  | [d1, d2, d3] => { results := [.lit (.bool true)], args := [d1, d2, d3] }
  | _ => none }
def viewOverRow : OpenClaim := { program := "ytfmjcinhjbihoaa", sum := "70e16345c4fc6a78dc0c4a9d6bfe7f84e7d6507477d03c4a9498ac53defe2d89", func := "assart/assartlaw07.ViewOver", spec := "viewOver", unfollowed := true, recurses := true, apart := false }
def ViewOverSaid : Prop := viewOverRow.holds Try.pinned (OpenSpec.ofChange viewOverSpec)

/-- ITS FALSE NEIGHBOUR: 'it returns false'. Refute it at one input. -/
def viewOverWrong : ChangeSpec := { name := "viewOver", fn := fun _ => fun
  | [d1, d2, d3] => { results := [.lit (.bool false)], args := [d1, d2, d3] }
  | _ => none }
def ViewOverWrongFalsely : Prop := viewOverRow.holds Try.pinned (OpenSpec.ofChange viewOverWrong)

/-- 'assartlaw07.ViewMore': WHATEVER THE INPUT: true; the input reads as it did. -/
def viewMoreSpec : ChangeSpec := { name := "viewMore", fn := fun _ => fun
  | [d1, d2, d3] => { results := [.lit (.bool true)], args := [d1, d2, d3] }
  | _ => none }
def viewMoreRow : OpenClaim := { program := "ytfmjcinhjbihoaa", sum := "70e16345c4fc6a78dc0c4a9d6bfe7f84e7d6507477d03c4a9498ac53defe2d89", func := "assart/assartlaw07.ViewMore", spec := "viewMore", unfollowed := true, recurses := true, apart := false }
def ViewMoreSaid : Prop := viewMoreRow.holds Try.pinned (OpenSpec.ofChange viewMoreSpec)

/-- ITS FALSE NEIGHBOUR: 'it returns false'. Refute it at one input. -/
def viewMoreWrong : ChangeSpec := { name := "viewMore", fn := fun _ => fun
  | [d1, d2, d3] => { results := [.lit (.bool false)], args := [d1, d2, d3] }
  | _ => none }
def ViewMoreWrongFalsely : Prop := viewMoreRow.holds Try.pinned (OpenSpec.ofChange viewMoreWrong)

/-- 'assartlaw07.ViewRising': WHATEVER THE INPUT: true; the input reads as it did. -/
def viewRisingSpec : ChangeSpec := { name := "viewRising", fn := fun _ => fun
  | [d1, d2] => { results := [.lit (.bool true)], args := [d1, d2] }
  | _ => none }
def viewRisingRow : OpenClaim := { program := "ytfmjcinhjbihoaa", sum := "70e16345c4fc6a78dc0c4a9d6bfe7f84e7d6507477d03c4a9498ac53defe2d89", func := "assart/assartlaw07.ViewRising", spec := "viewRising", unfollowed := true, recurses := true, apart := false }
def ViewRisingSaid : Prop := viewRisingRow.holds Try.pinned (OpenSpec.ofChange viewRisingSpec)

/-- ITS FALSE NEIGHBOUR: 'it returns false'. Refute it at one input. -/
def viewRisingWrong : ChangeSpec := { name := "viewRising", fn := fun _ => fun
  | [d1, d2] => { results := [.lit (.bool false)], args := [d1, d2] }
  | _ => none }
def ViewRisingWrongFalsely : Prop := viewRisingRow.holds Try.pinned (OpenSpec.ofChange viewRisingWrong)

/-- 'assartlaw07.ViewDoes': WHATEVER THE INPUT: true; the input reads as it did. -/
def viewDoesSpec : ChangeSpec := { name := "viewDoes", fn := fun _ => fun
  | [d1, d2] => { results := [.lit (.bool true)], args := [d1, d2] }
  | _ => none }
def viewDoesRow : OpenClaim := { program := "ytfmjcinhjbihoaa", sum := "70e16345c4fc6a78dc0c4a9d6bfe7f84e7d6507477d03c4a9498ac53defe2d89", func := "assart/assartlaw07.ViewDoes", spec := "viewDoes", unfollowed := true, recurses := true, apart := false }
def ViewDoesSaid : Prop := viewDoesRow.holds Try.pinned (OpenSpec.ofChange viewDoesSpec)

/-- ITS FALSE NEIGHBOUR: 'it returns false'. Refute it at one input. -/
def viewDoesWrong : ChangeSpec := { name := "viewDoes", fn := fun _ => fun
  | [d1, d2] => { results := [.lit (.bool false)], args := [d1, d2] }
  | _ => none }
def ViewDoesWrongFalsely : Prop := viewDoesRow.holds Try.pinned (OpenSpec.ofChange viewDoesWrong)

/-- 'assartlaw07.ViewAgain': WHATEVER THE INPUT: true; the input reads as it did. -/
def viewAgainSpec : ChangeSpec := { name := "viewAgain", fn := fun _ => fun
  | [d1, d2] => { results := [.lit (.bool true)], args := [d1, d2] }
  | _ => none }
def viewAgainRow : OpenClaim := { program := "ytfmjcinhjbihoaa", sum := "70e16345c4fc6a78dc0c4a9d6bfe7f84e7d6507477d03c4a9498ac53defe2d89", func := "assart/assartlaw07.ViewAgain", spec := "viewAgain", unfollowed := true, recurses := true, apart := false }
def ViewAgainSaid : Prop := viewAgainRow.holds Try.pinned (OpenSpec.ofChange viewAgainSpec)

/-- ITS FALSE NEIGHBOUR: 'it returns false'. Refute it at one input. -/
def viewAgainWrong : ChangeSpec := { name := "viewAgain", fn := fun _ => fun
  | [d1, d2] => { results := [.lit (.bool false)], args := [d1, d2] }
  | _ => none }
def ViewAgainWrongFalsely : Prop := viewAgainRow.holds Try.pinned (OpenSpec.ofChange viewAgainWrong)

/- THE SECOND FORM. 'bulk': how many values and letters a reading holds, each counted each time it is reached (what is shared counts as often as it is met; a slice's spare places count too). A statement '..UptoSaid' is the law's where the arguments, and the package variables that the reading takes, are together of bulk at most 1048576: NARROWER than '..Said'. Prove '..Said' where nothing that the law and all that it calls make is longer than what came in: it says more and counts as full. Else prove '..UptoSaid'. A law counts once. -/
mutual
def uptoBulk {H : Type} : DataW H → Nat
  | .lit (.string bytes) => bytes.length + 1
  | .lit _ => 1
  | .nil => 1
  | .ptr d => uptoBulk d + 1
  | .slice elems spare => uptoBulkAll elems + uptoBulkAll spare + 1
  | .agg parts => uptoBulkAll parts + 1
  | .iface _ d => uptoBulk d + 1
  | .map entries => uptoBulkEntries entries + 1
  | .held _ => 1
def uptoBulkAll {H : Type} : List (DataW H) → Nat
  | [] => 0
  | d :: r => uptoBulk d + uptoBulkAll r
def uptoBulkEntries {H : Type} : List (Lit × DataW H) → Nat
  | [] => 0
  | x :: r => uptoBulkEntry x + uptoBulkEntries r
def uptoBulkEntry {H : Type} : Lit × DataW H → Nat
  | (.string bytes, d) => bytes.length + uptoBulk d + 1
  | (_, d) => uptoBulk d + 1
 end
def uptoSmall : (H : Type) → List (DataW H) → Bool := fun _ ds => decide (uptoBulkAll ds ≤ 1048576)
def OpenSpec.upto (s : _root_.Go.ChangeSpec) : _root_.Go.OpenSpec := { _root_.Go.OpenSpec.ofChange s with cond := some uptoSmall }

/-- 'assartlaw07.ViewRuns', WHERE WHAT IT READS IS OF BULK AT MOST 1048576: true; the input reads as it did. -/
def viewRunsUptoRow : OpenClaim := { program := "ytfmjcinhjbihoaa", sum := "70e16345c4fc6a78dc0c4a9d6bfe7f84e7d6507477d03c4a9498ac53defe2d89", func := "assart/assartlaw07.ViewRuns", spec := "viewRuns", unfollowed := true, recurses := true, apart := false, narrowed := true }
def ViewRunsUptoSaid : Prop := viewRunsUptoRow.holds Try.pinned (OpenSpec.upto viewRunsSpec)

/-- 'assartlaw07.ViewOver', WHERE WHAT IT READS IS OF BULK AT MOST 1048576: true; the input reads as it did. -/
def viewOverUptoRow : OpenClaim := { program := "ytfmjcinhjbihoaa", sum := "70e16345c4fc6a78dc0c4a9d6bfe7f84e7d6507477d03c4a9498ac53defe2d89", func := "assart/assartlaw07.ViewOver", spec := "viewOver", unfollowed := true, recurses := true, apart := false, narrowed := true }
def ViewOverUptoSaid : Prop := viewOverUptoRow.holds Try.pinned (OpenSpec.upto viewOverSpec)

/-- 'assartlaw07.ViewMore', WHERE WHAT IT READS IS OF BULK AT MOST 1048576: true; the input reads as it did. -/
def viewMoreUptoRow : OpenClaim := { program := "ytfmjcinhjbihoaa", sum := "70e16345c4fc6a78dc0c4a9d6bfe7f84e7d6507477d03c4a9498ac53defe2d89", func := "assart/assartlaw07.ViewMore", spec := "viewMore", unfollowed := true, recurses := true, apart := false, narrowed := true }
def ViewMoreUptoSaid : Prop := viewMoreUptoRow.holds Try.pinned (OpenSpec.upto viewMoreSpec)

/-- 'assartlaw07.ViewRising', WHERE WHAT IT READS IS OF BULK AT MOST 1048576: true; the input reads as it did. -/
def viewRisingUptoRow : OpenClaim := { program := "ytfmjcinhjbihoaa", sum := "70e16345c4fc6a78dc0c4a9d6bfe7f84e7d6507477d03c4a9498ac53defe2d89", func := "assart/assartlaw07.ViewRising", spec := "viewRising", unfollowed := true, recurses := true, apart := false, narrowed := true }
def ViewRisingUptoSaid : Prop := viewRisingUptoRow.holds Try.pinned (OpenSpec.upto viewRisingSpec)

/-- 'assartlaw07.ViewDoes', WHERE WHAT IT READS IS OF BULK AT MOST 1048576: true; the input reads as it did. -/
def viewDoesUptoRow : OpenClaim := { program := "ytfmjcinhjbihoaa", sum := "70e16345c4fc6a78dc0c4a9d6bfe7f84e7d6507477d03c4a9498ac53defe2d89", func := "assart/assartlaw07.ViewDoes", spec := "viewDoes", unfollowed := true, recurses := true, apart := false, narrowed := true }
def ViewDoesUptoSaid : Prop := viewDoesUptoRow.holds Try.pinned (OpenSpec.upto viewDoesSpec)

/-- 'assartlaw07.ViewAgain', WHERE WHAT IT READS IS OF BULK AT MOST 1048576: true; the input reads as it did. -/
def viewAgainUptoRow : OpenClaim := { program := "ytfmjcinhjbihoaa", sum := "70e16345c4fc6a78dc0c4a9d6bfe7f84e7d6507477d03c4a9498ac53defe2d89", func := "assart/assartlaw07.ViewAgain", spec := "viewAgain", unfollowed := true, recurses := true, apart := false, narrowed := true }
def ViewAgainUptoSaid : Prop := viewAgainUptoRow.holds Try.pinned (OpenSpec.upto viewAgainSpec)

end Rows
end Go.Proofs.Ytfmjcinhjbihoaa
