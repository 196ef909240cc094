/-
  No cell of these rows narrows 'for every input' (looked for: loops, veiled, ifaces, maps, wideKeys, modest, calm, conditions, laid).
  DERIVED. THE GIVEN ROWS OF THIS SEAT. 5 by the template 'for every input the law returns true; each argument reads behind the call as it read before'; 0 by the template 'total and deterministic' (their statements: YtllohpkbnopbfaaTotals.lean).
  GIVEN WITH THE SEED: the statements are not yours to turn. If you find one false, say at which input.
  Laid BY PROGRAM, IN A SANDBOX (cutbox-rows.mjs): the forced cells as the released guide's own fill.sh prints them over the translation 7abfb8366c7e6f17… (all of the seat's roots in one cut). By AI agents, Wed Nov 11 2026. No macro, syntax, notation, axiom, sorry.
-/
import Derived.Test.YtllohpkbnopbfaaChecked
import GoSem.Claim
import GoSem.ClaimJoined
import GoSem.ClaimMapViews
import Derived.JoinedTies
import Derived.KernelRfl
namespace Go.Proofs.Ytllohpkbnopbfaa
/- THE CELL 'sum', in the pinned program and in every row, IS THE sha256 OF THE DUMP (.gsa) THAT YtllohpkbnopbfaaProg.lean LOADS. Nothing in Lean hashes anything: it is a label: what it is worth is what the hold of that sum in a sandbox is worth. -/
noncomputable def Try.pinned : Pinned := { name := "ytllohpkbnopbfaa", sum := "7abfb8366c7e6f1756174b3ec3922833f62ed2f580a236566b14e044bbcad9dc", checked := Try.checked }
namespace Rows
def none {H : Type} : Left H := { results := [], args := [] }

/-- 'assartlaw06.SortedEach': WHATEVER THE INPUT: true; the input reads as it did. -/
def sortedEachSpec : ChangeSpec := { name := "sortedEach", fn := fun _ => fun
  | [d1, d2] => { results := [.lit (.bool true)], args := [d1, d2] }
  | _ => none }
def sortedEachRow : OpenClaim := { program := "ytllohpkbnopbfaa", sum := "7abfb8366c7e6f1756174b3ec3922833f62ed2f580a236566b14e044bbcad9dc", func := "assart/assartlaw06.SortedEach", spec := "sortedEach", unfollowed := true, recurses := true, apart := false }
def SortedEachSaid : Prop := sortedEachRow.holds Try.pinned (OpenSpec.ofChange sortedEachSpec)

/-- ITS FALSE NEIGHBOUR: 'it returns false'. Refute it at one input. -/
def sortedEachWrong : ChangeSpec := { name := "sortedEach", fn := fun _ => fun
  | [d1, d2] => { results := [.lit (.bool false)], args := [d1, d2] }
  | _ => none }
def SortedEachWrongFalsely : Prop := sortedEachRow.holds Try.pinned (OpenSpec.ofChange sortedEachWrong)

/-- 'assartlaw06.SortedOrder': WHATEVER THE INPUT: true; the input reads as it did. -/
def sortedOrderSpec : ChangeSpec := { name := "sortedOrder", fn := fun _ => fun
  | [d] => { results := [.lit (.bool true)], args := [d] }
  | _ => none }
def sortedOrderRow : OpenClaim := { program := "ytllohpkbnopbfaa", sum := "7abfb8366c7e6f1756174b3ec3922833f62ed2f580a236566b14e044bbcad9dc", func := "assart/assartlaw06.SortedOrder", spec := "sortedOrder", apart := false }
def SortedOrderSaid : Prop := sortedOrderRow.holds Try.pinned (OpenSpec.ofChange sortedOrderSpec)

/-- ITS FALSE NEIGHBOUR: 'it returns false'. Refute it at one input. -/
def sortedOrderWrong : ChangeSpec := { name := "sortedOrder", fn := fun _ => fun
  | [d] => { results := [.lit (.bool false)], args := [d] }
  | _ => none }
def SortedOrderWrongFalsely : Prop := sortedOrderRow.holds Try.pinned (OpenSpec.ofChange sortedOrderWrong)

/-- 'assartlaw06.SortedOthers': WHATEVER THE INPUT: true; the input reads as it did. -/
def sortedOthersSpec : ChangeSpec := { name := "sortedOthers", fn := fun _ => fun
  | [d1, d2, d3] => { results := [.lit (.bool true)], args := [d1, d2, d3] }
  | _ => none }
def sortedOthersRow : OpenClaim := { program := "ytllohpkbnopbfaa", sum := "7abfb8366c7e6f1756174b3ec3922833f62ed2f580a236566b14e044bbcad9dc", func := "assart/assartlaw06.SortedOthers", spec := "sortedOthers", apart := false }
def SortedOthersSaid : Prop := sortedOthersRow.holds Try.pinned (OpenSpec.ofChange sortedOthersSpec)

/-- ITS FALSE NEIGHBOUR: 'it returns false'. Refute it at one input. -/
def sortedOthersWrong : ChangeSpec := { name := "sortedOthers", fn := fun _ => fun
  | [d1, d2, d3] => { results := [.lit (.bool false)], args := [d1, d2, d3] }
  | _ => none }
def SortedOthersWrongFalsely : Prop := sortedOthersRow.holds Try.pinned (OpenSpec.ofChange sortedOthersWrong)

/-- 'assartlaw06.SortedPlays': WHATEVER THE INPUT: true; the input reads as it did. -/
def sortedPlaysSpec : ChangeSpec := { name := "sortedPlays", fn := fun _ => fun
  | [d1, d2, d3] => { results := [.lit (.bool true)], args := [d1, d2, d3] }
  | _ => none }
def sortedPlaysRow : OpenClaim := { program := "ytllohpkbnopbfaa", sum := "7abfb8366c7e6f1756174b3ec3922833f62ed2f580a236566b14e044bbcad9dc", func := "assart/assartlaw06.SortedPlays", spec := "sortedPlays", unfollowed := true, recurses := true, apart := false }
def SortedPlaysSaid : Prop := sortedPlaysRow.holds Try.pinned (OpenSpec.ofChange sortedPlaysSpec)

/-- ITS FALSE NEIGHBOUR: 'it returns false'. Refute it at one input. -/
def sortedPlaysWrong : ChangeSpec := { name := "sortedPlays", fn := fun _ => fun
  | [d1, d2, d3] => { results := [.lit (.bool false)], args := [d1, d2, d3] }
  | _ => none }
def SortedPlaysWrongFalsely : Prop := sortedPlaysRow.holds Try.pinned (OpenSpec.ofChange sortedPlaysWrong)

/-- 'assartlaw06.SortedNil': WHATEVER THE INPUT: true; the input reads as it did. -/
def sortedNilSpec : ChangeSpec := { name := "sortedNil", fn := fun _ => fun
  | [d1, d2] => { results := [.lit (.bool true)], args := [d1, d2] }
  | _ => none }
def sortedNilRow : OpenClaim := { program := "ytllohpkbnopbfaa", sum := "7abfb8366c7e6f1756174b3ec3922833f62ed2f580a236566b14e044bbcad9dc", func := "assart/assartlaw06.SortedNil", spec := "sortedNil", unfollowed := true, recurses := true, apart := false }
def SortedNilSaid : Prop := sortedNilRow.holds Try.pinned (OpenSpec.ofChange sortedNilSpec)

/-- ITS FALSE NEIGHBOUR: 'it returns false'. Refute it at one input. -/
def sortedNilWrong : ChangeSpec := { name := "sortedNil", fn := fun _ => fun
  | [d1, d2] => { results := [.lit (.bool false)], args := [d1, d2] }
  | _ => none }
def SortedNilWrongFalsely : Prop := sortedNilRow.holds Try.pinned (OpenSpec.ofChange sortedNilWrong)

/- THE SECOND FORM. 'bulk': how many values and letters a reading holds, each counted each time it is reached (what is shared counts as often as it is met; a slice's spare places count too). A statement '..UptoSaid' is the law's where the arguments, and the package variables that the reading takes, are together of bulk at most 1048576: NARROWER than '..Said'. Prove '..Said' where nothing that the law and all that it calls make is longer than what came in: it says more and counts as full. Else prove '..UptoSaid'. A law counts once. -/
mutual
def uptoBulk {H : Type} : DataW H → Nat
  | .lit (.string bytes) => bytes.length + 1
  | .lit _ => 1
  | .nil => 1
  | .ptr d => uptoBulk d + 1
  | .slice elems spare => uptoBulkAll elems + uptoBulkAll spare + 1
  | .agg parts => uptoBulkAll parts + 1
  | .iface _ d => uptoBulk d + 1
  | .map entries => uptoBulkEntries entries + 1
  | .held _ => 1
def uptoBulkAll {H : Type} : List (DataW H) → Nat
  | [] => 0
  | d :: r => uptoBulk d + uptoBulkAll r
def uptoBulkEntries {H : Type} : List (Lit × DataW H) → Nat
  | [] => 0
  | x :: r => uptoBulkEntry x + uptoBulkEntries r
def uptoBulkEntry {H : Type} : Lit × DataW H → Nat
  | (.string bytes, d) => bytes.length + uptoBulk d + 1
  | (_, d) => uptoBulk d + 1
 end
def uptoSmall : (H : Type) → List (DataW H) → Bool := fun _ ds => decide (uptoBulkAll ds ≤ 1048576)
def OpenSpec.upto (s : _root_.Go.ChangeSpec) : _root_.Go.OpenSpec := { _root_.Go.OpenSpec.ofChange s with cond := some uptoSmall }

/-- 'assartlaw06.SortedEach', WHERE WHAT IT READS IS OF BULK AT MOST 1048576: true; the input reads as it did. -/
def sortedEachUptoRow : OpenClaim := { program := "ytllohpkbnopbfaa", sum := "7abfb8366c7e6f1756174b3ec3922833f62ed2f580a236566b14e044bbcad9dc", func := "assart/assartlaw06.SortedEach", spec := "sortedEach", unfollowed := true, recurses := true, apart := false, narrowed := true }
def SortedEachUptoSaid : Prop := sortedEachUptoRow.holds Try.pinned (OpenSpec.upto sortedEachSpec)

/-- 'assartlaw06.SortedOrder', WHERE WHAT IT READS IS OF BULK AT MOST 1048576: true; the input reads as it did. -/
def sortedOrderUptoRow : OpenClaim := { program := "ytllohpkbnopbfaa", sum := "7abfb8366c7e6f1756174b3ec3922833f62ed2f580a236566b14e044bbcad9dc", func := "assart/assartlaw06.SortedOrder", spec := "sortedOrder", apart := false, narrowed := true }
def SortedOrderUptoSaid : Prop := sortedOrderUptoRow.holds Try.pinned (OpenSpec.upto sortedOrderSpec)

/-- 'assartlaw06.SortedOthers', WHERE WHAT IT READS IS OF BULK AT MOST 1048576: true; the input reads as it did. -/
def sortedOthersUptoRow : OpenClaim := { program := "ytllohpkbnopbfaa", sum := "7abfb8366c7e6f1756174b3ec3922833f62ed2f580a236566b14e044bbcad9dc", func := "assart/assartlaw06.SortedOthers", spec := "sortedOthers", apart := false, narrowed := true }
def SortedOthersUptoSaid : Prop := sortedOthersUptoRow.holds Try.pinned (OpenSpec.upto sortedOthersSpec)

/-- 'assartlaw06.SortedPlays', WHERE WHAT IT READS IS OF BULK AT MOST 1048576: true; the input reads as it did. -/
def sortedPlaysUptoRow : OpenClaim := { program := "ytllohpkbnopbfaa", sum := "7abfb8366c7e6f1756174b3ec3922833f62ed2f580a236566b14e044bbcad9dc", func := "assart/assartlaw06.SortedPlays", spec := "sortedPlays", unfollowed := true, recurses := true, apart := false, narrowed := true }
def SortedPlaysUptoSaid : Prop := sortedPlaysUptoRow.holds Try.pinned (OpenSpec.upto sortedPlaysSpec)

/-- 'assartlaw06.SortedNil', WHERE WHAT IT READS IS OF BULK AT MOST 1048576: true; the input reads as it did. -/
def sortedNilUptoRow : OpenClaim := { program := "ytllohpkbnopbfaa", sum := "7abfb8366c7e6f1756174b3ec3922833f62ed2f580a236566b14e044bbcad9dc", func := "assart/assartlaw06.SortedNil", spec := "sortedNil", unfollowed := true, recurses := true, apart := false, narrowed := true }
def SortedNilUptoSaid : Prop := sortedNilUptoRow.holds Try.pinned (OpenSpec.upto sortedNilSpec)

end Rows
end Go.Proofs.Ytllohpkbnopbfaa
