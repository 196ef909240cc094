import Derived.Test.YtnpieopflgkjdaaNums
import Derived.Test.YtnpieopflgkjdaaCfgIn
namespace Go.Proofs.Ytnpieopflgkjdaa
open Go.RowKit Go.Bas
open Lay
namespace BouNums

set_option maxRecDepth 100000 in
theorem walk {H : Type} {enc : TypeId × Value → H} {base : Nat} {spare : Nat → Bool} {held : Bool} {d : DataW H} {p : List MemPlace} {r : Reach} {b0 : Nat} (v : Value) (w : World)
    (hv : Value.okWide Try.prog w r b0 23 v) (h : DataW.Trod enc Try.prog w base spare held 23 v d p) :
    Calls Try.prog 3 #[v] w fun e w' => e = .returned (.bool true) ∧ Below w.heap.size w w' := by
  obtain ⟨c, rfl⟩ := cfg_of hv h
  exact Nums.walk c w

end BouNums
end Go.Proofs.Ytnpieopflgkjdaa
