import Derived.Test.YtfmjcinhjbihoabSorPlain
import Derived.Test.YtfmjcinhjbihoabVIn
/- small programs, in plain Lean -/
namespace Go.Proofs.Ytfmjcinhjbihoab
open SorPlain IMap_ VIn
namespace VPlain

abbrev M := List (Int × Int)
/-- what is read; none: it is asked for, and not known -/
def rd (f : Int → Option Int) (m : M) (a : Int) : Option Int := if a < 0 then some 0 else if has a m then some (getD a 0 m) else f a
/-- who is asked -/
def asks (m : M) (a : Int) (qs : List Int) : List Int := if a < 0 then qs else if has a m then qs else qs ++ [a]
def wr (m : M) (a x : Int) : M := if a < 0 then m else put a x m

end VPlain
end Go.Proofs.Ytfmjcinhjbihoab
