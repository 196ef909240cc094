import Derived.Test.YtfmjcinhjbihoaaSorPlain
import Derived.Test.YtfmjcinhjbihoaaVIn
/- small programs, in plain Lean -/
namespace Go.Proofs.Ytfmjcinhjbihoaa
open SorPlain IMap_ VIn
namespace VPlain

abbrev M := List (Int × Int)
/-- what is read; none: it is asked for, and not known -/
def rd (f : Int → Option Int) (m : M) (a : Int) : Option Int := if a < 0 then some 0 else if has a m then some (getD a 0 m) else f a
/-- who is asked -/
def asks (m : M) (a : Int) (qs : List Int) : List Int := if a < 0 then qs else if has a m then qs else qs ++ [a]
def wr (m : M) (a x : Int) : M := if a < 0 then m else put a x m

/-- a run: the address that is needed, or what was written; and what was asked for. skip: the next step is left out -/
def play (f : Int → Option Int) : List Ins → Bool → Int → M → List Int → (Int ⊕ M) × List Int
  | [], _, _, m, qs => (.inr m, qs)
  | _ :: r, true, x, m, qs => play f r false x m qs
  | i :: r, false, x, m, qs =>
    if i.kind = 0 then (match rd f m i.a with | some y => play f r false y m (asks m i.a qs) | none => (.inl i.a, qs))
    else if i.kind = 1 then play f r false x (wr m i.a i.b) qs
    else if i.kind = 2 then play f r false x (wr m i.a x) qs
    else if i.kind = 3 then (match rd f m x with | some y => play f r false y m (asks m x qs) | none => (.inl x, qs))
    else if i.kind = 4 then play f r (decide (x = i.b)) x m qs
    else play f r false x m qs

end VPlain
end Go.Proofs.Ytfmjcinhjbihoaa
