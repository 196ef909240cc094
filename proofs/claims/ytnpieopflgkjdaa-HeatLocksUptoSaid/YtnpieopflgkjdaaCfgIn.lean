import Derived.Test.YtnpieopflgkjdaaLay
import Derived.Deep.Slices
import Derived.Deep.Fields
import Derived.ChangeSame
import Derived.ProofKit
namespace Go.Bas
open Go.ChangeShapes Go.WideShapes Go.Deep Go.RowKit

theorem hone_at {P : Program} {fs : Array Field} (h : oneCellFields P fs = true) (j : Nat) (f : Field) (hj : fs[j]? = some f) : f.offset = j ∧ P.cellsOf f.type = 1 := hone_of h j f hj

/-- a struct of ints, by value, that came in -/
theorem open_int_row {H : Type} {enc : TypeId × Value → H} {P : Program} {w : World} {base : Nat} {spare : Nat → Bool} {held : Bool} {t it : TypeId} {fs : Array Field} {v : Value} {d : DataW H} {p : List MemPlace}
    (ht : P.underlying t = some (.struct fs)) (hone : oneCellFields P fs = true) (hit : P.underlying it = some (.int .i64)) (hall : fs.toList.all (fun f => f.type == it) = true)
    (hok : ∃ cs, v = .agg cs ∧ cs.size = P.cellsOf t) (h : DataW.Trod enc P w base spare held t v d p) :
    ∃ cs : Array Value, v = .agg cs ∧ cs.size = P.cellsOf t ∧ ∀ j, j < fs.size → ∃ x : Int, cs[j]? = some (.int .i64 x) := by
  obtain ⟨cs, rfl, hsz⟩ := hok
  obtain ⟨fuel, hf⟩ := h
  obtain ⟨ys, n, rfl, hy, hlen, hyl, hff⟩ := DataW.trod_struct ht hf
  refine ⟨cs, rfl, hsz, fun j hj => ?_⟩
  have hfj : fs[j]? = some fs[j] := Array.getElem?_eq_getElem hj
  obtain ⟨ho, hk⟩ := hone_at hone j _ hfj
  have h1 := hff j _ hfj
  rw [ho, hk] at h1
  have hty : fs[j].type = it := by
    have := List.all_eq_true.1 hall fs[j] (by simp)
    simpa using this
  rw [hty, List.getElem?_eq_getElem (by omega)] at h1
  obtain ⟨x, hx, _⟩ := DataW.trod_int hit h1
  refine ⟨x, ?_⟩
  have e : (Value.cells (.agg cs)).toList = cs.toList := rfl
  have h2 : cs.toList[j]? = some (.int .i64 x) := by
    have h3 : ((cs.toList.drop j).take 1)[0]? = some (.int .i64 x) := by
      have hx' : (cs.toList.drop j).take 1 = [.int .i64 x] := hx
      rw [hx']; rfl
    simpa using h3
  simpa using h2
end Go.Bas

namespace Go.Proofs.Ytnpieopflgkjdaa
open Go.RowKit Go.Bas Go.WideShapes
namespace Lay

set_option maxRecDepth 100000 in
theorem cfg_of {H : Type} {enc : TypeId × Value → H} {w : World} {base : Nat} {spare : Nat → Bool} {held : Bool} {v : Value} {d : DataW H} {p : List MemPlace} {r : Reach} {b0 : Nat}
    (hv : Value.okWide Try.prog w r b0 23 v) (h : DataW.Trod enc Try.prog w base spare held 23 v d p) : ∃ c, v = .agg (cfg c) := by
  obtain ⟨cs, rfl, hsz, hc⟩ := open_int_row Try.underlying23 (by kernel_rfl) Try.underlying3 (by kernel_rfl) (okWide_struct Try.underlying23 hv) h
  have h11 : cs.size = 11 := by rw [hsz]; kernel_rfl
  obtain ⟨x0, h0⟩ := hc 0 (by decide); obtain ⟨x1, h1⟩ := hc 1 (by decide); obtain ⟨x2, h2⟩ := hc 2 (by decide); obtain ⟨x3, h3⟩ := hc 3 (by decide)
  obtain ⟨x4, h4⟩ := hc 4 (by decide); obtain ⟨x5, h5⟩ := hc 5 (by decide); obtain ⟨x6, h6⟩ := hc 6 (by decide); obtain ⟨x7, h7⟩ := hc 7 (by decide)
  obtain ⟨x8, h8⟩ := hc 8 (by decide); obtain ⟨x9, h9⟩ := hc 9 (by decide); obtain ⟨xa, ha⟩ := hc 10 (by decide)
  refine ⟨⟨x0, x1, x2, x3, x4, x5, x6, x7, x8, x9, xa⟩, ?_⟩
  congr 1
  apply Array.ext_getElem?
  intro i
  by_cases hi : i < 11
  · match i, hi with
    | 0, _ => exact h0
    | 1, _ => exact h1
    | 2, _ => exact h2
    | 3, _ => exact h3
    | 4, _ => exact h4
    | 5, _ => exact h5
    | 6, _ => exact h6
    | 7, _ => exact h7
    | 8, _ => exact h8
    | 9, _ => exact h9
    | 10, _ => exact ha
  · rw [Array.getElem?_eq_none (by omega), Array.getElem?_eq_none (by simp [cfg]; omega)]

end Lay
end Go.Proofs.Ytnpieopflgkjdaa
