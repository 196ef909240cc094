import Derived.Test.YtfmjcinhjbihoabRows
import Derived.Test.YtfmjcinhjbihoabBase3
import Derived.Maps.OwnSet
import Derived.Maps.Views
import Derived.WalkKit
/- a Go map from int to int that the call has made: what it has, as a function -/
namespace Go.Proofs.Ytfmjcinhjbihoab
open Go.RowKit Go.Bas Go.ChangeShapes Go.WideShapes
namespace IMap_

/-- a Go int -/
def In64 (a : Int) : Prop := -9223372036854775808 ≤ a ∧ a ≤ 9223372036854775807
theorem In64.wf {a : Int} (h : In64 a) : (Lit.int .i64 a).wf = true := by
  unfold In64 at h
  simp [Lit.wf, IntKind.min, IntKind.max, IntKind.signed, IntKind.bits]
  omega
theorem in64_of_wf {a : Int} (h : (Lit.int .i64 a).wf = true) : In64 a := by
  unfold In64
  simp [Lit.wf, IntKind.min, IntKind.max, IntKind.signed, IntKind.bits] at h
  omega

theorem keyed : Go.Maps.Keyed Try.prog 3 := Go.Maps.int_keyed Try.underlying3
theorem key_of {a : Int} (h : In64 a) : keyOf Try.prog 3 (.int .i64 a) = some (.int .i64 a) := Go.Maps.keyOf_int_mk Try.underlying3 h.wf
theorem elem_of {a : Int} (h : In64 a) : plainElem (H := Unit) Try.prog 3 (.int .i64 a) = some (.lit (.int .i64 a), []) := plainElem_int Try.underlying3 h.wf
theorem zero_of (w : World) : (zeroValue 3).run Try.prog w = .ok (.int .i64 0) w := by
  have h : (Try.prog.info? 3).map (·.zero) = some (some (.int .i64 0)) := by kernel_rfl
  obtain ⟨i, hi, hz⟩ := Option.map_eq_some_iff.1 h
  simp [zeroValue, typeInfo, hi, hz]

/-- block b is a map of at most n keys that has f -/
def IMap (w : World) (b n : Nat) (f : Int → Option Int) : Prop :=
  ∃ D : DataW Unit, w.ownsMap Try.prog 3 (plainElem Try.prog 3) b n D ∧ (∀ a, In64 a → Maps.has D (.int .i64 a) = (f a).isSome) ∧
    (∀ a, In64 a → D.atKey (.int .i64 a) (.lit (.int .i64 0)) = .lit (.int .i64 ((f a).getD 0)))

theorem IMap.made (w : World) : IMap (w.alloc (.map #[] 0)) w.heap.size 0 (fun _ => none) :=
  ⟨.map [], World.ownsMap_made w _ _ _, fun a _ => rfl, fun a _ => rfl⟩
theorem IMap.block {w w' : World} {b n : Nat} {f : Int → Option Int} (h : IMap w b n f) (e : w'.heap[b]? = w.heap[b]?) : IMap w' b n f := by
  obtain ⟨D, ⟨es, clock, h1, h2⟩, h3⟩ := h
  exact ⟨D, ⟨es, clock, e.trans h1, h2⟩, h3⟩
theorem IMap.lt {w : World} {b n : Nat} {f : Int → Option Int} (h : IMap w b n f) : b < w.heap.size := by
  obtain ⟨D, h1, _⟩ := h
  exact h1.lt
theorem IMap.look {w : World} {b n : Nat} {f : Int → Option Int} (h : IMap w b n f) {a : Int} (ha : In64 a) :
    (Instr.lookup 45 (.map (some b)) (.int .i64 a) true).run Try.prog w = .ok (.tuple #[.int .i64 ((f a).getD 0), .bool (f a).isSome]) w := by
  obtain ⟨D, h1, h2, h3⟩ := h
  obtain ⟨v, ps, hrun, hv⟩ := h1.look_ok keyed Try.underlying45 (zero_of w) (elem_of (a := 0) (by unfold In64; omega)) (key_of ha)
  rw [h3 a ha] at hv
  obtain ⟨c, rfl, hc, _⟩ := plainElem_int_inv Try.underlying3 hv
  have : (f a).getD 0 = c := by simpa using congrArg Prod.fst hc
  rw [h2 a ha] at hrun
  rw [this]
  exact hrun
theorem IMap.look1 {w : World} {b n : Nat} {f : Int → Option Int} (h : IMap w b n f) {a : Int} (ha : In64 a) :
    (Instr.lookup 45 (.map (some b)) (.int .i64 a) false).run Try.prog w = .ok (.int .i64 ((f a).getD 0)) w := by
  obtain ⟨D, h1, h2, h3⟩ := h
  obtain ⟨c, hrun, hc, _⟩ := h1.lookup_int keyed Try.underlying45 Try.underlying3 (zero_of w) (key_of ha)
  rw [h3 a ha] at hc
  have : (f a).getD 0 = c := by simpa using hc
  rw [this]
  exact hrun
theorem IMap.set {w : World} {b n : Nat} {f : Int → Option Int} (h : IMap w b n f) (hn : n < 1000000) {a x : Int} (ha : In64 a) (hx : In64 x) :
    ∃ w', (Instr.mapUpdate 45 (.map (some b)) (.int .i64 a) (.int .i64 x)).run Try.prog w = .ok () w' ∧ IMap w' b (n + 1) (fun k => if k = a then some x else f k) ∧ w.grownBy w' (some b) := by
  obtain ⟨D, h1, h2, h3⟩ := h
  obtain ⟨w', hrun, hown, hg⟩ := h1.update keyed Try.underlying45 (show n < maxLen by unfold maxLen; omega) (key_of ha) (elem_of hx)
  have hk : WideAt.IsKeyLit (.int .i64 a) := trivial
  refine ⟨w', hrun, ⟨_, hown, fun k hk' => ?_, fun k hk' => ?_⟩, hg⟩
  · by_cases e : k = a
    · subst e; rw [Maps.has_put_same h1.isMap hk]; simp
    · rw [Maps.has_put_other (by simpa using e)]; simp [e, h2 k hk']
  · by_cases e : k = a
    · subst e; rw [Maps.atKey_put_same h1.isMap hk]; simp
    · rw [Maps.atKey_put_other (by simpa using e)]; simp [e, h3 k hk']

end IMap_
end Go.Proofs.Ytfmjcinhjbihoab
