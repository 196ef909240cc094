import Derived.Test.YtfmjcinhjbihoabRows
import Derived.Test.YtfmjcinhjbihoabBase3
import Derived.Test.YtfmjcinhjbihoabIMap
import Derived.Deep.Slices
import Derived.Deep.Fields
import Derived.ChangeSame
import Derived.ProofKit
namespace Go.Bas
open Go.ChangeShapes Go.WideShapes Go.Deep Go.RowKit

/-- a slice of structs of one-cell fields that came in, also as a field of something: at each place and field a cell, and its reading -/
theorem open_rows {H : Type} {enc : TypeId × Value → H} {P : Program} {w : World} {base : Nat} {spare : Nat → Bool} {held : Bool} {t e : TypeId} {fs : Array Field} {v : Value} {x : DataW H × List MemPlace} {fuel : Nat}
    (ht : P.underlying t = some (.slice e)) (he : P.underlying e = some (.struct fs)) (hone : oneCellFields P fs = true) (hC : P.cellsOf e = fs.size) (hpos : 0 < fs.size)
    (hf : DataW.trod enc P w base spare held fuel t [v] = some x) :
    ∃ (A : Option Addr) (n c : Nat), v = .slice A n c ∧ n ≤ c ∧ c ≤ maxLen ∧
      (0 < n → ∃ b off, A = some ⟨b, off, none⟩ ∧ b < w.heap.size ∧
        ∀ i, i < n → ∀ (j : Nat) (f : Field), fs[j]? = some f → ∃ u y m, w.cell? ⟨b, off + i * fs.size + j, none⟩ = some u ∧ DataW.trod enc P w base spare held m f.type [u] = some y) := by
  rcases open_slice ht hf with ⟨hcs, _⟩ | ⟨ad, len, cap, m, k, D, Pl, hcs, _, hl, hm, hmm, _, hi⟩
  · simp at hcs
    subst hcs
    exact ⟨none, 0, 0, rfl, Nat.le_refl _, Nat.zero_le _, fun h => absurd h (by omega)⟩
  · simp at hcs
    subst hcs
    refine ⟨_, _, _, rfl, hl, hm, fun hn => ?_⟩
    have hmn : len ≤ m := by rw [hmm]; split <;> omega
    have key : ∀ i, i < len → ∀ (j : Nat) (f : Field), fs[j]? = some f → ∃ u y q, w.cell? (ad.add (i * fs.size + j)) = some u ∧ DataW.trod enc P w base spare held q f.type [u] = some y := by
      intro i him j f hj
      obtain ⟨cs', hc, ht'⟩ := hi i (by omega)
      rw [hC] at hc
      obtain ⟨ys, n', hn', hy, hlen, hyl, hff⟩ := DataW.trod_struct he ht'
      obtain ⟨_, hcl, hat⟩ := World.cells?_some hc
      obtain ⟨ho, hk⟩ := hone_of hone j f hj
      have hjl : j < fs.size := (Array.getElem?_eq_some_iff.1 hj).1
      have hcell := hat j hjl
      have h1 := hff j f hj
      rw [ho, hk] at h1
      have hjl' : j < cs'.length := by omega
      have h2 : (cs'.drop j).take 1 = [cs'[j]] := by
        rw [List.drop_eq_getElem_cons hjl']; rfl
      rw [h2] at h1
      have hys : ys[j]? = some (ys[j]'(by omega)) := List.getElem?_eq_getElem (by omega)
      refine ⟨_, _, n', ?_, h1.trans hys⟩
      rw [← Go.Deep.add_add, hcell]
      exact List.getElem?_eq_getElem hjl'
    obtain ⟨b, off, spot⟩ := ad
    obtain ⟨u0, _, _, h0, _⟩ := key 0 hn 0 _ (Array.getElem?_eq_getElem hpos)
    have hs : spot = none := by
      have h00 : w.cell? ⟨b, off, spot⟩ = some u0 := by simpa [Addr.add] using h0
      cases spot with
      | none => rfl
      | some x =>
        simp [World.cell?] at h00
        split at h00 <;> simp at h00
    subst hs
    refine ⟨b, off, rfl, ?_, ?_⟩
    · have := World.block_lt_of_cell? w _ h0
      simpa [Addr.add] using this
    · intro i hin j f hj
      obtain ⟨u, y, q, hc, hy⟩ := key i hin j f hj
      refine ⟨u, y, q, ?_, hy⟩
      rw [← hc]
      unfold Addr.add
      split
      · rename_i h0; rw [Nat.add_assoc, h0]; rfl
      · simp [Nat.add_assoc]

end Go.Bas

namespace Go.Proofs.Ytfmjcinhjbihoab
open Go.RowKit Go.Bas Go.WideShapes
namespace VIn
open IMap_

/-- pairs in memory, below block B -/
def Pairs (w : World) (B : Nat) (s : Value) (l : List (Int × Int)) : Prop :=
  ∃ (A : Option Addr) (c : Nat), s = .slice A l.length c ∧ l.length ≤ maxLen ∧
    (0 < l.length → ∃ b off, A = some ⟨b, off, none⟩ ∧ b < B ∧
      ∀ i (h : i < l.length), w.cell? ⟨b, off + i * 2, none⟩ = some (.int .i64 l[i].1) ∧ w.cell? ⟨b, off + i * 2 + 1, none⟩ = some (.int .i64 l[i].2))

theorem Pairs.below {w w' : World} {B : Nat} {s : Value} {l : List (Int × Int)} (h : Pairs w B s l) (hb : Below B w w') : Pairs w' B s l := by
  obtain ⟨A, c, rfl, hm, hc⟩ := h
  refine ⟨A, c, rfl, hm, fun hn => ?_⟩
  obtain ⟨b, off, rfl, hlt, hc⟩ := hc hn
  refine ⟨b, off, rfl, hlt, fun i hi => ?_⟩
  obtain ⟨h0, h1⟩ := hc i hi
  exact ⟨by rw [hb.cell (by exact hlt)]; exact h0, by rw [hb.cell (by exact hlt)]; exact h1⟩

theorem Pairs.mono {w : World} {B C : Nat} {s : Value} {l : List (Int × Int)} (h : Pairs w B s l) (hb : B ≤ C) : Pairs w C s l := by
  obtain ⟨A, c, rfl, hm, hc⟩ := h
  refine ⟨A, c, rfl, hm, fun hn => ?_⟩
  obtain ⟨b, off, rfl, hlt, hc⟩ := hc hn
  exact ⟨b, off, rfl, by omega, hc⟩
/-- all numbers are Go's ints -/
def PIn (l : List (Int × Int)) : Prop := ∀ p ∈ l, In64 p.1 ∧ In64 p.2

theorem pairs_in {H : Type} {enc : TypeId × Value → H} {w : World} {base : Nat} {spare : Nat → Bool} {held : Bool} {v : Value} {x : DataW H × List MemPlace} {fuel : Nat}
    (h : DataW.trod enc Try.prog w base spare held fuel 26 [v] = some x) : ∃ l, Pairs w w.heap.size v l ∧ PIn l := by
  obtain ⟨A, n, c, rfl, hnc, hcm, hb⟩ := open_rows Try.underlying26 Try.underlying52 (by kernel_rfl) (by kernel_rfl) (by decide) h
  by_cases hn : n = 0
  · subst hn
    exact ⟨[], ⟨A, c, rfl, Nat.zero_le _, fun h => absurd h (by simp)⟩, fun p hp => by simp at hp⟩
  · obtain ⟨b, off, rfl, hlt, hc⟩ := hb (by omega)
    have key : ∀ i, ∃ x : Int × Int, (In64 x.1 ∧ In64 x.2) ∧ (i < n → w.cell? ⟨b, off + i * 2, none⟩ = some (.int .i64 x.1) ∧ w.cell? ⟨b, off + i * 2 + 1, none⟩ = some (.int .i64 x.2)) := by
      intro i
      by_cases hi : i < n
      · obtain ⟨u0, y0, m0, c0, t0⟩ := hc i hi 0 _ rfl
        obtain ⟨u1, y1, m1, c1, t1⟩ := hc i hi 1 _ rfl
        obtain ⟨x0, e0, _, f0⟩ := DataW.trod_int Try.underlying3 t0
        obtain ⟨x1, e1, _, f1⟩ := DataW.trod_int Try.underlying3 t1
        simp at e0 e1
        subst e0 e1
        exact ⟨(x0, x1), ⟨in64_of_wf f0, in64_of_wf f1⟩, fun _ => ⟨c0, c1⟩⟩
      · exact ⟨(0, 0), by unfold In64; simp, fun h => absurd h hi⟩
    refine ⟨(List.range n).map fun i => Classical.choose (key i), ⟨some ⟨b, off, none⟩, c, by simp, by simp; omega, fun _ => ⟨b, off, rfl, hlt, fun i hi => ?_⟩⟩, fun p hp => ?_⟩
    · have hi' : i < n := by simpa using hi
      simp only [List.getElem_map, List.getElem_range]
      exact (Classical.choose_spec (key i)).2 hi'
    · obtain ⟨i, _, rfl⟩ := List.mem_map.1 hp
      exact (Classical.choose_spec (key i)).1
set_option maxRecDepth 100000 in
theorem known_of {H : Type} {enc : TypeId × Value → H} {w : World} {base : Nat} {spare : Nat → Bool} {held : Bool} {v : Value} {d : DataW H} {p : List MemPlace} {r : Reach} {b0 : Nat}
    (hv : Value.okWide Try.prog w r b0 26 v) (h : DataW.Trod enc Try.prog w base spare held 26 v d p) : ∃ l, Pairs w w.heap.size v l ∧ PIn l := by
  obtain ⟨a0, n0, c0, rfl⟩ := okWide_slice Try.underlying26 hv
  obtain ⟨fuel, hf⟩ := h
  exact pairs_in (v := .slice a0 n0 c0) hf

end VIn
end Go.Proofs.Ytfmjcinhjbihoab
