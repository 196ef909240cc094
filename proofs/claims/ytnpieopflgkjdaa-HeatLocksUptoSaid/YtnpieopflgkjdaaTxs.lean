import Derived.Test.YtnpieopflgkjdaaRows
import Derived.Test.YtnpieopflgkjdaaBase3
import Derived.Deep.Slices
import Derived.Deep.Fields
import Derived.ChangeSame
import Derived.ProofKit
namespace Go.Bas
open Go.ChangeShapes Go.WideShapes Go.Deep Go.RowKit

/-- a slice of structs of one-cell fields that came in, also as a field of something: at each place and field a cell, and its reading -/
theorem open_rows {H : Type} {enc : TypeId × Value → H} {P : Program} {w : World} {base : Nat} {spare : Nat → Bool} {held : Bool} {t e : TypeId} {fs : Array Field} {v : Value} {x : DataW H × List MemPlace} {fuel : Nat}
    (ht : P.underlying t = some (.slice e)) (he : P.underlying e = some (.struct fs)) (hone : oneCellFields P fs = true) (hC : P.cellsOf e = fs.size) (hpos : 0 < fs.size)
    (hf : DataW.trod enc P w base spare held fuel t [v] = some x) :
    ∃ (A : Option Addr) (n c : Nat), v = .slice A n c ∧ n ≤ c ∧ c ≤ maxLen ∧
      (0 < n → ∃ b off, A = some ⟨b, off, none⟩ ∧ b < w.heap.size ∧
        ∀ i, i < n → ∀ (j : Nat) (f : Field), fs[j]? = some f → ∃ u y m, w.cell? ⟨b, off + i * fs.size + j, none⟩ = some u ∧ DataW.trod enc P w base spare held m f.type [u] = some y) := by
  rcases open_slice ht hf with ⟨hcs, _⟩ | ⟨ad, len, cap, m, k, D, Pl, hcs, _, hl, hm, hmm, _, hi⟩
  · simp at hcs
    subst hcs
    exact ⟨none, 0, 0, rfl, Nat.le_refl _, Nat.zero_le _, fun h => absurd h (by omega)⟩
  · simp at hcs
    subst hcs
    refine ⟨_, _, _, rfl, hl, hm, fun hn => ?_⟩
    have hmn : len ≤ m := by rw [hmm]; split <;> omega
    have key : ∀ i, i < len → ∀ (j : Nat) (f : Field), fs[j]? = some f → ∃ u y q, w.cell? (ad.add (i * fs.size + j)) = some u ∧ DataW.trod enc P w base spare held q f.type [u] = some y := by
      intro i him j f hj
      obtain ⟨cs', hc, ht'⟩ := hi i (by omega)
      rw [hC] at hc
      obtain ⟨ys, n', hn', hy, hlen, hyl, hff⟩ := DataW.trod_struct he ht'
      obtain ⟨_, hcl, hat⟩ := World.cells?_some hc
      obtain ⟨ho, hk⟩ := hone_of hone j f hj
      have hjl : j < fs.size := (Array.getElem?_eq_some_iff.1 hj).1
      have hcell := hat j hjl
      have h1 := hff j f hj
      rw [ho, hk] at h1
      have hjl' : j < cs'.length := by omega
      have h2 : (cs'.drop j).take 1 = [cs'[j]] := by
        rw [List.drop_eq_getElem_cons hjl']; rfl
      rw [h2] at h1
      have hys : ys[j]? = some (ys[j]'(by omega)) := List.getElem?_eq_getElem (by omega)
      refine ⟨_, _, n', ?_, h1.trans hys⟩
      rw [← Go.Deep.add_add, hcell]
      exact List.getElem?_eq_getElem hjl'
    obtain ⟨b, off, spot⟩ := ad
    obtain ⟨u0, _, _, h0, _⟩ := key 0 hn 0 _ (Array.getElem?_eq_getElem hpos)
    have hs : spot = none := by
      have h00 : w.cell? ⟨b, off, spot⟩ = some u0 := by simpa [Addr.add] using h0
      cases spot with
      | none => rfl
      | some x =>
        simp [World.cell?] at h00
        split at h00 <;> simp at h00
    subst hs
    refine ⟨b, off, rfl, ?_, ?_⟩
    · have := World.block_lt_of_cell? w _ h0
      simpa [Addr.add] using this
    · intro i hin j f hj
      obtain ⟨u, y, q, hc, hy⟩ := key i hin j f hj
      refine ⟨u, y, q, ?_, hy⟩
      rw [← hc]
      unfold Addr.add
      split
      · rename_i h0; rw [Nat.add_assoc, h0]; rfl
      · simp [Nat.add_assoc]

end Go.Bas

namespace Go.Proofs.Ytnpieopflgkjdaa
open Go.RowKit Go.Bas Go.WideShapes
namespace Txs

/-- one try -/
structure Tx where
  (worker how seen stamp : Int) (fall sure : Bool) (reads writes : List (Int × Int))

/-- pairs in memory, below block B -/
def Pairs (w : World) (B : Nat) (s : Value) (l : List (Int × Int)) : Prop :=
  ∃ (A : Option Addr) (c : Nat), s = .slice A l.length c ∧ l.length ≤ maxLen ∧
    (0 < l.length → ∃ b off, A = some ⟨b, off, none⟩ ∧ b < B ∧
      ∀ i (h : i < l.length), w.cell? ⟨b, off + i * 2, none⟩ = some (.int .i64 l[i].1) ∧ w.cell? ⟨b, off + i * 2 + 1, none⟩ = some (.int .i64 l[i].2))

def row (t : Tx) (r w : Value) : List Value := [.int .i64 t.worker, .int .i64 t.how, .int .i64 t.seen, .int .i64 t.stamp, .bool t.fall, .bool t.sure, r, w]

/-- tries in memory, below block B -/
def Many (w : World) (B : Nat) (s : Value) (l : List Tx) : Prop :=
  ∃ (A : Option Addr) (c : Nat), s = .slice A l.length c ∧ l.length ≤ maxLen ∧
    (0 < l.length → ∃ b off, A = some ⟨b, off, none⟩ ∧ b < B ∧
      ∀ i (h : i < l.length), ∃ r q, w.rangeAt b (off + i * 8) (row l[i] r q) ∧ Pairs w B r l[i].reads ∧ Pairs w B q l[i].writes)

theorem Pairs.below {w w' : World} {B : Nat} {s : Value} {l : List (Int × Int)} (h : Pairs w B s l) (hb : Below B w w') : Pairs w' B s l := by
  obtain ⟨A, c, rfl, hm, hc⟩ := h
  refine ⟨A, c, rfl, hm, fun hn => ?_⟩
  obtain ⟨b, off, rfl, hlt, hc⟩ := hc hn
  refine ⟨b, off, rfl, hlt, fun i hi => ?_⟩
  obtain ⟨h0, h1⟩ := hc i hi
  exact ⟨by rw [hb.cell (by exact hlt)]; exact h0, by rw [hb.cell (by exact hlt)]; exact h1⟩

theorem Many.below {w w' : World} {B : Nat} {s : Value} {l : List Tx} (h : Many w B s l) (hb : Below B w w') : Many w' B s l := by
  obtain ⟨A, c, rfl, hm, hc⟩ := h
  refine ⟨A, c, rfl, hm, fun hn => ?_⟩
  obtain ⟨b, off, rfl, hlt, hc⟩ := hc hn
  refine ⟨b, off, rfl, hlt, fun i hi => ?_⟩
  obtain ⟨r, q, h0, h1, h2⟩ := hc i hi
  exact ⟨r, q, fun j v hj => by rw [hb.cell (by exact hlt)]; exact h0 j v hj, h1.below hb, h2.below hb⟩

theorem pairs_of {H : Type} {enc : TypeId × Value → H} {w : World} {base : Nat} {spare : Nat → Bool} {held : Bool} {v : Value} {x : DataW H × List MemPlace} {fuel : Nat}
    (h : DataW.trod enc Try.prog w base spare held fuel 89 [v] = some x) : ∃ l, Pairs w w.heap.size v l := by
  obtain ⟨A, n, c, rfl, hnc, hcm, hb⟩ := open_rows Try.underlying89 Try.underlying93 (by kernel_rfl) (by kernel_rfl) (by decide) h
  by_cases hn : n = 0
  · subst hn
    exact ⟨[], A, c, rfl, Nat.zero_le _, fun h => absurd h (by simp)⟩
  · obtain ⟨b, off, rfl, hlt, hc⟩ := hb (by omega)
    have key : ∀ i, ∃ x : Int × Int, i < n → w.cell? ⟨b, off + i * 2, none⟩ = some (.int .i64 x.1) ∧ w.cell? ⟨b, off + i * 2 + 1, none⟩ = some (.int .i64 x.2) := by
      intro i
      by_cases hi : i < n
      · obtain ⟨u0, y0, m0, c0, t0⟩ := hc i hi 0 _ rfl
        obtain ⟨u1, y1, m1, c1, t1⟩ := hc i hi 1 _ rfl
        obtain ⟨x0, e0, _⟩ := DataW.trod_int Try.underlying3 t0
        obtain ⟨x1, e1, _⟩ := DataW.trod_int Try.underlying3 t1
        simp at e0 e1
        subst e0 e1
        exact ⟨(x0, x1), fun _ => ⟨c0, c1⟩⟩
      · exact ⟨(0, 0), fun h => absurd h hi⟩
    refine ⟨(List.range n).map fun i => Classical.choose (key i), some ⟨b, off, none⟩, c, by simp, by simp; omega, fun _ => ⟨b, off, rfl, hlt, fun i hi => ?_⟩⟩
    have hi' : i < n := by simpa using hi
    simp only [List.getElem_map, List.getElem_range]
    exact Classical.choose_spec (key i) hi'

set_option maxRecDepth 100000 in
theorem many_of {H : Type} {enc : TypeId × Value → H} {w : World} {base : Nat} {spare : Nat → Bool} {held : Bool} {v : Value} {d : DataW H} {p : List MemPlace} {r : Reach} {b0 : Nat}
    (hv : Value.okWide Try.prog w r b0 37 v) (h : DataW.Trod enc Try.prog w base spare held 37 v d p) : ∃ l, Many w w.heap.size v l := by
  obtain ⟨a0, n0, c0, rfl⟩ := okWide_slice Try.underlying37 hv
  obtain ⟨fuel, hf⟩ := h
  obtain ⟨A, n, c, he, hnc, hcm, hb⟩ := open_rows Try.underlying37 Try.underlying91 (by kernel_rfl) (by kernel_rfl) (by decide) (v := .slice a0 n0 c0) hf
  rw [he]
  by_cases hn : n = 0
  · subst hn
    exact ⟨[], A, c, rfl, Nat.zero_le _, fun h => absurd h (by simp)⟩
  · obtain ⟨b, off, rfl, hlt, hc⟩ := hb (by omega)
    have key : ∀ i, ∃ x : Tx, i < n → ∃ r q, w.rangeAt b (off + i * 8) (row x r q) ∧ Pairs w w.heap.size r x.reads ∧ Pairs w w.heap.size q x.writes := by
      intro i
      by_cases hi : i < n
      · obtain ⟨u0, y0, m0, c0, t0⟩ := hc i hi 0 _ rfl
        obtain ⟨u1, y1, m1, c1, t1⟩ := hc i hi 1 _ rfl
        obtain ⟨u2, y2, m2, c2, t2⟩ := hc i hi 2 _ rfl
        obtain ⟨u3, y3, m3, c3, t3⟩ := hc i hi 3 _ rfl
        obtain ⟨u4, y4, m4, c4, t4⟩ := hc i hi 4 _ rfl
        obtain ⟨u5, y5, m5, c5, t5⟩ := hc i hi 5 _ rfl
        obtain ⟨u6, y6, m6, c6, t6⟩ := hc i hi 6 _ rfl
        obtain ⟨u7, y7, m7, c7, t7⟩ := hc i hi 7 _ rfl
        obtain ⟨x0, e0, _⟩ := DataW.trod_int Try.underlying3 t0
        obtain ⟨x1, e1, _⟩ := DataW.trod_int Try.underlying3 t1
        obtain ⟨x2, e2, _⟩ := DataW.trod_int Try.underlying3 t2
        obtain ⟨x3, e3, _⟩ := DataW.trod_int Try.underlying3 t3
        obtain ⟨x4, e4, _⟩ := DataW.trod_bool Try.underlying4 t4
        obtain ⟨x5, e5, _⟩ := DataW.trod_bool Try.underlying4 t5
        obtain ⟨l6, h6⟩ := pairs_of t6
        obtain ⟨l7, h7⟩ := pairs_of t7
        simp at e0 e1 e2 e3 e4 e5
        subst e0 e1 e2 e3 e4 e5
        refine ⟨⟨x0, x1, x2, x3, x4, x5, l6, l7⟩, fun _ => ⟨u6, u7, ?_, h6, h7⟩⟩
        rintro (_ | _ | _ | _ | _ | _ | _ | _ | j) v hv <;> simp [row] at hv <;> subst hv <;> assumption
      · exact ⟨⟨0, 0, 0, 0, false, false, [], []⟩, fun h => absurd h hi⟩
    refine ⟨(List.range n).map fun i => Classical.choose (key i), some ⟨b, off, none⟩, c, by simp, by simp; omega, fun _ => ⟨b, off, rfl, hlt, fun i hi => ?_⟩⟩
    have hi' : i < n := by simpa using hi
    simp only [List.getElem_map, List.getElem_range]
    exact Classical.choose_spec (key i) hi'

end Txs
end Go.Proofs.Ytnpieopflgkjdaa
