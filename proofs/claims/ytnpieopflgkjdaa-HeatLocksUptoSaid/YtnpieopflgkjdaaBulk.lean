import Derived.Test.YtnpieopflgkjdaaTxs
namespace Go.Bas
open Go.ChangeShapes Go.WideShapes Go.Deep Go.RowKit

/-- a slice of structs of one-cell fields that came in, also as a field of something: at each place and field a cell, and its reading -/
theorem open_rows_bulk {H : Type} {enc : TypeId × Value → H} {P : Program} {w : World} {base : Nat} {spare : Nat → Bool} {held : Bool} {t e : TypeId} {fs : Array Field} {v : Value} {x : DataW H × List MemPlace} {fuel : Nat}
    (ht : P.underlying t = some (.slice e)) (he : P.underlying e = some (.struct fs)) (hone : oneCellFields P fs = true) (hC : P.cellsOf e = fs.size) (hpos : 0 < fs.size)
    (hf : DataW.trod enc P w base spare held fuel t [v] = some x) :
    ∃ (A : Option Addr) (n c : Nat) (D : Nat → DataW H) (sp : List (DataW H)), v = .slice A n c ∧ n ≤ c ∧ c ≤ maxLen ∧ (0 < n → x.1 = .slice ((List.range n).map D) sp) ∧
      (0 < n → ∃ b off, A = some ⟨b, off, none⟩ ∧ b < w.heap.size ∧
        ∀ i, i < n → ∃ ys : List (DataW H), D i = .agg ys ∧ ∀ (j : Nat) (f : Field), fs[j]? = some f → ∃ u y m, w.cell? ⟨b, off + i * fs.size + j, none⟩ = some u ∧ DataW.trod enc P w base spare held m f.type [u] = some y ∧ ys[j]? = some y.1) := by
  rcases open_slice ht hf with ⟨hcs, _⟩ | ⟨ad, len, cap, m, k, D, Pl, hcs, _, hl, hm, hmm, hx, hi⟩
  · simp at hcs
    subst hcs
    exact ⟨none, 0, 0, fun _ => .nil, [], rfl, Nat.le_refl _, Nat.zero_le _, fun h => absurd h (by omega), fun h => absurd h (by omega)⟩
  · simp at hcs
    subst hcs
    refine ⟨_, _, _, D, _, rfl, hl, hm, fun _ => by rw [hx], fun hn => ?_⟩
    have hmn : len ≤ m := by rw [hmm]; split <;> omega
    have key : ∀ i, i < len → ∃ ys : List (DataW H), D i = .agg ys ∧ ∀ (j : Nat) (f : Field), fs[j]? = some f → ∃ u y q, w.cell? (ad.add (i * fs.size + j)) = some u ∧ DataW.trod enc P w base spare held q f.type [u] = some y ∧ ys[j]? = some y.1 := by
      intro i him
      obtain ⟨cs', hc, ht'⟩ := hi i (by omega)
      rw [hC] at hc
      obtain ⟨zs, n', hn', hy, hlen, hyl, hff⟩ := DataW.trod_struct he ht'
      obtain ⟨_, hcl, hat⟩ := World.cells?_some hc
      refine ⟨zs.map (·.1), (Prod.mk.inj hy).1, fun j f hj => ?_⟩
      obtain ⟨ho, hk⟩ := hone_of hone j f hj
      have hjl : j < fs.size := (Array.getElem?_eq_some_iff.1 hj).1
      have hcell := hat j hjl
      have h1 := hff j f hj
      rw [ho, hk] at h1
      have hjl' : j < cs'.length := by omega
      have h2 : (cs'.drop j).take 1 = [cs'[j]] := by
        rw [List.drop_eq_getElem_cons hjl']; rfl
      rw [h2] at h1
      have hys : zs[j]? = some (zs[j]'(by omega)) := List.getElem?_eq_getElem (by omega)
      refine ⟨_, _, n', ?_, h1.trans hys, by simp [hys]⟩
      rw [← Go.Deep.add_add, hcell]
      exact List.getElem?_eq_getElem hjl'
    obtain ⟨b, off, spot⟩ := ad
    obtain ⟨_, _, key0⟩ := key 0 hn
    obtain ⟨u0, _, _, h0, _⟩ := key0 0 _ (Array.getElem?_eq_getElem hpos)
    have hs : spot = none := by
      have h00 : w.cell? ⟨b, off, spot⟩ = some u0 := by simpa [Addr.add] using h0
      cases spot with
      | none => rfl
      | some x =>
        simp [World.cell?] at h00
        split at h00 <;> simp at h00
    subst hs
    refine ⟨b, off, rfl, ?_, ?_⟩
    · have := World.block_lt_of_cell? w _ h0
      simpa [Addr.add] using this
    · intro i hin
      obtain ⟨ys, hys, key⟩ := key i hin
      refine ⟨ys, hys, fun j f hj => ?_⟩
      obtain ⟨u, y, q, hc, hy⟩ := key j f hj
      refine ⟨u, y, q, ?_, hy⟩
      rw [← hc]
      unfold Addr.add
      split
      · rename_i h0; rw [Nat.add_assoc, h0]; rfl
      · simp [Nat.add_assoc]

end Go.Bas

namespace Go.Proofs.Ytnpieopflgkjdaa
open Go.RowKit Go.Bas Go.WideShapes
namespace Txs

theorem bulk_pos {H : Type} (d : DataW H) : 1 ≤ Rows.uptoBulk d := by
  cases d with
  | lit l => cases l <;> simp [Rows.uptoBulk]
  | _ => simp [Rows.uptoBulk]
theorem bulk_len {H : Type} : ∀ l : List (DataW H), l.length ≤ Rows.uptoBulkAll l
  | [] => Nat.zero_le _
  | d :: r => by
    have := bulk_pos d
    have := bulk_len r
    simp only [Rows.uptoBulkAll, List.length_cons]
    omega
theorem bulk_one {H : Type} {d : DataW H} : ∀ {l : List (DataW H)} {j : Nat}, l[j]? = some d → Rows.uptoBulk d ≤ Rows.uptoBulkAll l
  | [], _, h => by simp at h
  | e :: r, 0, h => by simp at h; subst h; simp only [Rows.uptoBulkAll]; omega
  | e :: r, j + 1, h => by
    have := bulk_one (l := r) (j := j) (by simpa using h)
    simp only [Rows.uptoBulkAll]; omega
theorem bulk_two {H : Type} {d e : DataW H} : ∀ {l : List (DataW H)} {i j : Nat}, l[i]? = some d → l[j]? = some e → i < j → Rows.uptoBulk d + Rows.uptoBulk e ≤ Rows.uptoBulkAll l
  | [], _, _, h, _, _ => by simp at h
  | f :: r, 0, 0, _, _, h => absurd h (by omega)
  | f :: r, i + 1, 0, _, _, h => absurd h (by omega)
  | f :: r, 0, j + 1, h, g, _ => by
    have := bulk_one (l := r) (j := j) (by simpa using g)
    simp at h; subst h; simp only [Rows.uptoBulkAll]; omega
  | f :: r, i + 1, j + 1, h, g, hij => by
    have := bulk_two (l := r) (i := i) (j := j) (by simpa using h) (by simpa using g) (by omega)
    simp only [Rows.uptoBulkAll]; omega
theorem bulk_append {H : Type} : ∀ (a b : List (DataW H)), Rows.uptoBulkAll (a ++ b) = Rows.uptoBulkAll a + Rows.uptoBulkAll b
  | [], b => by simp [Rows.uptoBulkAll]
  | d :: r, b => by
    have := bulk_append r b
    simp only [Rows.uptoBulkAll, List.cons_append]; omega

/-- how many pairs tries have -/
def total : List Tx → Nat
  | [] => 0
  | t :: r => t.reads.length + t.writes.length + total r
theorem total_append : ∀ (a b : List Tx), total (a ++ b) = total a + total b
  | [], b => by simp [total]
  | t :: r, b => by
    have := total_append r b
    simp only [total, List.cons_append]; omega
theorem total_bulk {H : Type} (n : Nat) (c : Nat → Tx) (D : Nat → DataW H) (h : ∀ i, i < n → (c i).reads.length + (c i).writes.length ≤ Rows.uptoBulk (D i)) : total ((List.range n).map c) ≤ Rows.uptoBulkAll ((List.range n).map D) := by
  induction n with
  | zero => simp [total]
  | succ n ih =>
    have h1 := ih (fun i hi => h i (by omega))
    have h2 := h n (by omega)
    rw [List.range_succ, List.map_append, List.map_append, total_append, bulk_append]
    simp only [List.map_cons, List.map_nil, total, Rows.uptoBulkAll]
    omega

theorem pairs_bulk {H : Type} {enc : TypeId × Value → H} {w : World} {base : Nat} {spare : Nat → Bool} {held : Bool} {v : Value} {x : DataW H × List MemPlace} {fuel : Nat}
    (h : DataW.trod enc Try.prog w base spare held fuel 89 [v] = some x) : ∃ l, Pairs w w.heap.size v l ∧ l.length ≤ Rows.uptoBulk x.1 := by
  obtain ⟨A, n, c, D, sp, rfl, hnc, hcm, hD, hb⟩ := open_rows_bulk Try.underlying89 Try.underlying93 (by kernel_rfl) (by kernel_rfl) (by decide) h
  by_cases hn : n = 0
  · subst hn
    exact ⟨[], ⟨A, c, rfl, Nat.zero_le _, fun h => absurd h (by simp)⟩, Nat.zero_le _⟩
  · obtain ⟨b, off, rfl, hlt, hc⟩ := hb (by omega)
    have key : ∀ i, ∃ x : Int × Int, i < n → w.cell? ⟨b, off + i * 2, none⟩ = some (.int .i64 x.1) ∧ w.cell? ⟨b, off + i * 2 + 1, none⟩ = some (.int .i64 x.2) := by
      intro i
      by_cases hi : i < n
      · obtain ⟨ys, _, hc⟩ := hc i hi
        obtain ⟨u0, y0, m0, c0, t0, _⟩ := hc 0 _ rfl
        obtain ⟨u1, y1, m1, c1, t1, _⟩ := hc 1 _ rfl
        obtain ⟨x0, e0, _⟩ := DataW.trod_int Try.underlying3 t0
        obtain ⟨x1, e1, _⟩ := DataW.trod_int Try.underlying3 t1
        simp at e0 e1
        subst e0 e1
        exact ⟨(x0, x1), fun _ => ⟨c0, c1⟩⟩
      · exact ⟨(0, 0), fun h => absurd h hi⟩
    refine ⟨(List.range n).map fun i => Classical.choose (key i), ⟨some ⟨b, off, none⟩, c, by simp, by simp; omega, fun _ => ⟨b, off, rfl, hlt, fun i hi => ?_⟩⟩, ?_⟩
    · have hi' : i < n := by simpa using hi
      simp only [List.getElem_map, List.getElem_range]
      exact Classical.choose_spec (key i) hi'
    · rw [hD (by omega)]
      simp only [Rows.uptoBulk, List.length_map, List.length_range]
      have := bulk_len ((List.range n).map D)
      simp at this
      omega

set_option maxRecDepth 100000 in
theorem many_bulk {H : Type} {enc : TypeId × Value → H} {w : World} {base : Nat} {spare : Nat → Bool} {held : Bool} {v : Value} {d : DataW H} {p : List MemPlace} {r : Reach} {b0 : Nat}
    (hv : Value.okWide Try.prog w r b0 37 v) (h : DataW.Trod enc Try.prog w base spare held 37 v d p) : ∃ l, Many w w.heap.size v l ∧ total l ≤ Rows.uptoBulk d := by
  obtain ⟨a0, n0, c0, rfl⟩ := okWide_slice Try.underlying37 hv
  obtain ⟨fuel, hf⟩ := h
  obtain ⟨A, n, c, D, sp, he, hnc, hcm, hD, hb⟩ := open_rows_bulk Try.underlying37 Try.underlying91 (by kernel_rfl) (by kernel_rfl) (by decide) (v := .slice a0 n0 c0) hf
  rw [he]
  by_cases hn : n = 0
  · subst hn
    exact ⟨[], ⟨A, c, rfl, Nat.zero_le _, fun h => absurd h (by simp)⟩, Nat.zero_le _⟩
  · obtain ⟨b, off, rfl, hlt, hc⟩ := hb (by omega)
    have key : ∀ i, ∃ x : Tx, i < n → ∃ r q, w.rangeAt b (off + i * 8) (row x r q) ∧ Pairs w w.heap.size r x.reads ∧ Pairs w w.heap.size q x.writes ∧ x.reads.length + x.writes.length ≤ Rows.uptoBulk (D i) := by
      intro i
      by_cases hi : i < n
      · obtain ⟨ys, hDi, hc⟩ := hc i hi
        obtain ⟨u0, y0, m0, c0, t0, q0⟩ := hc 0 _ rfl
        obtain ⟨u1, y1, m1, c1, t1, q1⟩ := hc 1 _ rfl
        obtain ⟨u2, y2, m2, c2, t2, q2⟩ := hc 2 _ rfl
        obtain ⟨u3, y3, m3, c3, t3, q3⟩ := hc 3 _ rfl
        obtain ⟨u4, y4, m4, c4, t4, q4⟩ := hc 4 _ rfl
        obtain ⟨u5, y5, m5, c5, t5, q5⟩ := hc 5 _ rfl
        obtain ⟨u6, y6, m6, c6, t6, q6⟩ := hc 6 _ rfl
        obtain ⟨u7, y7, m7, c7, t7, q7⟩ := hc 7 _ rfl
        obtain ⟨x0, e0, _⟩ := DataW.trod_int Try.underlying3 t0
        obtain ⟨x1, e1, _⟩ := DataW.trod_int Try.underlying3 t1
        obtain ⟨x2, e2, _⟩ := DataW.trod_int Try.underlying3 t2
        obtain ⟨x3, e3, _⟩ := DataW.trod_int Try.underlying3 t3
        obtain ⟨x4, e4, _⟩ := DataW.trod_bool Try.underlying4 t4
        obtain ⟨x5, e5, _⟩ := DataW.trod_bool Try.underlying4 t5
        obtain ⟨l6, h6, z6⟩ := pairs_bulk t6
        obtain ⟨l7, h7, z7⟩ := pairs_bulk t7
        simp at e0 e1 e2 e3 e4 e5
        subst e0 e1 e2 e3 e4 e5
        refine ⟨⟨x0, x1, x2, x3, x4, x5, l6, l7⟩, fun _ => ⟨u6, u7, ?_, h6, h7, ?_⟩⟩
        rotate_left
        · rw [hDi]
          simp only [Rows.uptoBulk]
          have := bulk_two q6 q7 (by decide)
          omega
        rintro (_ | _ | _ | _ | _ | _ | _ | _ | j) v hv <;> simp [row] at hv <;> subst hv <;> assumption
      · exact ⟨⟨0, 0, 0, 0, false, false, [], []⟩, fun h => absurd h hi⟩
    refine ⟨(List.range n).map fun i => Classical.choose (key i), ⟨some ⟨b, off, none⟩, c, by simp, by simp; omega, fun _ => ⟨b, off, rfl, hlt, fun i hi => ?_⟩⟩, ?_⟩
    · have hi' : i < n := by simpa using hi
      simp only [List.getElem_map, List.getElem_range]
      obtain ⟨r, q, g1, g2, g3, _⟩ := Classical.choose_spec (key i) hi'
      exact ⟨r, q, g1, g2, g3⟩
    · have hx := hD (by omega)
      dsimp only at hx
      rw [hx]
      have := total_bulk n (fun i => Classical.choose (key i)) D (fun i hi => by obtain ⟨r, q, g1, g2, g3, g4⟩ := Classical.choose_spec (key i) hi; exact g4)
      simp only [Rows.uptoBulk]
      omega

end Txs
end Go.Proofs.Ytnpieopflgkjdaa
