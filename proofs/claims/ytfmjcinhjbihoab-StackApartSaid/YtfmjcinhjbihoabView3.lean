import Derived.Test.YtfmjcinhjbihoabView2
namespace Go.Proofs.Ytfmjcinhjbihoab
open Go.RowKit Go.Bas SorPlain Go.Sor IMap_ VIn VPlain MapI
namespace View

theorem VWs.cell {A : Ask} {P : Nat → Prop} {bv bm : Nat} {st : Bool} {qs : List Int} {m : M} {w w' : World} (h : VWs A P bv bm st qs m w) {g : Nat} (hg : P g) (hgR : ¬ A.R g) (hc : Chg (fun k => k = g) w w') : VWs A P bv bm st qs m w' := by
  obtain ⟨S, v, h, hP⟩ := h
  exact ⟨S, v, h.kept hc (fun k e => by subst e; exact ⟨(hP k hg).2.1, (hP k hg).2.2.1, (hP k hg).2.2.2, hgR⟩), fun k hk => ⟨by have := (hP k hk).1; have := hc.size; omega, (hP k hk).2⟩⟩

def mode : Option Int → FrameMode
  | none => .returning
  | some a => .panicking [{ v := .iface 75 (.int .i64 a), recovered := false }]
def mode' : Option Int → FrameMode
  | none => .returning
  | some a => .panicking [{ v := .iface 75 (.int .i64 a), recovered := true }]

theorem defer_any {A : Ask} {P : Nat → Prop} {bv bm g1 g2 : Nat} {x : Int} {qs : List Int} {m : M} {w : World} (h : VWs A P bv bm true qs m w) (hg1 : P g1) (hg2 : P g2) (hgR : ¬ A.R g2)
    (r1 : w.heap[g1]? = some (.cells #[.pointer (some ⟨bv, 0, none⟩)] 30 (0, 0))) (r2 : w.heap[g2]? = some (.cells #[.int .i64 x] 3 (0, 0))) (p : Option Int) :
    CallsD Try.prog 33 #[.pointer (some ⟨g1, 0, none⟩), .pointer (some ⟨g2, 0, none⟩)] (mode p) w fun e u' w' =>
      e = .returned (.tuple #[]) ∧ u' = mode' p ∧ VWs A P bv bm false qs m w' ∧ w'.heap[g2]? = some (.cells #[.int .i64 (p.getD (-1))] 3 (0, 0)) ∧ Chg (fun k => ¬ P k ∨ k = g2) w w' := by
  have k1 : w.drew.cell? ⟨g1, 0, none⟩ = some (.pointer (some ⟨bv, 0, none⟩)) := by
    show w.cell? _ = _
    rw [cell_of_row _ _ _ _ _ _ r1]; rfl
  have hd : VWs A P bv bm true qs m w.drew := h.new ((Below.refl _ _).drew)
  have hov := over_any hd p
  refine callsD_of_wpS Try.func33 rfl fun c₀ cs hu => ?_
  refine wpS_region_orders (by kernel_rfl) [[0, 1, 2, 3], [1, 0, 2, 3]] (by kernel_rfl) ?_
  intro l hl
  have hl : l = [0, 1, 2, 3] ∨ l = [1, 0, 2, 3] := by simpa using hl
  have hlt : g2 < w.drew.heap.size := (Array.getElem?_eq_some_iff.1 r2).1
  have fin : ∀ w2, VWs A P bv bm false qs m w2 → Kept P w.drew w2 → VWs A P bv bm false qs m (w2.setCell ⟨g2, 0, none⟩ (.int .i64 (p.getD (-1)))) ∧
      (w2.setCell ⟨g2, 0, none⟩ (.int .i64 (p.getD (-1)))).heap[g2]? = some (.cells #[.int .i64 (p.getD (-1))] 3 (0, 0)) ∧ Chg (fun k => ¬ P k ∨ k = g2) w (w2.setCell ⟨g2, 0, none⟩ (.int .i64 (p.getD (-1)))) := by
    intro w2 hv2 hc2
    have r3 : w2.heap[g2]? = some (.cells #[.int .i64 x] 3 (0, 0)) := by rw [hc2.block _ hlt (by simpa using hg2)]; exact r2
    have hc := Chg.setCell (S := fun k => k = g2) w2 ⟨g2, 0, none⟩ (.int .i64 (p.getD (-1))) rfl
    refine ⟨hv2.cell hg2 hgR hc, ?_, ((Chg.drew _ w).trans (hc2.mono (fun k _ h => .inl h))).trans (hc.mono (fun k _ h => .inr h))⟩
    rw [setCell_row r3]
    exact setRow_same r3
  cases p with
  | none =>
    have hu : c₀.mode = .returning := hu
    rcases hl with rfl | rfl
    · simp [wpOpsS, go_sem, recoverD, hu, Try.ntmps33, Exit.thenS, k1]
      refine hov.mono ?_
      rintro e w2 ⟨rfl, hv2, hc2⟩
      obtain ⟨q1, q2, q3⟩ := fin w2 hv2 hc2
      have r3 : w2.heap[g2]? = some (.cells #[.int .i64 x] 3 (0, 0)) := by rw [hc2.block _ hlt (by simpa using hg2)]; exact r2
      have c3 : w2.cell? ⟨g2, 0, none⟩ = some (.int .i64 x) := by rw [cell_of_row _ _ _ _ _ _ r3]; rfl
      have f3 : w2.frozen? ⟨g2, 0, none⟩ = false := row_frozen r3 0
      simp [go_sem, c3, f3, bodyPostS, results, Try.results33, Exit.thenS]
      exact ⟨.returning, by cases c₀; simp_all, rfl, q1, q2, q3⟩
    · simp [wpOpsS, go_sem, recoverD, hu, Try.ntmps33, Exit.thenS, k1]
      refine hov.mono ?_
      rintro e w2 ⟨rfl, hv2, hc2⟩
      obtain ⟨q1, q2, q3⟩ := fin w2 hv2 hc2
      have r3 : w2.heap[g2]? = some (.cells #[.int .i64 x] 3 (0, 0)) := by rw [hc2.block _ hlt (by simpa using hg2)]; exact r2
      have c3 : w2.cell? ⟨g2, 0, none⟩ = some (.int .i64 x) := by rw [cell_of_row _ _ _ _ _ _ r3]; rfl
      have f3 : w2.frozen? ⟨g2, 0, none⟩ = false := row_frozen r3 0
      simp [go_sem, c3, f3, bodyPostS, results, Try.results33, Exit.thenS]
      exact ⟨.returning, by cases c₀; simp_all, rfl, q1, q2, q3⟩
  | some a =>
    have hu : c₀.mode = .panicking [{ v := .iface 75 (.int .i64 a), recovered := false }] := hu
    rcases hl with rfl | rfl
    · simp [wpOpsS, go_sem, recoverD, hu, Try.ntmps33, Exit.thenS, k1]
      refine hov.mono ?_
      rintro e w2 ⟨rfl, hv2, hc2⟩
      obtain ⟨q1, q2, q3⟩ := fin w2 hv2 hc2
      have r3 : w2.heap[g2]? = some (.cells #[.int .i64 x] 3 (0, 0)) := by rw [hc2.block _ hlt (by simpa using hg2)]; exact r2
      have c3 : w2.cell? ⟨g2, 0, none⟩ = some (.int .i64 x) := by rw [cell_of_row _ _ _ _ _ _ r3]; rfl
      have f3 : w2.frozen? ⟨g2, 0, none⟩ = false := row_frozen r3 0
      simp [go_sem, c3, f3, bodyPostS, results, Try.results33, Exit.thenS]
      exact ⟨rfl, q1, q2, q3⟩
    · simp [wpOpsS, go_sem, recoverD, hu, Try.ntmps33, Exit.thenS, k1]
      refine hov.mono ?_
      rintro e w2 ⟨rfl, hv2, hc2⟩
      obtain ⟨q1, q2, q3⟩ := fin w2 hv2 hc2
      have r3 : w2.heap[g2]? = some (.cells #[.int .i64 x] 3 (0, 0)) := by rw [hc2.block _ hlt (by simpa using hg2)]; exact r2
      have c3 : w2.cell? ⟨g2, 0, none⟩ = some (.int .i64 x) := by rw [cell_of_row _ _ _ _ _ _ r3]; rfl
      have f3 : w2.frozen? ⟨g2, 0, none⟩ = false := row_frozen r3 0
      simp [go_sem, c3, f3, bodyPostS, results, Try.results33, Exit.thenS]
      exact ⟨rfl, q1, q2, q3⟩

end View
end Go.Proofs.Ytfmjcinhjbihoab
