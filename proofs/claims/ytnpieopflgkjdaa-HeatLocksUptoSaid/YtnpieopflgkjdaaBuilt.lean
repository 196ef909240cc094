import Derived.Test.YtnpieopflgkjdaaTxs
import Derived.Test.YtnpieopflgkjdaaBase3
import Derived.Great.BuildSlice
namespace Go.Proofs.Ytnpieopflgkjdaa
open Go.RowKit Go.Bas
namespace Built

theorem run_pair1 (w : World) (x0 x1 : Value) : (Instr.buildSlice 89 1 #[(0, .agg #[x0, x1])]).run Try.prog w = .ok (.slice (some ⟨w.heap.size, 0, none⟩) 1 1) (w.alloc (.cells #[x0, x1] 93)) := by
  have hinfo : (Try.prog.info? 93).map (fun i => (i.zero, i.size)) = some (some (.agg #[.int .i64 0, .int .i64 0]), 2) := by kernel_rfl
  obtain ⟨i, hi, hzz⟩ := Option.map_eq_some_iff.1 hinfo
  simp only [Prod.mk.injEq] at hzz
  obtain ⟨hz, hs⟩ := hzz
  refine run_buildSlice w _ 93 1 _ #[x0, x1] i _ Try.underlying89 hi hz (by rw [hs]; decide) (by rw [hs]; decide) ?_
  rw [hs]
  kernel_rfl
theorem wpList_pair1 {ops : Array Oper} {rest : List Oper} {o : Oper} {a : Act} {w : World} {Q : Exit → Act → World → Prop} (hg : o.guard = none) (p0 : Operand) (ho : o.op = .buildSlice 89 1 #[(0, p0)])
    (x0 x1 : Value) (h0 : a.eval p0 = .agg #[x0, x1])
    (h : wpList Try.prog ops Q rest (a.put o.dst (.slice (some ⟨w.heap.size, 0, none⟩) 1 1)) (w.alloc (.cells #[x0, x1] 93))) : wpList Try.prog ops Q (o :: rest) a w :=
  wpList_plain hg fun K hK => by
    have e : ((#[(0, p0)] : Array (Nat × Operand)).map fun (i, x) => (i, a.eval x)) = #[(0, .agg #[x0, x1])] := by simp [h0]
    unfold Oper.wp execOp
    simp only [ho, Sem.run_bind, e, run_pair1, Result.andThen_ok]
    exact hK _ _ h

theorem run_tx1 (w : World) (x0 x1 x2 x3 x4 x5 x6 x7 : Value) : (Instr.buildSlice 37 1 #[(0, .agg #[x0, x1, x2, x3, x4, x5, x6, x7])]).run Try.prog w = .ok (.slice (some ⟨w.heap.size, 0, none⟩) 1 1) (w.alloc (.cells #[x0, x1, x2, x3, x4, x5, x6, x7] 91)) := by
  have hinfo : (Try.prog.info? 91).map (fun i => (i.zero, i.size)) = some (some (.agg #[.int .i64 0, .int .i64 0, .int .i64 0, .int .i64 0, .bool false, .bool false, .slice none 0 0, .slice none 0 0]), 8) := by kernel_rfl
  obtain ⟨i, hi, hzz⟩ := Option.map_eq_some_iff.1 hinfo
  simp only [Prod.mk.injEq] at hzz
  obtain ⟨hz, hs⟩ := hzz
  refine run_buildSlice w _ 91 1 _ #[x0, x1, x2, x3, x4, x5, x6, x7] i _ Try.underlying37 hi hz (by rw [hs]; decide) (by rw [hs]; decide) ?_
  rw [hs]
  kernel_rfl
theorem wpList_tx1 {ops : Array Oper} {rest : List Oper} {o : Oper} {a : Act} {w : World} {Q : Exit → Act → World → Prop} (hg : o.guard = none) (p0 : Operand) (ho : o.op = .buildSlice 37 1 #[(0, p0)])
    (x0 x1 x2 x3 x4 x5 x6 x7 : Value) (h0 : a.eval p0 = .agg #[x0, x1, x2, x3, x4, x5, x6, x7])
    (h : wpList Try.prog ops Q rest (a.put o.dst (.slice (some ⟨w.heap.size, 0, none⟩) 1 1)) (w.alloc (.cells #[x0, x1, x2, x3, x4, x5, x6, x7] 91))) : wpList Try.prog ops Q (o :: rest) a w :=
  wpList_plain hg fun K hK => by
    have e : ((#[(0, p0)] : Array (Nat × Operand)).map fun (i, x) => (i, a.eval x)) = #[(0, .agg #[x0, x1, x2, x3, x4, x5, x6, x7])] := by simp [h0]
    unfold Oper.wp execOp
    simp only [ho, Sem.run_bind, e, run_tx1, Result.andThen_ok]
    exact hK _ _ h

theorem run_tx2 (w : World) (x0 x1 x2 x3 x4 x5 x6 x7 y0 y1 y2 y3 y4 y5 y6 y7 : Value) : (Instr.buildSlice 37 2 #[(0, .agg #[x0, x1, x2, x3, x4, x5, x6, x7]), (1, .agg #[y0, y1, y2, y3, y4, y5, y6, y7])]).run Try.prog w = .ok (.slice (some ⟨w.heap.size, 0, none⟩) 2 2) (w.alloc (.cells #[x0, x1, x2, x3, x4, x5, x6, x7, y0, y1, y2, y3, y4, y5, y6, y7] 91)) := by
  have hinfo : (Try.prog.info? 91).map (fun i => (i.zero, i.size)) = some (some (.agg #[.int .i64 0, .int .i64 0, .int .i64 0, .int .i64 0, .bool false, .bool false, .slice none 0 0, .slice none 0 0]), 8) := by kernel_rfl
  obtain ⟨i, hi, hzz⟩ := Option.map_eq_some_iff.1 hinfo
  simp only [Prod.mk.injEq] at hzz
  obtain ⟨hz, hs⟩ := hzz
  refine run_buildSlice w _ 91 2 _ #[x0, x1, x2, x3, x4, x5, x6, x7, y0, y1, y2, y3, y4, y5, y6, y7] i _ Try.underlying37 hi hz (by rw [hs]; decide) (by rw [hs]; decide) ?_
  rw [hs]
  kernel_rfl
theorem wpList_tx2 {ops : Array Oper} {rest : List Oper} {o : Oper} {a : Act} {w : World} {Q : Exit → Act → World → Prop} (hg : o.guard = none) (p0 p1 : Operand) (ho : o.op = .buildSlice 37 2 #[(0, p0), (1, p1)])
    (x0 x1 x2 x3 x4 x5 x6 x7 y0 y1 y2 y3 y4 y5 y6 y7 : Value) (h0 : a.eval p0 = .agg #[x0, x1, x2, x3, x4, x5, x6, x7]) (h1 : a.eval p1 = .agg #[y0, y1, y2, y3, y4, y5, y6, y7])
    (h : wpList Try.prog ops Q rest (a.put o.dst (.slice (some ⟨w.heap.size, 0, none⟩) 2 2)) (w.alloc (.cells #[x0, x1, x2, x3, x4, x5, x6, x7, y0, y1, y2, y3, y4, y5, y6, y7] 91))) : wpList Try.prog ops Q (o :: rest) a w :=
  wpList_plain hg fun K hK => by
    have e : ((#[(0, p0), (1, p1)] : Array (Nat × Operand)).map fun (i, x) => (i, a.eval x)) = #[(0, .agg #[x0, x1, x2, x3, x4, x5, x6, x7]), (1, .agg #[y0, y1, y2, y3, y4, y5, y6, y7])] := by simp [h0, h1]
    unfold Oper.wp execOp
    simp only [ho, Sem.run_bind, e, run_tx2, Result.andThen_ok]
    exact hK _ _ h

theorem wpList_tx1_if {ops : Array Oper} {rest : List Oper} {o : Oper} {a : Act} {w : World} {Q : Exit → Act → World → Prop} (hw : Region.wanted o (yielded ops a.tmps) = true) (p0 : Operand) (ho : o.op = .buildSlice 37 1 #[(0, p0)])
    (x0 x1 x2 x3 x4 x5 x6 x7 : Value) (h0 : a.eval p0 = .agg #[x0, x1, x2, x3, x4, x5, x6, x7])
    (h : wpList Try.prog ops Q rest (a.put o.dst (.slice (some ⟨w.heap.size, 0, none⟩) 1 1)) (w.alloc (.cells #[x0, x1, x2, x3, x4, x5, x6, x7] 91))) : wpList Try.prog ops Q (o :: rest) a w := by
  refine BigFrame.wpList_want hw fun K hK => ?_
  have e : ((#[(0, p0)] : Array (Nat × Operand)).map fun (i, x) => (i, a.eval x)) = #[(0, .agg #[x0, x1, x2, x3, x4, x5, x6, x7])] := by simp [h0]
  unfold Oper.wp execOp
  simp only [ho, Sem.run_bind, e, run_tx1, Result.andThen_ok]
  exact hK _ _ h

end Built
end Go.Proofs.Ytnpieopflgkjdaa
