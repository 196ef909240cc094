import Derived.Test.YtfmjcinhjbihoabView4
import Derived.Great.BuildSlice
import Derived.OneCell
namespace Go.Bas
open Go.RowKit
/-- a block of one cell -/
def One (w : World) (c : Nat) (v : Value) (t : TypeId) : Prop := w.heap[c]? = some (.cells #[v] t (0, 0))
section
variable {w w' : World} {c : Nat} {v : Value} {t : TypeId}
theorem One.cell (h : One w c v t) : w.cell? ⟨c, 0, none⟩ = some v := cell_of_one h
theorem One.free (h : One w c v t) : w.frozen? ⟨c, 0, none⟩ = false := free_of_one h
theorem One.lt (h : One w c v t) : c < w.heap.size := lt_of_block h
theorem One.drewN (h : One w c v t) (n : Nat) : One (w.drewN n) c v t := h
theorem One.chg {S : Nat → Prop} (h : One w c v t) (hc : Chg S w w') (hs : ¬ S c) : One w' c v t := (hc.block c h.lt hs).trans h
theorem One.kept (h : One w c v t) (hk : w'.heap[c]? = w.heap[c]?) : One w' c v t := hk.trans h
theorem One.alloc (h : One w c v t) (o : Obj) : One (w.alloc o) c v t := h.kept (Below.heap_alloc _ _ _ h.lt)
theorem One.set (h : One w c v t) (u : Value) : One (w.setCell ⟨c, 0, none⟩ u) c u t := one_setCell h
theorem One.other (h : One w c v t) {a : Addr} (hne : c ≠ a.block) (u : Value) : One (w.setCell a u) c v t := h.kept (Below.heap_setCell _ _ _ _ hne)
theorem One.new (w : World) (v : Value) (t : TypeId) : One (w.alloc (.cells #[v] t)) w.heap.size v t := heap_alloc_new w _
end
end Go.Bas
namespace Go.Proofs.Ytfmjcinhjbihoab
open Go.RowKit Go.Bas SorPlain Go.Sor IMap_ VIn VPlain MapI
namespace View

theorem infoPair : (Try.prog.info? 52).map (fun i => (i.zero, i.size, i.bytes)) = some (some (.agg #[.int .i64 0, .int .i64 0]), 2, 16) := by kernel_rfl

/-- a pair's slice is built -/
theorem run_pair1 (w : World) (x0 x1 : Value) : (Instr.buildSlice 26 1 #[(0, .agg #[x0, x1])]).run Try.prog w = .ok (.slice (some ⟨w.heap.size, 0, none⟩) 1 1) (w.alloc (.cells #[x0, x1] 52)) := by
  have hinfo : (Try.prog.info? 52).map (fun i => (i.zero, i.size)) = some (some (.agg #[.int .i64 0, .int .i64 0]), 2) := by kernel_rfl
  obtain ⟨i, hi, hzz⟩ := Option.map_eq_some_iff.1 hinfo
  simp only [Prod.mk.injEq] at hzz
  obtain ⟨hz, hs⟩ := hzz
  refine run_buildSlice w _ 52 1 _ #[x0, x1] i _ Try.underlying26 hi hz (by rw [hs]; decide) (by rw [hs]; decide) ?_
  rw [hs]
  kernel_rfl
theorem wpList_pair1 {ops : Array Oper} {rest : List Oper} {o : Oper} {a : Act} {w : World} {Q : Exit → Act → World → Prop} (hg : o.guard = none) (p0 : Operand) (ho : o.op = .buildSlice 26 1 #[(0, p0)])
    (x0 x1 : Value) (h0 : a.eval p0 = .agg #[x0, x1])
    (h : wpList Try.prog ops Q rest (a.put o.dst (.slice (some ⟨w.heap.size, 0, none⟩) 1 1)) (w.alloc (.cells #[x0, x1] 52))) : wpList Try.prog ops Q (o :: rest) a w :=
  wpList_plain hg fun K hK => by
    have e : ((#[(0, p0)] : Array (Nat × Operand)).map fun (i, x) => (i, a.eval x)) = #[(0, .agg #[x0, x1])] := by simp [h0]
    unfold Oper.wp execOp
    simp only [ho, Sem.run_bind, e, run_pair1, Result.andThen_ok]
    exact hK _ _ h

theorem flat_snoc (ks : M) (k x : Int) : flat (vals (ks ++ [(k, x)])) = flat (vals ks) ++ [.int .i64 k, .int .i64 x] := by
  simp [vals, flat]

/-- the list that is gathered, in the captured variable c -/
def Gath (w0 w : World) (c : Nat) (ks : M) : Prop :=
  ∃ A cap, One w c (.slice A ks.length cap) 26 ∧ w.ownsRow (c + 1) 52 2 (.slice A ks.length cap) ks.length (flat (vals ks)) ∧ Below c w0 w ∧ c < w.heap.size

set_option maxHeartbeats 400000 in
theorem callback {w0 w : World} {c : Nat} {ks : M} (h : Gath w0 w c ks) (hn : ks.length ≤ 1000) (k x : Int) :
    Calls Try.prog 36 #[.int .i64 k, .int .i64 x, .pointer (some ⟨c, 0, none⟩)] w fun e w' => e = .returned (.bool true) ∧ Gath w0 w' c (ks ++ [(k, x)]) := by
  obtain ⟨i0, hi0, hz0, hz1, hz2⟩ := info_parts infoPair
  obtain ⟨A, cap, ho, hr, hb, hlt⟩ := h
  have g := ho.cell
  have HO := Lib.hid ho; have HR := Lib.hid hr; have HB := Lib.hid hb
  obtain ⟨n, hnn⟩ : ∃ n, ks.length = n := ⟨_, rfl⟩
  have HN := Lib.hid hnn
  rw [hnn] at g hn HR HO
  have hsz : c + 1 ≤ w.heap.size := hlt
  clear hr hb ho hnn hlt
  go_enter Try.func36, Try.ntmps36
  go_wp2_with (first | (refine wpList_pair1 rfl _ rfl _ _ rfl ?_) | (at_builtin; refine wpList_append_any rfl _ _ 26 rfl (c + 1) 52 i0 (.agg #[.int .i64 0, .int .i64 0]) 2 16 Try.underlying26 hi0 hz0 hz1 hz2 rfl (by decide) (.slice A n cap) n (flat (vals ks)) rfl (HR.out.alloc _) (some ⟨w.heap.size, 0, none⟩) 1 1 [.int .i64 k, .int .i64 x] rfl rfl ?c1 ?c2 ?c3 ?c4 ?c5 ?c6))
  case c1 => exact fun _ => ⟨_, rfl, new_cells _ _ _⟩
  case c2 => simp [Value.oneCell']
  case c3 => unfold maxLen; omega
  case c4 => omega
  case c5 => simp; omega
  case c6 =>
  intro v1 w1 hown1 hg1 hb1
  have h1 : One w1 c (.slice A n cap) 26 := by
    refine HO.out.kept ?_
    rw [hg1.block c (by simp; omega) (fun e => by have := (HR.out.lt c e.symm).1; omega)]
    exact Below.heap_alloc _ _ _ (by omega)
  obtain ⟨A1, c1, hv1⟩ := own_slice hown1
  rw [hv1] at hown1
  have fin : Hid (Gath w0 (w1.setCell ⟨c, 0, none⟩ (.slice A1 (n + 1) c1)) c (ks ++ [(k, x)])) := by
    refine ⟨A1, c1, ?_, ?_, ?_, ?_⟩
    · rw [show (ks ++ [(k, x)]).length = n + 1 by simp [HN.out]]; exact h1.set _
    · rw [show (ks ++ [(k, x)]).length = n + 1 by simp [HN.out], flat_snoc]
      exact ownsRow_setCell_other hown1 (fun e => by have h5 : c + 1 ≤ c := (hown1.lt _ e).1; omega) _
    · refine Below.setCell (p := ⟨c, 0, none⟩) ?_ (Nat.le_refl c) _
      exact (HB.out.alloc (by omega) _).grown hg1 (by simp; omega) (fun k hk => by have := (HR.out.lt k hk).1; omega)
    · have := hg1.size; simp [World.setCell] at this ⊢; omega
  have g1 := h1.cell; have f1 := h1.free
  rw [hv1]
  clear hown1 hg1 hb1 hv1 h1
  go_wp2
  go_ret
  exact ⟨rfl, fin.out⟩

end View
end Go.Proofs.Ytfmjcinhjbihoab
