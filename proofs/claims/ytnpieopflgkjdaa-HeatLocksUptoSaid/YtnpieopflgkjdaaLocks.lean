import Derived.Test.YtnpieopflgkjdaaMeet
import Derived.Test.YtnpieopflgkjdaaBase4
import Derived.Test.YtnpieopflgkjdaaBase2
import Derived.Test.YtnpieopflgkjdaaHeat2
import Derived.OneCell
namespace Go.Proofs.Ytnpieopflgkjdaa
open Go.RowKit Go.Bas
open Lay RefLay Of Txs Lock Meet
namespace Locks

/-- how often pairs meet lock i, on top of n -/
def hit (c : Cfg) (i : Nat) (n : Int) (ps : List (Int × Int)) : Int := ps.foldl (fun n p => if lockOf c p.1 = 3 + i then wrap64 (n + 1) else n) n
def rds (c : Cfg) (l : List Tx) (i : Nat) : Int := l.foldl (fun n t => hit c i n t.reads) 0
def wrs (c : Cfg) (l : List Tx) (i : Nat) : Int := l.foldl (fun n t => if t.sure then hit c i n t.writes else n) 0

/-- the counters in memory -/
def Cnt3 (w : World) (q m : Nat) (T R W : Nat → Int) : Prop :=
  ∃ L : Array Value, w.heap[q]? = some (.cells L 51 (0, 0)) ∧ L.size = m * 3 ∧ ∀ i, i < m → L[i * 3]? = some (.int .i64 (T i)) ∧ L[i * 3 + 1]? = some (.int .i64 (R i)) ∧ L[i * 3 + 2]? = some (.int .i64 (W i))
abbrev Cnts (w : World) (q m : Nat) (R W : Nat → Int) : Prop := Cnt3 w q m (fun i => 3 + (i : Int)) R W

theorem Cnt3.block {w w' : World} {q m : Nat} {T R W : Nat → Int} (h : Cnt3 w q m T R W) (e : w'.heap[q]? = w.heap[q]?) : Cnt3 w' q m T R W := by
  obtain ⟨L, h1, h2⟩ := h
  exact ⟨L, e.trans h1, h2⟩
theorem Cnt3.lt {w : World} {q m : Nat} {T R W : Nat → Int} (h : Cnt3 w q m T R W) : q < w.heap.size := by
  obtain ⟨L, h1, h2⟩ := h
  exact (Array.getElem?_eq_some_iff.1 h1).1
theorem Cnt3.free {w : World} {q m : Nat} {T R W : Nat → Int} (h : Cnt3 w q m T R W) (j : Nat) : w.frozen? ⟨q, j, none⟩ = false := by
  obtain ⟨L, h1, h2⟩ := h
  exact row_frozen h1 j
theorem Cnt3.at_ {w : World} {q m : Nat} {T R W : Nat → Int} (h : Cnt3 w q m T R W) {i : Nat} (hi : i < m) :
    w.cell? ⟨q, i * 3, none⟩ = some (.int .i64 (T i)) ∧ w.cell? ⟨q, i * 3 + 1, none⟩ = some (.int .i64 (R i)) ∧ w.cell? ⟨q, i * 3 + 2, none⟩ = some (.int .i64 (W i)) := by
  obtain ⟨L, h1, _, h2⟩ := h
  simp only [cell_of_row _ _ _ _ _ _ h1]
  exact h2 i hi
theorem Cnt3.mark {w : World} {q m : Nat} {T R W : Nat → Int} (h : Cnt3 w q m T R W) {i : Nat} (hi : i < m) (v : Int) :
    Cnt3 (w.setCell ⟨q, i * 3, none⟩ (.int .i64 v)) q m (fun j => if j = i then v else T j) R W := by
  obtain ⟨L, h1, h2, h3⟩ := h
  refine ⟨L.setIfInBounds (i * 3) (.int .i64 v), by rw [setCell_row h1]; exact setRow_same h1, by simpa using h2, fun k hk => ?_⟩
  obtain ⟨a, b, c⟩ := h3 k hk
  simp only [Array.getElem?_setIfInBounds]
  refine ⟨?_, by rw [if_neg (by omega)]; exact b, by rw [if_neg (by omega)]; exact c⟩
  by_cases e : k = i
  · subst e
    rw [if_pos rfl, if_pos (by omega), if_pos rfl]
  · rw [if_neg (by omega), if_neg e]; exact a
theorem Cnt3.read {w : World} {q m : Nat} {T R W : Nat → Int} (h : Cnt3 w q m T R W) {i : Nat} (hi : i < m) (v : Int) :
    Cnt3 (w.setCell ⟨q, i * 3 + 1, none⟩ (.int .i64 v)) q m T (fun j => if j = i then v else R j) W := by
  obtain ⟨L, h1, h2, h3⟩ := h
  refine ⟨L.setIfInBounds (i * 3 + 1) (.int .i64 v), by rw [setCell_row h1]; exact setRow_same h1, by simpa using h2, fun k hk => ?_⟩
  obtain ⟨a, b, c⟩ := h3 k hk
  simp only [Array.getElem?_setIfInBounds]
  refine ⟨by rw [if_neg (by omega)]; exact a, ?_, by rw [if_neg (by omega)]; exact c⟩
  by_cases e : k = i
  · subst e
    rw [if_pos rfl, if_pos (by omega), if_pos rfl]
  · rw [if_neg (by omega), if_neg e]; exact b
theorem Cnt3.write {w : World} {q m : Nat} {T R W : Nat → Int} (h : Cnt3 w q m T R W) {i : Nat} (hi : i < m) (v : Int) :
    Cnt3 (w.setCell ⟨q, i * 3 + 2, none⟩ (.int .i64 v)) q m T R (fun j => if j = i then v else W j) := by
  obtain ⟨L, h1, h2, h3⟩ := h
  refine ⟨L.setIfInBounds (i * 3 + 2) (.int .i64 v), by rw [setCell_row h1]; exact setRow_same h1, by simpa using h2, fun k hk => ?_⟩
  obtain ⟨a, b, c⟩ := h3 k hk
  simp only [Array.getElem?_setIfInBounds]
  refine ⟨by rw [if_neg (by omega)]; exact a, by rw [if_neg (by omega)]; exact b, ?_⟩
  by_cases e : k = i
  · subst e
    rw [if_pos rfl, if_pos (by omega), if_pos rfl]
  · rw [if_neg (by omega), if_neg e]; exact c
theorem Cnt3.cong {w : World} {q m : Nat} {T R W T' R' W' : Nat → Int} (h : Cnt3 w q m T R W) (e : ∀ i, i < m → T i = T' i ∧ R i = R' i ∧ W i = W' i) : Cnt3 w q m T' R' W' := by
  obtain ⟨L, h1, h2, h3⟩ := h
  refine ⟨L, h1, h2, fun i hi => ?_⟩
  obtain ⟨a, b, c⟩ := e i hi
  rw [← a, ← b, ← c]
  exact h3 i hi

/-- make([]Lock, m) -/
theorem make_locks (m : Nat) (hm : m ≤ 64) (w : World) :
    (Instr.makeSlice 46 (.int .i64 (m : Int)) (.int .i64 (m : Int))).run Try.prog w = .ok (.slice (some ⟨w.heap.size, 0, none⟩) m m) (w.alloc (.cells (madeCells #[.int .i64 0, .int .i64 0, .int .i64 0] (m * 3)) 51)) := by
  have hinfo : (Try.prog.info? 51).map (fun i => (i.zero, i.size, i.bytes)) = some (some (.agg #[.int .i64 0, .int .i64 0, .int .i64 0]), 3, 24) := by kernel_rfl
  obtain ⟨i, hi, hzz⟩ := Option.map_eq_some_iff.1 hinfo
  simp only [Prod.mk.injEq] at hzz
  obtain ⟨hz, hs, hb⟩ := hzz
  have hr := run_make (P := Try.prog) w 46 51 i _ Try.underlying46 hi hz .i64 .i64 m m (by omega) (Int.le_refl _) (by rw [hb]; omega) (by omega)
  simp only [Int.toNat_natCast, hs] at hr
  exact hr
theorem made_zero (m : Nat) (w : World) : Cnt3 (w.alloc (.cells (madeCells #[.int .i64 0, .int .i64 0, .int .i64 0] (m * 3)) 51)) w.heap.size m (fun _ => 0) (fun _ => 0) (fun _ => 0) := by
  refine ⟨_, new_row _ _ _, by simp [madeCells], fun i hi => ?_⟩
  have key : ∀ j, j < m * 3 → (madeCells #[Value.int .i64 0, .int .i64 0, .int .i64 0] (m * 3))[j]? = some (.int .i64 0) := by
    intro j hj
    have h3 : j % 3 = 0 ∨ j % 3 = 1 ∨ j % 3 = 2 := by omega
    simp [madeCells, hj]
    rcases h3 with h | h | h <;> simp [h]
  exact ⟨key _ (by omega), key _ (by omega), key _ (by omega)⟩

set_option maxRecDepth 100000 in
theorem inc_reads {w : World} {cv q m : Nat} {R W : Nat → Int} (hc : w.cell? ⟨cv, 0, none⟩ = some (.slice (some ⟨q, 0, none⟩) m m)) (h : Cnts w q m R W) {i : Nat} (hi : i < m) :
    Calls Try.prog 55 #[.int .i64 i, .pointer (some ⟨cv, 0, none⟩)] w fun e w' => e = .returned (.tuple #[]) ∧ w' = w.setCell ⟨q, i * 3 + 1, none⟩ (.int .i64 (wrap64 (R i + 1))) := by
  obtain ⟨_, h1, _⟩ := h.at_ hi
  have h3 := h.free (i * 3 + 1)
  go_enter Try.func55, Try.ntmps55
  go_wp2
  go_end0
  exact ⟨rfl, rfl⟩

set_option maxRecDepth 100000 in
theorem inc_writes {w : World} {cv q m : Nat} {R W : Nat → Int} (hc : w.cell? ⟨cv, 0, none⟩ = some (.slice (some ⟨q, 0, none⟩) m m)) (h : Cnts w q m R W) {i : Nat} (hi : i < m) :
    Calls Try.prog 56 #[.int .i64 i, .pointer (some ⟨cv, 0, none⟩)] w fun e w' => e = .returned (.tuple #[]) ∧ w' = w.setCell ⟨q, i * 3 + 2, none⟩ (.int .i64 (wrap64 (W i + 1))) := by
  obtain ⟨_, _, h1⟩ := h.at_ hi
  have h3 := h.free (i * 3 + 2)
  go_enter Try.func56, Try.ntmps56
  go_wp2
  go_end0
  exact ⟨rfl, rfl⟩

end Locks
end Go.Proofs.Ytnpieopflgkjdaa
