import Derived.Test.YtnpieopflgkjdaaRows
import Derived.Test.YtnpieopflgkjdaaBase3
namespace Go.Proofs.Ytnpieopflgkjdaa
open Go.RowKit Go.Bas
namespace Lay

/-- a configuration -/
structure Cfg where
  (workers cpus pages stripes tries wait clock priv cache bin batch : Int)
/-- the places of a layout's parts -/
structure At where
  (a0 a1 a2 a3 a4 a5 a6 a7 a8 a9 a10 a11 : Int)
def cfg (c : Cfg) : Array Value := #[.int .i64 c.workers, .int .i64 c.cpus, .int .i64 c.pages, .int .i64 c.stripes, .int .i64 c.tries, .int .i64 c.wait, .int .i64 c.clock, .int .i64 c.priv, .int .i64 c.cache, .int .i64 c.bin, .int .i64 c.batch]
def lay (c : Cfg) (a : At) : Array Value := #[.int .i64 c.workers, .int .i64 c.cpus, .int .i64 c.pages, .int .i64 c.stripes, .int .i64 c.tries, .int .i64 c.wait, .int .i64 c.clock, .int .i64 c.priv, .int .i64 c.cache, .int .i64 c.bin, .int .i64 c.batch,
  .int .i64 a.a0, .int .i64 a.a1, .int .i64 a.a2, .int .i64 a.a3, .int .i64 a.a4, .int .i64 a.a5, .int .i64 a.a6, .int .i64 a.a7, .int .i64 a.a8, .int .i64 a.a9, .int .i64 a.a10, .int .i64 a.a11]
theorem cfg_size (c : Cfg) : (Try.prog.info? 23).map (·.size) = some (cfg c).size := by
  have h : (Try.prog.info? 23).map (·.size) = some 11 := by kernel_rfl
  rw [h]; rfl
theorem lay_size (c : Cfg) (a : At) : (Try.prog.info? 27).map (·.size) = some (lay c a).size := by
  have h : (Try.prog.info? 27).map (·.size) = some 23 := by kernel_rfl
  rw [h]; rfl

/-- a field of a configuration that is held by value -/
@[go_sem] theorem fld_workers (c : Cfg) (w : World) : Sem.run Try.prog (Instr.field 23 (.agg (cfg c)) 0) w = .ok (.int .i64 c.workers) w := by kernel_rfl
@[go_sem] theorem fld_cpus (c : Cfg) (w : World) : Sem.run Try.prog (Instr.field 23 (.agg (cfg c)) 1) w = .ok (.int .i64 c.cpus) w := by kernel_rfl
@[go_sem] theorem fld_pages (c : Cfg) (w : World) : Sem.run Try.prog (Instr.field 23 (.agg (cfg c)) 2) w = .ok (.int .i64 c.pages) w := by kernel_rfl
@[go_sem] theorem fld_stripes (c : Cfg) (w : World) : Sem.run Try.prog (Instr.field 23 (.agg (cfg c)) 3) w = .ok (.int .i64 c.stripes) w := by kernel_rfl
@[go_sem] theorem fld_tries (c : Cfg) (w : World) : Sem.run Try.prog (Instr.field 23 (.agg (cfg c)) 4) w = .ok (.int .i64 c.tries) w := by kernel_rfl
@[go_sem] theorem fld_wait (c : Cfg) (w : World) : Sem.run Try.prog (Instr.field 23 (.agg (cfg c)) 5) w = .ok (.int .i64 c.wait) w := by kernel_rfl
@[go_sem] theorem fld_clock (c : Cfg) (w : World) : Sem.run Try.prog (Instr.field 23 (.agg (cfg c)) 6) w = .ok (.int .i64 c.clock) w := by kernel_rfl
@[go_sem] theorem fld_priv (c : Cfg) (w : World) : Sem.run Try.prog (Instr.field 23 (.agg (cfg c)) 7) w = .ok (.int .i64 c.priv) w := by kernel_rfl
@[go_sem] theorem fld_cache (c : Cfg) (w : World) : Sem.run Try.prog (Instr.field 23 (.agg (cfg c)) 8) w = .ok (.int .i64 c.cache) w := by kernel_rfl
@[go_sem] theorem fld_bin (c : Cfg) (w : World) : Sem.run Try.prog (Instr.field 23 (.agg (cfg c)) 9) w = .ok (.int .i64 c.bin) w := by kernel_rfl
@[go_sem] theorem fld_batch (c : Cfg) (w : World) : Sem.run Try.prog (Instr.field 23 (.agg (cfg c)) 10) w = .ok (.int .i64 c.batch) w := by kernel_rfl

theorem cfg_one (c : Cfg) : (cfg c).all (·.oneCell') = true := by simp [cfg, Value.oneCell']
theorem lay_one (c : Cfg) (a : At) : (lay c a).all (·.oneCell') = true := by simp [lay, Value.oneCell']

theorem words_any (c : Cfg) (a : At) (w : World) :
    Calls Try.prog 81 #[.agg (lay c a)] w fun e w' => e = .returned (.int .i64 a.a11) ∧ Below w.heap.size w w' := by
  have l22 : (lay c a)[22]? = some (.int .i64 a.a11) := rfl
  go_enter Try.func81, Try.ntmps81
  go_wp2
  go_ret
  exact ⟨rfl, (Below.refl _ _).alloc (Nat.le_refl _) _⟩

theorem lay_cfg (c : Cfg) (a : At) : ∀ j v, (cfg c).toList[j]? = some v → (lay c a)[0 + j]? = some v := by
  intro j v h
  have hj : j < 11 := by have := (List.getElem?_eq_some_iff.1 h).1; exact this
  rw [Nat.zero_add, ← h]
  unfold lay cfg
  match j, hj with
  | 0, _ | 1, _ | 2, _ | 3, _ | 4, _ | 5, _ | 6, _ | 7, _ | 8, _ | 9, _ | 10, _ => rfl

theorem config_any (c : Cfg) (a : At) (w : World) :
    Calls Try.prog 50 #[.agg (lay c a)] w fun e w' => e = .returned (.agg (cfg c)) ∧ Below w.heap.size w w' := by
  obtain ⟨w1, hw1⟩ : ∃ w1, w.alloc (.cells (lay c a) 27) = w1 := ⟨_, rfl⟩
  have h1 : w1.heap[w.heap.size]? = some (.cells (lay c a) 27 (0, 0)) := by rw [← hw1]; exact new_row _ _ _
  have hb1 : Below w.heap.size w w1 := by rw [← hw1]; exact (Below.refl _ _).alloc (Nat.le_refl _) _
  have hs1 : w1.heap.size = w.heap.size + 1 := by rw [← hw1]; simp
  have H1 := Lib.hid h1; have HB := Lib.hid hb1
  clear h1 hb1
  go_enter Try.func50, Try.ntmps50
  go_wp2_with (first | (refine wpList_load_mid rfl 23 _ rfl w.heap.size 0 rfl (cfg c).toList _ ?r1 Try.underlying23 rfl ?r2 ?r3) | (refine wpList_store_row rfl 23 _ _ rfl (w.heap.size + 1) (cfg c) rfl rfl 23 #[.int .i64 0, .int .i64 0, .int .i64 0, .int .i64 0, .int .i64 0, .int .i64 0, .int .i64 0, .int .i64 0, .int .i64 0, .int .i64 0, .int .i64 0] ?s1 ?s2 rfl (cfg_one c) ?s3))
  case r1 => exact row_range (by rw [alloc_heap _ _ _ (by omega)]; exact H1.out) 0 _ (lay_cfg c a)
  case r2 => rw [cfg_size c]; rfl
  case s1 => rw [← hs1]; exact new_row _ _ _
  case s2 => exact cfg_size c
  case s3 =>
  have fin : Hid (Below w.heap.size w ((w1.alloc (.cells #[.int .i64 0, .int .i64 0, .int .i64 0, .int .i64 0, .int .i64 0, .int .i64 0, .int .i64 0, .int .i64 0, .int .i64 0, .int .i64 0, .int .i64 0] 23)).setRow (w.heap.size + 1) (cfg c))) := setRow_below (HB.out.alloc (by omega) _) (by omega) _
  have hres : ((w1.alloc (.cells #[.int .i64 0, .int .i64 0, .int .i64 0, .int .i64 0, .int .i64 0, .int .i64 0, .int .i64 0, .int .i64 0, .int .i64 0, .int .i64 0, .int .i64 0] 23)).setRow (w.heap.size + 1) (cfg c)).heap[w.heap.size + 1]? = some (.cells (cfg c) 23 (0, 0)) := by rw [← hs1]; exact setRow_same (new_row _ _ _)
  have HR := Lib.hid hres
  clear hres
  go_wp2
  exact bodyPost_ret (results_cell_row rfl _ _ (w.heap.size + 1) 23 (cfg c) (0, 0) _ rfl HR.out Try.underlying23 rfl (cfg_size c)) rfl ⟨rfl, fin.out⟩

end Lay
end Go.Proofs.Ytnpieopflgkjdaa
