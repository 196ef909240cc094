import Derived.Test.YtnpieopflgkjdaaRefLay
import Derived.StillTailTactics
namespace Go.Proofs.Ytnpieopflgkjdaa
open Go.RowKit Go.Bas
open Lay RefLay
namespace Some_

/-- a number between two, of any one -/
def within (n lo hi : Int) : Int := lo + IntKind.u64.wrap n % (hi - lo + 1)
theorem within_in (n lo hi : Int) (h : lo ≤ hi) : lo ≤ within n lo hi ∧ within n lo hi ≤ hi := by
  have h1 := Int.emod_nonneg (IntKind.u64.wrap n) (b := hi - lo + 1) (by omega)
  have h2 := Int.emod_lt_of_pos (IntKind.u64.wrap n) (b := hi - lo + 1) (by omega)
  unfold within; omega

theorem within_of (n lo hi : Int) (w : World) (h0 : 0 ≤ lo) (h1 : lo ≤ hi) (h2 : hi ≤ 1099511627776) :
    Calls Try.prog 45 #[.int .i64 n, .int .i64 lo, .int .i64 hi] w fun e w' => e = .returned (.int .i64 (within n lo hi)) ∧ w' = w := by
  have hw := within_in n lo hi h1
  have n0 := Int.emod_nonneg (IntKind.u64.wrap n) (b := hi - lo + 1) (by omega)
  have n2 := Int.emod_lt_of_pos (IntKind.u64.wrap n) (b := hi - lo + 1) (by omega)
  unfold within at hw ⊢
  obtain ⟨u, hu⟩ : ∃ u, IntKind.u64.wrap n = u := ⟨_, rfl⟩
  have u0 : 0 ≤ u ∧ u ≤ 18446744073709551615 := by rw [← hu, IntKind.wrap_u64]; omega
  rw [hu] at hw n0 n2 ⊢
  obtain ⟨d, hd⟩ : ∃ d, hi - lo + 1 = d := ⟨_, rfl⟩
  rw [hd] at hw n0 n2 ⊢
  have d0 : 0 < d ∧ d ≤ 1099511627777 := by omega
  obtain ⟨r, hr⟩ : ∃ r, u % d = r := ⟨_, rfl⟩
  rw [hr] at hw n0 n2 ⊢
  have hr' : u.tmod d = r := by rw [Int.tmod_eq_emod_of_nonneg u0.1]; exact hr
  have HR := Lib.hid hr
  clear hr
  go_enter Try.func45, Try.ntmps45
  go_wp2
  go_ret
  exact ⟨rfl, rfl⟩

def some (c : Cfg) : Cfg := ⟨within c.workers 1 64, within c.cpus 1 8, within c.pages 1 256, within c.stripes 1 64, within c.tries 0 16, within c.wait 0 64, within c.clock 1 1099511627776, within c.priv 1 8, within c.cache 0 8, within c.bin 0 16, within c.batch 1 8⟩
theorem some_fine (c : Cfg) : Fine (some c) := ⟨within_in _ _ _ (by omega), within_in _ _ _ (by omega), within_in _ _ _ (by omega), within_in _ _ _ (by omega), within_in _ _ _ (by omega), within_in _ _ _ (by omega), within_in _ _ _ (by omega), within_in _ _ _ (by omega), within_in _ _ _ (by omega), within_in _ _ _ (by omega), within_in _ _ _ (by omega)⟩

set_option maxRecDepth 100000 in
set_option maxHeartbeats 4000000 in
theorem some_of (c : Cfg) (w : World) :
    Calls Try.prog 9 #[.agg (cfg c)] w fun e w' => e = .returned (.agg (cfg (some c))) ∧ Below w.heap.size w w' := by
  obtain ⟨w1, hw1⟩ : ∃ w1, w.alloc (.cells (cfg c) 23) = w1 := ⟨_, rfl⟩
  have hrow : Hid (w1.heap[w.heap.size]? = .some (.cells (cfg c) 23 (0, 0))) := by rw [← hw1]; exact new_row _ _ _
  have hb1 : Hid (Below w.heap.size w w1) := by rw [← hw1]; exact (Below.refl _ _).alloc (Nat.le_refl _) _
  have hs1 : w1.heap.size = w.heap.size + 1 := by rw [← hw1]; simp
  obtain ⟨w2, hw2⟩ : ∃ w2, w1.alloc (.cells #[.int .i64 0, .int .i64 0, .int .i64 0, .int .i64 0, .int .i64 0, .int .i64 0, .int .i64 0, .int .i64 0, .int .i64 0, .int .i64 0, .int .i64 0] 23) = w2 := ⟨_, rfl⟩
  have hb2 : Hid (Below w.heap.size w w2) := by rw [← hw2]; exact hb1.out.alloc (by omega) _
  have hs2 : w2.heap.size = w.heap.size + 2 := by rw [← hw2]; simp; omega
  have hnew : Hid (w2.heap[w.heap.size + 1]? = .some (.cells #[.int .i64 0, .int .i64 0, .int .i64 0, .int .i64 0, .int .i64 0, .int .i64 0, .int .i64 0, .int .i64 0, .int .i64 0, .int .i64 0, .int .i64 0] 23 (0, 0))) := by rw [← hw2, ← hs1]; exact new_row _ _ _
  have hk0 : w2.cell? ⟨w.heap.size, 0, none⟩ = .some (.int .i64 c.workers) := by rw [cell_of_row w2 _ _ (cfg c) 23 (0, 0) (by rw [← hw2, alloc_heap _ _ _ (by omega)]; exact hrow.out)]; rfl
  have hk1 : w2.cell? ⟨w.heap.size, 1, none⟩ = .some (.int .i64 c.cpus) := by rw [cell_of_row w2 _ _ (cfg c) 23 (0, 0) (by rw [← hw2, alloc_heap _ _ _ (by omega)]; exact hrow.out)]; rfl
  have hk2 : w2.cell? ⟨w.heap.size, 2, none⟩ = .some (.int .i64 c.pages) := by rw [cell_of_row w2 _ _ (cfg c) 23 (0, 0) (by rw [← hw2, alloc_heap _ _ _ (by omega)]; exact hrow.out)]; rfl
  have hk3 : w2.cell? ⟨w.heap.size, 3, none⟩ = .some (.int .i64 c.stripes) := by rw [cell_of_row w2 _ _ (cfg c) 23 (0, 0) (by rw [← hw2, alloc_heap _ _ _ (by omega)]; exact hrow.out)]; rfl
  have hk4 : w2.cell? ⟨w.heap.size, 4, none⟩ = .some (.int .i64 c.tries) := by rw [cell_of_row w2 _ _ (cfg c) 23 (0, 0) (by rw [← hw2, alloc_heap _ _ _ (by omega)]; exact hrow.out)]; rfl
  have hk5 : w2.cell? ⟨w.heap.size, 5, none⟩ = .some (.int .i64 c.wait) := by rw [cell_of_row w2 _ _ (cfg c) 23 (0, 0) (by rw [← hw2, alloc_heap _ _ _ (by omega)]; exact hrow.out)]; rfl
  have hk6 : w2.cell? ⟨w.heap.size, 6, none⟩ = .some (.int .i64 c.clock) := by rw [cell_of_row w2 _ _ (cfg c) 23 (0, 0) (by rw [← hw2, alloc_heap _ _ _ (by omega)]; exact hrow.out)]; rfl
  have hk7 : w2.cell? ⟨w.heap.size, 7, none⟩ = .some (.int .i64 c.priv) := by rw [cell_of_row w2 _ _ (cfg c) 23 (0, 0) (by rw [← hw2, alloc_heap _ _ _ (by omega)]; exact hrow.out)]; rfl
  have hk8 : w2.cell? ⟨w.heap.size, 8, none⟩ = .some (.int .i64 c.cache) := by rw [cell_of_row w2 _ _ (cfg c) 23 (0, 0) (by rw [← hw2, alloc_heap _ _ _ (by omega)]; exact hrow.out)]; rfl
  have hk9 : w2.cell? ⟨w.heap.size, 9, none⟩ = .some (.int .i64 c.bin) := by rw [cell_of_row w2 _ _ (cfg c) 23 (0, 0) (by rw [← hw2, alloc_heap _ _ _ (by omega)]; exact hrow.out)]; rfl
  have hk10 : w2.cell? ⟨w.heap.size, 10, none⟩ = .some (.int .i64 c.batch) := by rw [cell_of_row w2 _ _ (cfg c) 23 (0, 0) (by rw [← hw2, alloc_heap _ _ _ (by omega)]; exact hrow.out)]; rfl
  go_enter Try.func9, Try.ntmps9
  go_wp2
  refine wp_region_still_tail 34 (by kernel_rfl) (by kernel_rfl) ?_
  simp only [List.take_succ_cons, List.take_zero, List.drop_succ_cons, List.drop_zero]
  repeat still_step
  still_call (within_of c.workers 1 64 _ (by omega) (by omega) (by omega))
  repeat still_step
  still_call (within_of c.cpus 1 8 _ (by omega) (by omega) (by omega))
  repeat still_step
  still_call (within_of c.pages 1 256 _ (by omega) (by omega) (by omega))
  repeat still_step
  still_call (within_of c.stripes 1 64 _ (by omega) (by omega) (by omega))
  repeat still_step
  still_call (within_of c.tries 0 16 _ (by omega) (by omega) (by omega))
  repeat still_step
  still_call (within_of c.wait 0 64 _ (by omega) (by omega) (by omega))
  repeat still_step
  still_call (within_of c.clock 1 1099511627776 _ (by omega) (by omega) (by omega))
  repeat still_step
  still_call (within_of c.priv 1 8 _ (by omega) (by omega) (by omega))
  repeat still_step
  still_call (within_of c.cache 0 8 _ (by omega) (by omega) (by omega))
  repeat still_step
  still_call (within_of c.bin 0 16 _ (by omega) (by omega) (by omega))
  repeat still_step
  still_call (within_of c.batch 1 8 _ (by omega) (by omega) (by omega))
  repeat still_step
  refine wpStill_nil ?_
  change wpList _ _ _ _ _ (w2.drewN 1)
  refine wpList_store_row rfl 23 _ _ rfl (w.heap.size + 1) (cfg (some c)) rfl rfl 23 #[.int .i64 0, .int .i64 0, .int .i64 0, .int .i64 0, .int .i64 0, .int .i64 0, .int .i64 0, .int .i64 0, .int .i64 0, .int .i64 0, .int .i64 0] ?s1 ?s2 rfl (cfg_one _) ?s3
  case s1 => exact hnew.out
  case s2 => exact cfg_size _
  case s3 =>
  have fin : Hid (Below w.heap.size w ((w2.drewN 1).setRow (w.heap.size + 1) (cfg (some c)))) := setRow_below (below_drewN hb2.out 1) (by omega) _
  have hres : ((w2.drewN 1).setRow (w.heap.size + 1) (cfg (some c))).heap[w.heap.size + 1]? = .some (.cells (cfg (some c)) 23 (0, 0)) := setRow_same (w := w2.drewN 1) hnew.out
  have HR := Lib.hid hres
  clear hres
  go_wp2
  exact bodyPost_ret (results_cell_row rfl _ _ (w.heap.size + 1) 23 (cfg (some c)) (0, 0) _ rfl HR.out Try.underlying23 rfl (cfg_size _)) rfl ⟨rfl, fin.out⟩


end Some_
end Go.Proofs.Ytnpieopflgkjdaa
