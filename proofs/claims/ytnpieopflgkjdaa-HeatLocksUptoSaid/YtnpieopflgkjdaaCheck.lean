import Derived.Test.YtnpieopflgkjdaaRefLay
namespace Go.Proofs.Ytnpieopflgkjdaa
open Go.RowKit Go.Bas
open Lay RefLay
namespace Chk

theorem holds_of (n lo hi : Int) (w : World) (h1 : lo ≤ n) (h2 : n ≤ hi) :
    Calls Try.prog 80 #[.agg #[.int .i64 n, .int .i64 lo, .int .i64 hi]] w fun e w' => e = .returned (.bool true) ∧ Below w.heap.size w w' := by
  obtain ⟨w1, hw1⟩ : ∃ w1, w.alloc (.cells #[.int .i64 n, .int .i64 lo, .int .i64 hi] 117) = w1 := ⟨_, rfl⟩
  have hrow : w1.heap[w.heap.size]? = some (.cells #[.int .i64 n, .int .i64 lo, .int .i64 hi] 117 (0, 0)) := by rw [← hw1]; exact new_row _ _ _
  have hb1 : Hid (Below w.heap.size w w1) := by rw [← hw1]; exact (Below.refl _ _).alloc (Nat.le_refl _) _
  have hk0 : w1.cell? ⟨w.heap.size, 0, none⟩ = some (.int .i64 n) := by rw [cell_of_row _ _ _ _ _ _ hrow]; rfl
  have hk1 : w1.cell? ⟨w.heap.size, 1, none⟩ = some (.int .i64 lo) := by rw [cell_of_row _ _ _ _ _ _ hrow]; rfl
  have hk2 : w1.cell? ⟨w.heap.size, 2, none⟩ = some (.int .i64 hi) := by rw [cell_of_row _ _ _ _ _ _ hrow]; rfl
  clear hrow
  go_enter Try.func80, Try.ntmps80
  go_wp2
  go_ret
  exact ⟨rfl, hb1.out⟩

theorem lim_size : (Try.prog.info? 117).map (·.size) = some 3 := by kernel_rfl

/-- the limits that Check looks at, one after the other -/
def lims (c : Cfg) : Array Value := #[.int .i64 c.workers, .int .i64 1, .int .i64 64, .int .i64 c.cpus, .int .i64 1, .int .i64 8, .int .i64 c.pages, .int .i64 1, .int .i64 256,
  .int .i64 c.stripes, .int .i64 1, .int .i64 64, .int .i64 c.tries, .int .i64 0, .int .i64 16, .int .i64 c.wait, .int .i64 0, .int .i64 64, .int .i64 c.clock, .int .i64 1, .int .i64 1099511627776,
  .int .i64 c.priv, .int .i64 1, .int .i64 8, .int .i64 c.cache, .int .i64 0, .int .i64 8, .int .i64 c.bin, .int .i64 0, .int .i64 16, .int .i64 c.batch, .int .i64 1, .int .i64 8]
theorem lims_at {c : Cfg} (F : Fine c) (k : Nat) (hk : k < 11) : ∃ n lo hi : Int, lo ≤ n ∧ n ≤ hi ∧ (lims c)[k * 3]? = some (.int .i64 n) ∧ (lims c)[k * 3 + 1]? = some (.int .i64 lo) ∧ (lims c)[k * 3 + 2]? = some (.int .i64 hi) := by
  match k, hk with
  | 0, _ => exact ⟨_, _, _, F.workers.1, F.workers.2, rfl, rfl, rfl⟩
  | 1, _ => exact ⟨_, _, _, F.cpus.1, F.cpus.2, rfl, rfl, rfl⟩
  | 2, _ => exact ⟨_, _, _, F.pages.1, F.pages.2, rfl, rfl, rfl⟩
  | 3, _ => exact ⟨_, _, _, F.stripes.1, F.stripes.2, rfl, rfl, rfl⟩
  | 4, _ => exact ⟨_, _, _, F.tries.1, F.tries.2, rfl, rfl, rfl⟩
  | 5, _ => exact ⟨_, _, _, F.wait.1, F.wait.2, rfl, rfl, rfl⟩
  | 6, _ => exact ⟨_, _, _, F.clock.1, F.clock.2, rfl, rfl, rfl⟩
  | 7, _ => exact ⟨_, _, _, F.priv.1, F.priv.2, rfl, rfl, rfl⟩
  | 8, _ => exact ⟨_, _, _, F.cache.1, F.cache.2, rfl, rfl, rfl⟩
  | 9, _ => exact ⟨_, _, _, F.bin.1, F.bin.2, rfl, rfl, rfl⟩
  | 10, _ => exact ⟨_, _, _, F.batch.1, F.batch.2, rfl, rfl, rfl⟩

set_option maxRecDepth 100000 in
set_option maxHeartbeats 4000000 in
theorem check_of (c : Cfg) (w : World) (F : Fine c) :
    Calls Try.prog 46 #[.agg (cfg c)] w fun e w' => e = .returned (.int .i64 0) ∧ Below w.heap.size w w' := by
  obtain ⟨w1, hw1⟩ : ∃ w1, w.alloc (.cells (cfg c) 23) = w1 := ⟨_, rfl⟩
  have hrow : w1.heap[w.heap.size]? = some (.cells (cfg c) 23 (0, 0)) := by rw [← hw1]; exact new_row _ _ _
  have hb1 : Hid (Below w.heap.size w w1) := by rw [← hw1]; exact (Below.refl _ _).alloc (Nat.le_refl _) _
  have hk0 : w1.cell? ⟨w.heap.size, 0, none⟩ = some (.int .i64 c.workers) := by rw [cell_of_row _ _ _ _ _ _ hrow]; rfl
  have hk1 : w1.cell? ⟨w.heap.size, 1, none⟩ = some (.int .i64 c.cpus) := by rw [cell_of_row _ _ _ _ _ _ hrow]; rfl
  have hk2 : w1.cell? ⟨w.heap.size, 2, none⟩ = some (.int .i64 c.pages) := by rw [cell_of_row _ _ _ _ _ _ hrow]; rfl
  have hk3 : w1.cell? ⟨w.heap.size, 3, none⟩ = some (.int .i64 c.stripes) := by rw [cell_of_row _ _ _ _ _ _ hrow]; rfl
  have hk4 : w1.cell? ⟨w.heap.size, 4, none⟩ = some (.int .i64 c.tries) := by rw [cell_of_row _ _ _ _ _ _ hrow]; rfl
  have hk5 : w1.cell? ⟨w.heap.size, 5, none⟩ = some (.int .i64 c.wait) := by rw [cell_of_row _ _ _ _ _ _ hrow]; rfl
  have hk6 : w1.cell? ⟨w.heap.size, 6, none⟩ = some (.int .i64 c.clock) := by rw [cell_of_row _ _ _ _ _ _ hrow]; rfl
  have hk7 : w1.cell? ⟨w.heap.size, 7, none⟩ = some (.int .i64 c.priv) := by rw [cell_of_row _ _ _ _ _ _ hrow]; rfl
  have hk8 : w1.cell? ⟨w.heap.size, 8, none⟩ = some (.int .i64 c.cache) := by rw [cell_of_row _ _ _ _ _ _ hrow]; rfl
  have hk9 : w1.cell? ⟨w.heap.size, 9, none⟩ = some (.int .i64 c.bin) := by rw [cell_of_row _ _ _ _ _ _ hrow]; rfl
  have hk10 : w1.cell? ⟨w.heap.size, 10, none⟩ = some (.int .i64 c.batch) := by rw [cell_of_row _ _ _ _ _ _ hrow]; rfl
  clear hrow
  obtain ⟨w2, hw2⟩ : ∃ w2, w1.alloc (.cells #[.int .i64 c.workers, .int .i64 1, .int .i64 64, .int .i64 c.cpus, .int .i64 1, .int .i64 8, .int .i64 c.pages, .int .i64 1, .int .i64 256,
    .int .i64 c.stripes, .int .i64 1, .int .i64 64, .int .i64 c.tries, .int .i64 0, .int .i64 16, .int .i64 c.wait, .int .i64 0, .int .i64 64, .int .i64 c.clock, .int .i64 1, .int .i64 1099511627776,
    .int .i64 c.priv, .int .i64 1, .int .i64 8, .int .i64 c.cache, .int .i64 0, .int .i64 8, .int .i64 c.bin, .int .i64 0, .int .i64 16, .int .i64 c.batch, .int .i64 1, .int .i64 8] 117) = w2 := ⟨_, rfl⟩
  have hb2 : Hid (Below w.heap.size w w2) := by rw [← hw2]; exact hb1.out.alloc (by rw [← hw1]; simp) _
  have hs2 : w2.heap.size = w1.heap.size + 1 := by rw [← hw2]; simp
  have hs1 : w1.heap.size = w.heap.size + 1 := by rw [← hw1]; simp
  have hL : Hid (w2.heap[w.heap.size + 1]? = some (.cells (lims c) 117 (0, 0))) := by rw [← hw2, ← hs1]; exact new_row _ _ _
  have FH := Lib.hid F
  clear F
  go_enter Try.func46, Try.ntmps46
  go_wp2
  go_loopw [40] (fun u40 wr => ∃ k : Nat, k ≤ 11 ∧ u40 = .int .i64 k ∧ Hid (Below w2.heap.size w2 wr)) (fun u40 _ => 11 - (intOf u40).toNat)
  case atStart => exact ⟨0, by omega, rfl, Below.refl _ _⟩
  case round =>
    obtain ⟨k, hk, rfl, HB⟩ := hrel
    have hsr := HB.out.size
    by_cases hlt : k < 11
    · obtain ⟨n, lo, hi, h1, h2, l0, l1, l2⟩ := lims_at FH.out k hlt
      have L0 := Lib.hid l0; have L1 := Lib.hid l1; have L2 := Lib.hid l2
      have hrL : Hid (wr.heap[w.heap.size + 1]? = some (.cells (lims c) 117 (0, 0))) := by rw [Hid, HB.out.block _ (by omega)]; exact hL.out
      clear l0 l1 l2 hk0 hk1 hk2 hk3 hk4 hk5 hk6 hk7 hk8 hk9 hk10
      obtain ⟨w3, hw3⟩ : ∃ w3, wr.alloc (.cells #[.int .i64 0, .int .i64 0, .int .i64 0] 117) = w3 := ⟨_, rfl⟩
      have hs3 : w3.heap.size = wr.heap.size + 1 := by rw [← hw3]; simp
      have hb3 : Hid (Below w2.heap.size w2 w3) := by rw [← hw3]; exact HB.out.alloc (by omega) _
      have hn3 : Hid (w3.heap[wr.heap.size]? = some (.cells #[.int .i64 0, .int .i64 0, .int .i64 0] 117 (0, 0))) := by rw [← hw3]; exact new_row _ _ _
      have hn4 : Hid ((w3.setRow wr.heap.size #[.int .i64 n, .int .i64 lo, .int .i64 hi]).heap[wr.heap.size]? = some (.cells #[.int .i64 n, .int .i64 lo, .int .i64 hi] 117 (0, 0))) := setRow_same hn3.out
      have hb4 : Hid (Below w2.heap.size w2 (w3.setRow wr.heap.size #[.int .i64 n, .int .i64 lo, .int .i64 hi])) := setRow_below hb3.out hsr _
      go_wp2_with (first
        | (refine wpList_load_mid rfl 117 _ rfl (w.heap.size + 1) (k * 3) (by first | rfl | simp) [.int .i64 n, .int .i64 lo, .int .i64 hi] _ ?r1 Try.underlying117 rfl lim_size ?r3)
        | (refine wpList_store_row rfl 117 _ _ rfl wr.heap.size #[.int .i64 n, .int .i64 lo, .int .i64 hi] rfl rfl 117 #[.int .i64 0, .int .i64 0, .int .i64 0] hn3.out lim_size rfl (by simp [Value.oneCell']) ?s3)
        | (refine wpList_load_row rfl 117 _ rfl wr.heap.size rfl 117 #[.int .i64 n, .int .i64 lo, .int .i64 hi] (0, 0) _ hn4.out Try.underlying117 rfl lim_size ?l1)
        | (go_at_call 80; refine (holds_of n lo hi _ h1 h2).mono ?_; rintro e w5 ⟨rfl, hb5⟩))
      case r1 =>
        refine row_range hrL.out (k * 3) _ ?_
        rintro (_ | _ | _ | j) v hv <;> simp at hv
        · subst hv; exact L0.out
        · subst hv; exact L1.out
        · subst hv; exact L2.out
      go_roundw
      case rel => exact ⟨k + 1, by omega, by go_num, hb4.out.trans (hb5.mono hb4.out.size)⟩
      case measure => simp [intOf]; omega
    · obtain rfl : k = 11 := by omega
      go_wp2
      go_ret
      exact ⟨rfl, hb2.out.trans (HB.out.mono (by omega))⟩

end Chk
end Go.Proofs.Ytnpieopflgkjdaa
