import Derived.Test.YtnpieopflgkjdaaOf
import Derived.Test.YtnpieopflgkjdaaSome
namespace Go.Proofs.Ytnpieopflgkjdaa
open Go.RowKit Go.Bas
open Lay RefLay
namespace Small_

/-- a configuration of few things, of any one -/
def cut (c : Cfg) : Cfg := ⟨1 + c.workers % 4, 1 + c.cpus % 2, 1 + c.pages % 9, 1 + c.stripes % 4, c.tries, c.wait, c.clock, 1 + c.priv % 3, c.cache % 3, c.bin % 4, 1 + c.batch % 3⟩
def small (c : Cfg) : Cfg := cut (Some_.some c)
theorem cut_fine {c : Cfg} (F : Fine c) : Fine (cut c) := by
  obtain ⟨h0, h1, h2, h3, h4, h5, h6, h7, h8, h9, ha⟩ := F
  constructor <;> simp only [cut] <;> omega
theorem small_fine (c : Cfg) : Fine (small c) := cut_fine (Some_.some_fine c)

set_option maxRecDepth 100000 in
set_option maxHeartbeats 2000000 in
theorem small_of (c0 : Cfg) (w : World) :
    Calls Try.prog 52 #[.agg (cfg c0)] w fun e w' => e = .returned (.agg (cfg (small c0))) ∧ Below w.heap.size w w' := by
  obtain ⟨c, hc⟩ : ∃ c, Some_.some c0 = c := ⟨_, rfl⟩
  have F : Fine c := by rw [← hc]; exact Some_.some_fine c0
  have hsm : small c0 = cut c := by unfold small; rw [hc]
  rw [hsm]
  have HC := Lib.hid hc
  clear hc hsm
  obtain ⟨h0, h1, h2, h3, h4, h5, h6, h7, h8, h9, ha⟩ := F
  obtain ⟨g, hg⟩ : ∃ g, w.heap.size = g := ⟨_, rfl⟩
  obtain ⟨w1, hw1⟩ : ∃ w1, w.alloc (.cells (cfg c0) 23) = w1 := ⟨_, rfl⟩
  have s1 : w1.heap.size = g + 1 := by rw [← hw1, ← hg]; simp
  obtain ⟨w2, hw2⟩ : ∃ w2, w1.alloc (.cells #[.int .i64 0, .int .i64 0, .int .i64 0, .int .i64 0, .int .i64 0, .int .i64 0, .int .i64 0, .int .i64 0, .int .i64 0, .int .i64 0, .int .i64 0] 23) = w2 := ⟨_, rfl⟩
  have s2 : w2.heap.size = g + 2 := by rw [← hw2]; simp; omega
  have G2 : Hid (w2.heap[g]? = some (.cells (cfg c0) 23 (0, 0))) := by rw [← hw2, Hid, alloc_heap _ _ _ (by omega), ← hw1, ← hg]; exact new_row _ _ _
  have Z2 : Hid (w2.heap[g + 1]? = some (.cells #[.int .i64 0, .int .i64 0, .int .i64 0, .int .i64 0, .int .i64 0, .int .i64 0, .int .i64 0, .int .i64 0, .int .i64 0, .int .i64 0, .int .i64 0] 23 (0, 0))) := by rw [← hw2, ← s1]; exact new_row _ _ _
  have B2 : Hid (Below g w w2) := by rw [← hw2, ← hw1, Hid, ← hg]; exact ((Below.refl _ _).alloc (Nat.le_refl _) _).alloc (by simp) _
  rw [hg]
  go_enter Try.func52, Try.ntmps52
  go_upto_region 2 with (first
    | (refine wpList_load_row rfl 23 _ rfl g rfl 23 (cfg c0) (0, 0) _ G2.out Try.underlying23 rfl (cfg_size _) ?_)
    | (refine wpList_store_row rfl 23 _ _ rfl g (cfg c) rfl rfl 23 (cfg c0) G3.out (cfg_size _) rfl (cfg_one _) ?_)
    | (go_at_call 9; refine (Some_.some_of c0 _).mono ?_; rintro e w3 ⟨rfl, hb3⟩
       rw [HC.out]
       have G3 : Hid (w3.heap[g]? = some (.cells (cfg c0) 23 (0, 0))) := by rw [Hid, hb3.block _ (by omega)]; exact G2.out))
  have e : cfg c = #[.int .i64 c.workers, .int .i64 c.cpus, .int .i64 c.pages, .int .i64 c.stripes, .int .i64 c.tries, .int .i64 c.wait, .int .i64 c.clock, .int .i64 c.priv, .int .i64 c.cache, .int .i64 c.bin, .int .i64 c.batch] := rfl
  rw [e]
  clear e
  have r1 : ∀ cs j, (w3.setRow g cs).cell? ⟨g, j, none⟩ = cs[j]? := fun cs j => setRow_cell G3.out cs j
  have r2 : ∀ cs j v, (w3.setRow g cs).setCell ⟨g, j, none⟩ v = w3.setRow g (cs.setIfInBounds j v) := fun cs j v => setRow_setCell G3.out cs j v
  have r3 : ∀ cs j, (w3.setRow g cs).frozen? ⟨g, j, none⟩ = false := fun cs j => row_frozen (setRow_same G3.out) j
  have t0 : c.workers.tmod 4 = c.workers % 4 := Int.tmod_eq_emod_of_nonneg (by omega)
  have t1 : c.cpus.tmod 2 = c.cpus % 2 := Int.tmod_eq_emod_of_nonneg (by omega)
  have t2 : c.pages.tmod 9 = c.pages % 9 := Int.tmod_eq_emod_of_nonneg (by omega)
  have t3 : c.stripes.tmod 4 = c.stripes % 4 := Int.tmod_eq_emod_of_nonneg (by omega)
  have t7 : c.priv.tmod 3 = c.priv % 3 := Int.tmod_eq_emod_of_nonneg (by omega)
  have t8 : c.cache.tmod 3 = c.cache % 3 := Int.tmod_eq_emod_of_nonneg (by omega)
  have t9 : c.bin.tmod 4 = c.bin % 4 := Int.tmod_eq_emod_of_nonneg (by omega)
  have ta : c.batch.tmod 3 = c.batch % 3 := Int.tmod_eq_emod_of_nonneg (by omega)
  obtain ⟨w4, hw4⟩ : ∃ w4, w3.setRow g #[.int .i64 (1 + c.workers % 4), .int .i64 (1 + c.cpus % 2), .int .i64 (1 + c.pages % 9), .int .i64 (1 + c.stripes % 4), .int .i64 c.tries, .int .i64 c.wait, .int .i64 c.clock, .int .i64 (1 + c.priv % 3), .int .i64 (c.cache % 3), .int .i64 (c.bin % 4), .int .i64 (1 + c.batch % 3)] = w4 := ⟨_, rfl⟩
  have G4 : Hid (w4.heap[g]? = some (.cells (cfg (cut c)) 23 (0, 0))) := by rw [← hw4]; exact setRow_same G3.out
  have Z4 : Hid (w4.heap[g + 1]? = some (.cells #[.int .i64 0, .int .i64 0, .int .i64 0, .int .i64 0, .int .i64 0, .int .i64 0, .int .i64 0, .int .i64 0, .int .i64 0, .int .i64 0, .int .i64 0] 23 (0, 0))) := by rw [← hw4, Hid, setRow_other _ _ _ _ (by omega), hb3.block _ (by omega)]; exact Z2.out
  have B4 : Hid (Below g w w4) := by rw [← hw4]; exact setRow_below (B2.out.trans (hb3.mono (by omega))) (Nat.le_refl _) _
  have Y4 : Hid ((w4.setRow (g + 1) (cfg (cut c))).heap[g + 1]? = some (.cells (cfg (cut c)) 23 (0, 0))) := setRow_same Z4.out
  go_wp2_with (first
    | (refine wpList_load_row rfl 23 _ rfl g rfl 23 (cfg (cut c)) (0, 0) _ G4.out Try.underlying23 rfl (cfg_size _) ?_)
    | (refine wpList_store_row rfl 23 _ _ rfl (g + 1) (cfg (cut c)) rfl rfl 23 #[.int .i64 0, .int .i64 0, .int .i64 0, .int .i64 0, .int .i64 0, .int .i64 0, .int .i64 0, .int .i64 0, .int .i64 0, .int .i64 0, .int .i64 0] Z4.out (cfg_size _) rfl (cfg_one _) ?_))
  exact bodyPost_ret (results_cell_row rfl _ _ (g + 1) 23 (cfg (cut c)) (0, 0) _ rfl Y4.out Try.underlying23 rfl (cfg_size _)) rfl ⟨rfl, setRow_below B4.out (by omega) _⟩

end Small_
end Go.Proofs.Ytnpieopflgkjdaa
