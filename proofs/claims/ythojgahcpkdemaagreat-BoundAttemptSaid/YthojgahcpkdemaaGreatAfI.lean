/- Lemmas of this seat's proofs, several texts laid together. -/
import Derived.Test.YthojgahcpkdemaaGreatAfC
import Derived.Deep.Cut
import Derived.StillTailTactics
import Derived.Test.YthojgahcpkdemaaGreatAfH
set_option linter.unusedVariables false
set_option linter.unusedSimpArgs false
namespace Go.Proofs.YthojgahcpkdemaaGreat
open Go.RowKit Go.Bas
open Lay
namespace RefLay

/-- a configuration that may be -/
structure Fine (c : Cfg) : Prop where
  workers : 1 ≤ c.workers ∧ c.workers ≤ 64
  cpus : 1 ≤ c.cpus ∧ c.cpus ≤ 8
  pages : 1 ≤ c.pages ∧ c.pages ≤ 256
  stripes : 1 ≤ c.stripes ∧ c.stripes ≤ 64
  tries : 0 ≤ c.tries ∧ c.tries ≤ 16
  wait : 0 ≤ c.wait ∧ c.wait ≤ 64
  clock : 1 ≤ c.clock ∧ c.clock ≤ 1099511627776
  priv : 1 ≤ c.priv ∧ c.priv ≤ 8
  cache : 0 ≤ c.cache ∧ c.cache ≤ 8
  bin : 0 ≤ c.bin ∧ c.bin ≤ 16
  batch : 1 ≤ c.batch ∧ c.batch ≤ 8

def table (c : Cfg) : Int := 3 + c.stripes
def chunks (c : Cfg) : Int := (c.pages + 3) / 4
def heads (c : Cfg) : Int := table c + chunks c + 5 * c.pages
def caches (c : Cfg) : Int := heads c + 62
def cch (c : Cfg) : Int := 5 * c.cpus * (c.cache + 1)
def bins (c : Cfg) : Int := caches c + cch c
def live (c : Cfg) : Int := bins c + 5 * (c.bin + 1)
def user (c : Cfg) : Int := (live c + 32 * c.pages + 127) / 128 * 128
def words (c : Cfg) : Int := user c + 32 * c.pages

theorem cch_in {c : Cfg} (F : Fine c) : 0 ≤ cch c ∧ cch c ≤ 360 := by
  obtain ⟨_, ⟨_, _⟩, _, _, _, _, _, _, ⟨_, _⟩, _, _⟩ := F
  refine ⟨Int.mul_nonneg (by omega) (by omega), ?_⟩
  have := @Int.mul_le_mul (5 * c.cpus) (c.cache + 1) 40 9 (by omega) (by omega) (by omega) (by omega)
  unfold cch; omega
theorem table_in {c : Cfg} (F : Fine c) : 4 ≤ table c ∧ table c ≤ 67 := by have := F.stripes; unfold table; omega
theorem chunks_in {c : Cfg} (F : Fine c) : 1 ≤ chunks c ∧ chunks c ≤ 64 := by have := F.pages; unfold chunks; omega
theorem heads_in {c : Cfg} (F : Fine c) : 10 ≤ heads c ∧ heads c ≤ 2000 := by have := F.pages; have := table_in F; have := chunks_in F; unfold heads; omega
theorem caches_in {c : Cfg} (F : Fine c) : 72 ≤ caches c ∧ caches c ≤ 3000 := by have := heads_in F; unfold caches; omega
theorem bins_in {c : Cfg} (F : Fine c) : 72 ≤ bins c ∧ bins c ≤ 4000 := by have := caches_in F; have := cch_in F; unfold bins; omega
theorem live_in {c : Cfg} (F : Fine c) : 77 ≤ live c ∧ live c ≤ 5000 := by have := bins_in F; have := F.bin; unfold live; omega
theorem user_in {c : Cfg} (F : Fine c) : 128 ≤ user c ∧ user c ≤ 20000 := by have := live_in F; have := F.pages; unfold user; omega
theorem words_in {c : Cfg} (F : Fine c) : 160 ≤ words c ∧ words c ≤ 40000 := by have := user_in F; have := F.pages; unfold words; omega

theorem cfg2_size (c : Cfg) : (Tryz.prog.info? 68).map (·.size) = some (cfg c).size := by
  have h : (Tryz.prog.info? 68).map (·.size) = some 11 := by kernel_rfl
  rw [h]; rfl

theorem table_of (c : Cfg) (w : World) (F : Fine c) :
    Calls Tryz.prog 133 #[.agg (cfg c)] w fun e w' => e = .returned (.int .i64 (table c)) ∧ Below w.heap.size w w' := by
  obtain ⟨w1, hw1⟩ : ∃ w1, w.alloc (.cells (cfg c) 68) = w1 := ⟨_, rfl⟩
  have hrow : Hid (w1.heap[w.heap.size]? = some (.cells (cfg c) 68 (0, 0))) := by rw [← hw1]; exact new_row _ _ _
  have hb1 : Hid (Below w.heap.size w w1) := by rw [← hw1]; exact (Below.refl _ _).alloc (Nat.le_refl _) _
  have hs1 : w.heap.size + 1 ≤ w1.heap.size := by rw [← hw1]; simp
  have _b := table_in F
  have hk3 : w1.cell? ⟨w.heap.size, 3, none⟩ = some (.int .i64 c.stripes) := by rw [cell_of_row _ _ _ _ _ _ hrow.out]; rfl
  have FH := Lib.hid F
  obtain ⟨⟨f00, f01⟩, ⟨f10, f11⟩, ⟨f20, f21⟩, ⟨f30, f31⟩, ⟨f40, f41⟩, ⟨f50, f51⟩, ⟨f60, f61⟩, ⟨f70, f71⟩, ⟨f80, f81⟩, ⟨f90, f91⟩, ⟨fa0, fa1⟩⟩ := F
  go_enter Tryz.func133, Tryz.ntmps133
  go_wp2
  go_ret
  exact ⟨rfl, hb1.out⟩

theorem chunks_of (c : Cfg) (w : World) (F : Fine c) :
    Calls Tryz.prog 134 #[.agg (cfg c)] w fun e w' => e = .returned (.int .i64 (chunks c)) ∧ Below w.heap.size w w' := by
  obtain ⟨w1, hw1⟩ : ∃ w1, w.alloc (.cells (cfg c) 68) = w1 := ⟨_, rfl⟩
  have hrow : Hid (w1.heap[w.heap.size]? = some (.cells (cfg c) 68 (0, 0))) := by rw [← hw1]; exact new_row _ _ _
  have hb1 : Hid (Below w.heap.size w w1) := by rw [← hw1]; exact (Below.refl _ _).alloc (Nat.le_refl _) _
  have hs1 : w.heap.size + 1 ≤ w1.heap.size := by rw [← hw1]; simp
  have _b := chunks_in F
  have hk2 : w1.cell? ⟨w.heap.size, 2, none⟩ = some (.int .i64 c.pages) := by rw [cell_of_row _ _ _ _ _ _ hrow.out]; rfl
  have FH := Lib.hid F
  obtain ⟨⟨f00, f01⟩, ⟨f10, f11⟩, ⟨f20, f21⟩, ⟨f30, f31⟩, ⟨f40, f41⟩, ⟨f50, f51⟩, ⟨f60, f61⟩, ⟨f70, f71⟩, ⟨f80, f81⟩, ⟨f90, f91⟩, ⟨fa0, fa1⟩⟩ := F
  go_enter Tryz.func134, Tryz.ntmps134
  go_wp2
  go_ret
  exact ⟨rfl, hb1.out⟩

theorem heads_of (c : Cfg) (w : World) (F : Fine c) :
    Calls Tryz.prog 125 #[.agg (cfg c)] w fun e w' => e = .returned (.int .i64 (heads c)) ∧ Below w.heap.size w w' := by
  obtain ⟨w1, hw1⟩ : ∃ w1, w.alloc (.cells (cfg c) 68) = w1 := ⟨_, rfl⟩
  have hrow : Hid (w1.heap[w.heap.size]? = some (.cells (cfg c) 68 (0, 0))) := by rw [← hw1]; exact new_row _ _ _
  have hb1 : Hid (Below w.heap.size w w1) := by rw [← hw1]; exact (Below.refl _ _).alloc (Nat.le_refl _) _
  have hs1 : w.heap.size + 1 ≤ w1.heap.size := by rw [← hw1]; simp
  have _b := table_in F
  have _c := chunks_in F
  have hk2 : ∀ e : Ext (w.heap.size + 1) w1, e.at_.cell? ⟨w.heap.size, 2, none⟩ = some (.int .i64 c.pages) := ext_cell hrow.out (by omega) rfl
  have FH := Lib.hid F
  obtain ⟨⟨f00, f01⟩, ⟨f10, f11⟩, ⟨f20, f21⟩, ⟨f30, f31⟩, ⟨f40, f41⟩, ⟨f50, f51⟩, ⟨f60, f61⟩, ⟨f70, f71⟩, ⟨f80, f81⟩, ⟨f90, f91⟩, ⟨fa0, fa1⟩⟩ := F
  go_enter Tryz.func125, Tryz.ntmps125
  go_wp2
  refine wp_region_mono (w.heap.size + 1) (by kernel_rfl) (by kernel_rfl) ?_
  repeat (any_goals (first | (refine wpQuiet_load_row rfl 68 _ rfl w.heap.size rfl 68 (cfg c) (0, 0) _ (ext_row hrow.out (by omega)) Tryz.underlying68 rfl (cfg2_size c) ?_; go_simp) | go_big_quiet_step ((first | (go_at_call 133; exact Calls.ext hs1 (table_of c _ FH.out)) | (go_at_call 134; exact Calls.ext hs1 (chunks_of c _ FH.out))))))
  refine wpQuiet_nil ?_
  rintro ⟨w2, hb2⟩
  go_wp2
  go_ret
  exact ⟨rfl, hb1.out.trans (hb2.mono (by omega))⟩

theorem caches_of (c : Cfg) (w : World) (F : Fine c) :
    Calls Tryz.prog 109 #[.agg (cfg c)] w fun e w' => e = .returned (.int .i64 (caches c)) ∧ Below w.heap.size w w' := by
  obtain ⟨w1, hw1⟩ : ∃ w1, w.alloc (.cells (cfg c) 68) = w1 := ⟨_, rfl⟩
  have hrow : Hid (w1.heap[w.heap.size]? = some (.cells (cfg c) 68 (0, 0))) := by rw [← hw1]; exact new_row _ _ _
  have hb1 : Hid (Below w.heap.size w w1) := by rw [← hw1]; exact (Below.refl _ _).alloc (Nat.le_refl _) _
  have hs1 : w.heap.size + 1 ≤ w1.heap.size := by rw [← hw1]; simp
  have _b := heads_in F
  have FH := Lib.hid F
  obtain ⟨⟨f00, f01⟩, ⟨f10, f11⟩, ⟨f20, f21⟩, ⟨f30, f31⟩, ⟨f40, f41⟩, ⟨f50, f51⟩, ⟨f60, f61⟩, ⟨f70, f71⟩, ⟨f80, f81⟩, ⟨f90, f91⟩, ⟨fa0, fa1⟩⟩ := F
  go_enter Tryz.func109, Tryz.ntmps109
  go_wp2_with (first | (refine wpList_load_row rfl 68 _ rfl w.heap.size rfl 68 (cfg c) (0, 0) _ hrow.out Tryz.underlying68 rfl (cfg2_size c) ?_) | (go_at_call 125; refine (heads_of c _ FH.out).mono ?_; rintro e w2 ⟨rfl, hb2⟩))
  go_ret
  exact ⟨rfl, hb1.out.trans (hb2.mono (by omega))⟩

theorem bins_of (c : Cfg) (w : World) (F : Fine c) :
    Calls Tryz.prog 103 #[.agg (cfg c)] w fun e w' => e = .returned (.int .i64 (bins c)) ∧ Below w.heap.size w w' := by
  obtain ⟨w1, hw1⟩ : ∃ w1, w.alloc (.cells (cfg c) 68) = w1 := ⟨_, rfl⟩
  have hrow : Hid (w1.heap[w.heap.size]? = some (.cells (cfg c) 68 (0, 0))) := by rw [← hw1]; exact new_row _ _ _
  have hb1 : Hid (Below w.heap.size w w1) := by rw [← hw1]; exact (Below.refl _ _).alloc (Nat.le_refl _) _
  have hs1 : w.heap.size + 1 ≤ w1.heap.size := by rw [← hw1]; simp
  have _b := caches_in F
  have _c : 0 ≤ 5 * c.cpus * (c.cache + 1) ∧ 5 * c.cpus * (c.cache + 1) ≤ 360 := cch_in F
  have hk1 : ∀ e : Ext (w.heap.size + 1) w1, e.at_.cell? ⟨w.heap.size, 1, none⟩ = some (.int .i64 c.cpus) := ext_cell hrow.out (by omega) rfl
  have hk8 : ∀ e : Ext (w.heap.size + 1) w1, e.at_.cell? ⟨w.heap.size, 8, none⟩ = some (.int .i64 c.cache) := ext_cell hrow.out (by omega) rfl
  have FH := Lib.hid F
  obtain ⟨⟨f00, f01⟩, ⟨f10, f11⟩, ⟨f20, f21⟩, ⟨f30, f31⟩, ⟨f40, f41⟩, ⟨f50, f51⟩, ⟨f60, f61⟩, ⟨f70, f71⟩, ⟨f80, f81⟩, ⟨f90, f91⟩, ⟨fa0, fa1⟩⟩ := F
  go_enter Tryz.func103, Tryz.ntmps103
  go_wp2
  refine wp_region_mono (w.heap.size + 1) (by kernel_rfl) (by kernel_rfl) ?_
  repeat (any_goals (first | (refine wpQuiet_load_row rfl 68 _ rfl w.heap.size rfl 68 (cfg c) (0, 0) _ (ext_row hrow.out (by omega)) Tryz.underlying68 rfl (cfg2_size c) ?_; go_simp) | go_big_quiet_step ((first | (go_at_call 109; exact Calls.ext hs1 (caches_of c _ FH.out))))))
  refine wpQuiet_nil ?_
  rintro ⟨w2, hb2⟩
  go_wp2
  go_ret
  exact ⟨rfl, hb1.out.trans (hb2.mono (by omega))⟩

theorem live_of (c : Cfg) (w : World) (F : Fine c) :
    Calls Tryz.prog 93 #[.agg (cfg c)] w fun e w' => e = .returned (.int .i64 (live c)) ∧ Below w.heap.size w w' := by
  obtain ⟨w1, hw1⟩ : ∃ w1, w.alloc (.cells (cfg c) 68) = w1 := ⟨_, rfl⟩
  have hrow : Hid (w1.heap[w.heap.size]? = some (.cells (cfg c) 68 (0, 0))) := by rw [← hw1]; exact new_row _ _ _
  have hb1 : Hid (Below w.heap.size w w1) := by rw [← hw1]; exact (Below.refl _ _).alloc (Nat.le_refl _) _
  have hs1 : w.heap.size + 1 ≤ w1.heap.size := by rw [← hw1]; simp
  have _b := bins_in F
  have hk9 : ∀ e : Ext (w.heap.size + 1) w1, e.at_.cell? ⟨w.heap.size, 9, none⟩ = some (.int .i64 c.bin) := ext_cell hrow.out (by omega) rfl
  have FH := Lib.hid F
  obtain ⟨⟨f00, f01⟩, ⟨f10, f11⟩, ⟨f20, f21⟩, ⟨f30, f31⟩, ⟨f40, f41⟩, ⟨f50, f51⟩, ⟨f60, f61⟩, ⟨f70, f71⟩, ⟨f80, f81⟩, ⟨f90, f91⟩, ⟨fa0, fa1⟩⟩ := F
  go_enter Tryz.func93, Tryz.ntmps93
  go_wp2
  refine wp_region_mono (w.heap.size + 1) (by kernel_rfl) (by kernel_rfl) ?_
  repeat (any_goals (first | (refine wpQuiet_load_row rfl 68 _ rfl w.heap.size rfl 68 (cfg c) (0, 0) _ (ext_row hrow.out (by omega)) Tryz.underlying68 rfl (cfg2_size c) ?_; go_simp) | go_big_quiet_step ((first | (go_at_call 103; exact Calls.ext hs1 (bins_of c _ FH.out))))))
  refine wpQuiet_nil ?_
  rintro ⟨w2, hb2⟩
  go_wp2
  go_ret
  exact ⟨rfl, hb1.out.trans (hb2.mono (by omega))⟩

theorem user_of (c : Cfg) (w : World) (F : Fine c) :
    Calls Tryz.prog 76 #[.agg (cfg c)] w fun e w' => e = .returned (.int .i64 (user c)) ∧ Below w.heap.size w w' := by
  obtain ⟨w1, hw1⟩ : ∃ w1, w.alloc (.cells (cfg c) 68) = w1 := ⟨_, rfl⟩
  have hrow : Hid (w1.heap[w.heap.size]? = some (.cells (cfg c) 68 (0, 0))) := by rw [← hw1]; exact new_row _ _ _
  have hb1 : Hid (Below w.heap.size w w1) := by rw [← hw1]; exact (Below.refl _ _).alloc (Nat.le_refl _) _
  have hs1 : w.heap.size + 1 ≤ w1.heap.size := by rw [← hw1]; simp
  have _b := live_in F
  have hk2 : ∀ e : Ext (w.heap.size + 1) w1, e.at_.cell? ⟨w.heap.size, 2, none⟩ = some (.int .i64 c.pages) := ext_cell hrow.out (by omega) rfl
  have FH := Lib.hid F
  obtain ⟨⟨f00, f01⟩, ⟨f10, f11⟩, ⟨f20, f21⟩, ⟨f30, f31⟩, ⟨f40, f41⟩, ⟨f50, f51⟩, ⟨f60, f61⟩, ⟨f70, f71⟩, ⟨f80, f81⟩, ⟨f90, f91⟩, ⟨fa0, fa1⟩⟩ := F
  go_enter Tryz.func76, Tryz.ntmps76
  go_wp2
  refine wp_region_mono (w.heap.size + 1) (by kernel_rfl) (by kernel_rfl) ?_
  repeat (any_goals (first | (refine wpQuiet_load_row rfl 68 _ rfl w.heap.size rfl 68 (cfg c) (0, 0) _ (ext_row hrow.out (by omega)) Tryz.underlying68 rfl (cfg2_size c) ?_; go_simp) | go_big_quiet_step ((first | (go_at_call 93; exact Calls.ext hs1 (live_of c _ FH.out))))))
  refine wpQuiet_nil ?_
  rintro ⟨w2, hb2⟩
  go_wp2
  go_ret
  exact ⟨rfl, hb1.out.trans (hb2.mono (by omega))⟩

theorem words_of (c : Cfg) (w : World) (F : Fine c) :
    Calls Tryz.prog 60 #[.agg (cfg c)] w fun e w' => e = .returned (.int .i64 (words c)) ∧ Below w.heap.size w w' := by
  obtain ⟨w1, hw1⟩ : ∃ w1, w.alloc (.cells (cfg c) 68) = w1 := ⟨_, rfl⟩
  have hrow : Hid (w1.heap[w.heap.size]? = some (.cells (cfg c) 68 (0, 0))) := by rw [← hw1]; exact new_row _ _ _
  have hb1 : Hid (Below w.heap.size w w1) := by rw [← hw1]; exact (Below.refl _ _).alloc (Nat.le_refl _) _
  have hs1 : w.heap.size + 1 ≤ w1.heap.size := by rw [← hw1]; simp
  have _b := user_in F
  have hk2 : ∀ e : Ext (w.heap.size + 1) w1, e.at_.cell? ⟨w.heap.size, 2, none⟩ = some (.int .i64 c.pages) := ext_cell hrow.out (by omega) rfl
  have FH := Lib.hid F
  obtain ⟨⟨f00, f01⟩, ⟨f10, f11⟩, ⟨f20, f21⟩, ⟨f30, f31⟩, ⟨f40, f41⟩, ⟨f50, f51⟩, ⟨f60, f61⟩, ⟨f70, f71⟩, ⟨f80, f81⟩, ⟨f90, f91⟩, ⟨fa0, fa1⟩⟩ := F
  go_enter Tryz.func60, Tryz.ntmps60
  go_wp2
  refine wp_region_mono (w.heap.size + 1) (by kernel_rfl) (by kernel_rfl) ?_
  repeat (any_goals (first | (refine wpQuiet_load_row rfl 68 _ rfl w.heap.size rfl 68 (cfg c) (0, 0) _ (ext_row hrow.out (by omega)) Tryz.underlying68 rfl (cfg2_size c) ?_; go_simp) | go_big_quiet_step ((first | (go_at_call 76; exact Calls.ext hs1 (user_of c _ FH.out))))))
  refine wpQuiet_nil ?_
  rintro ⟨w2, hb2⟩
  go_wp2
  go_ret
  exact ⟨rfl, hb1.out.trans (hb2.mono (by omega))⟩


end RefLay
end Go.Proofs.YthojgahcpkdemaaGreat

namespace Go.Proofs.YthojgahcpkdemaaGreat
open Go.RowKit Go.Bas
open Lay RefLay
namespace Chk

theorem holds_of (n lo hi : Int) (w : World) (h1 : lo ≤ n) (h2 : n ≤ hi) :
    Calls Tryz.prog 75 #[.agg #[.int .i64 n, .int .i64 lo, .int .i64 hi]] w fun e w' => e = .returned (.bool true) ∧ Below w.heap.size w w' := by
  obtain ⟨w1, hw1⟩ : ∃ w1, w.alloc (.cells #[.int .i64 n, .int .i64 lo, .int .i64 hi] 108) = w1 := ⟨_, rfl⟩
  have hrow : w1.heap[w.heap.size]? = some (.cells #[.int .i64 n, .int .i64 lo, .int .i64 hi] 108 (0, 0)) := by rw [← hw1]; exact new_row _ _ _
  have hb1 : Hid (Below w.heap.size w w1) := by rw [← hw1]; exact (Below.refl _ _).alloc (Nat.le_refl _) _
  have hk0 : w1.cell? ⟨w.heap.size, 0, none⟩ = some (.int .i64 n) := by rw [cell_of_row _ _ _ _ _ _ hrow]; rfl
  have hk1 : w1.cell? ⟨w.heap.size, 1, none⟩ = some (.int .i64 lo) := by rw [cell_of_row _ _ _ _ _ _ hrow]; rfl
  have hk2 : w1.cell? ⟨w.heap.size, 2, none⟩ = some (.int .i64 hi) := by rw [cell_of_row _ _ _ _ _ _ hrow]; rfl
  clear hrow
  go_enter Tryz.func75, Tryz.ntmps75
  go_wp2
  go_ret
  exact ⟨rfl, hb1.out⟩

theorem lim_size : (Tryz.prog.info? 108).map (·.size) = some 3 := by kernel_rfl

/-- the limits that Check looks at, one after the other -/
def lims (c : Cfg) : Array Value := #[.int .i64 c.workers, .int .i64 1, .int .i64 64, .int .i64 c.cpus, .int .i64 1, .int .i64 8, .int .i64 c.pages, .int .i64 1, .int .i64 256,
  .int .i64 c.stripes, .int .i64 1, .int .i64 64, .int .i64 c.tries, .int .i64 0, .int .i64 16, .int .i64 c.wait, .int .i64 0, .int .i64 64, .int .i64 c.clock, .int .i64 1, .int .i64 1099511627776,
  .int .i64 c.priv, .int .i64 1, .int .i64 8, .int .i64 c.cache, .int .i64 0, .int .i64 8, .int .i64 c.bin, .int .i64 0, .int .i64 16, .int .i64 c.batch, .int .i64 1, .int .i64 8]
theorem lims_at {c : Cfg} (F : Fine c) (k : Nat) (hk : k < 11) : ∃ n lo hi : Int, lo ≤ n ∧ n ≤ hi ∧ (lims c)[k * 3]? = some (.int .i64 n) ∧ (lims c)[k * 3 + 1]? = some (.int .i64 lo) ∧ (lims c)[k * 3 + 2]? = some (.int .i64 hi) := by
  match k, hk with
  | 0, _ => exact ⟨_, _, _, F.workers.1, F.workers.2, rfl, rfl, rfl⟩
  | 1, _ => exact ⟨_, _, _, F.cpus.1, F.cpus.2, rfl, rfl, rfl⟩
  | 2, _ => exact ⟨_, _, _, F.pages.1, F.pages.2, rfl, rfl, rfl⟩
  | 3, _ => exact ⟨_, _, _, F.stripes.1, F.stripes.2, rfl, rfl, rfl⟩
  | 4, _ => exact ⟨_, _, _, F.tries.1, F.tries.2, rfl, rfl, rfl⟩
  | 5, _ => exact ⟨_, _, _, F.wait.1, F.wait.2, rfl, rfl, rfl⟩
  | 6, _ => exact ⟨_, _, _, F.clock.1, F.clock.2, rfl, rfl, rfl⟩
  | 7, _ => exact ⟨_, _, _, F.priv.1, F.priv.2, rfl, rfl, rfl⟩
  | 8, _ => exact ⟨_, _, _, F.cache.1, F.cache.2, rfl, rfl, rfl⟩
  | 9, _ => exact ⟨_, _, _, F.bin.1, F.bin.2, rfl, rfl, rfl⟩
  | 10, _ => exact ⟨_, _, _, F.batch.1, F.batch.2, rfl, rfl, rfl⟩

set_option maxRecDepth 100000 in
set_option maxHeartbeats 4000000 in
theorem check_of (c : Cfg) (w : World) (F : Fine c) :
    Calls Tryz.prog 58 #[.agg (cfg c)] w fun e w' => e = .returned (.int .i64 0) ∧ Below w.heap.size w w' := by
  obtain ⟨w1, hw1⟩ : ∃ w1, w.alloc (.cells (cfg c) 23) = w1 := ⟨_, rfl⟩
  have hrow : w1.heap[w.heap.size]? = some (.cells (cfg c) 23 (0, 0)) := by rw [← hw1]; exact new_row _ _ _
  have hb1 : Hid (Below w.heap.size w w1) := by rw [← hw1]; exact (Below.refl _ _).alloc (Nat.le_refl _) _
  have hk0 : w1.cell? ⟨w.heap.size, 0, none⟩ = some (.int .i64 c.workers) := by rw [cell_of_row _ _ _ _ _ _ hrow]; rfl
  have hk1 : w1.cell? ⟨w.heap.size, 1, none⟩ = some (.int .i64 c.cpus) := by rw [cell_of_row _ _ _ _ _ _ hrow]; rfl
  have hk2 : w1.cell? ⟨w.heap.size, 2, none⟩ = some (.int .i64 c.pages) := by rw [cell_of_row _ _ _ _ _ _ hrow]; rfl
  have hk3 : w1.cell? ⟨w.heap.size, 3, none⟩ = some (.int .i64 c.stripes) := by rw [cell_of_row _ _ _ _ _ _ hrow]; rfl
  have hk4 : w1.cell? ⟨w.heap.size, 4, none⟩ = some (.int .i64 c.tries) := by rw [cell_of_row _ _ _ _ _ _ hrow]; rfl
  have hk5 : w1.cell? ⟨w.heap.size, 5, none⟩ = some (.int .i64 c.wait) := by rw [cell_of_row _ _ _ _ _ _ hrow]; rfl
  have hk6 : w1.cell? ⟨w.heap.size, 6, none⟩ = some (.int .i64 c.clock) := by rw [cell_of_row _ _ _ _ _ _ hrow]; rfl
  have hk7 : w1.cell? ⟨w.heap.size, 7, none⟩ = some (.int .i64 c.priv) := by rw [cell_of_row _ _ _ _ _ _ hrow]; rfl
  have hk8 : w1.cell? ⟨w.heap.size, 8, none⟩ = some (.int .i64 c.cache) := by rw [cell_of_row _ _ _ _ _ _ hrow]; rfl
  have hk9 : w1.cell? ⟨w.heap.size, 9, none⟩ = some (.int .i64 c.bin) := by rw [cell_of_row _ _ _ _ _ _ hrow]; rfl
  have hk10 : w1.cell? ⟨w.heap.size, 10, none⟩ = some (.int .i64 c.batch) := by rw [cell_of_row _ _ _ _ _ _ hrow]; rfl
  clear hrow
  obtain ⟨w2, hw2⟩ : ∃ w2, w1.alloc (.cells #[.int .i64 c.workers, .int .i64 1, .int .i64 64, .int .i64 c.cpus, .int .i64 1, .int .i64 8, .int .i64 c.pages, .int .i64 1, .int .i64 256,
    .int .i64 c.stripes, .int .i64 1, .int .i64 64, .int .i64 c.tries, .int .i64 0, .int .i64 16, .int .i64 c.wait, .int .i64 0, .int .i64 64, .int .i64 c.clock, .int .i64 1, .int .i64 1099511627776,
    .int .i64 c.priv, .int .i64 1, .int .i64 8, .int .i64 c.cache, .int .i64 0, .int .i64 8, .int .i64 c.bin, .int .i64 0, .int .i64 16, .int .i64 c.batch, .int .i64 1, .int .i64 8] 108) = w2 := ⟨_, rfl⟩
  have hb2 : Hid (Below w.heap.size w w2) := by rw [← hw2]; exact hb1.out.alloc (by rw [← hw1]; simp) _
  have hs2 : w2.heap.size = w1.heap.size + 1 := by rw [← hw2]; simp
  have hs1 : w1.heap.size = w.heap.size + 1 := by rw [← hw1]; simp
  have hL : Hid (w2.heap[w.heap.size + 1]? = some (.cells (lims c) 108 (0, 0))) := by rw [← hw2, ← hs1]; exact new_row _ _ _
  have FH := Lib.hid F
  clear F
  go_enter Tryz.func58, Tryz.ntmps58
  go_wp2
  go_loopw [40] (fun u40 wr => ∃ k : Nat, k ≤ 11 ∧ u40 = .int .i64 k ∧ Hid (Below w2.heap.size w2 wr)) (fun u40 _ => 11 - (intOf u40).toNat)
  case atStart => exact ⟨0, by omega, rfl, Below.refl _ _⟩
  case round =>
    obtain ⟨k, hk, rfl, HB⟩ := hrel
    have hsr := HB.out.size
    by_cases hlt : k < 11
    · obtain ⟨n, lo, hi, h1, h2, l0, l1, l2⟩ := lims_at FH.out k hlt
      have L0 := Lib.hid l0; have L1 := Lib.hid l1; have L2 := Lib.hid l2
      have hrL : Hid (wr.heap[w.heap.size + 1]? = some (.cells (lims c) 108 (0, 0))) := by rw [Hid, HB.out.block _ (by omega)]; exact hL.out
      clear l0 l1 l2 hk0 hk1 hk2 hk3 hk4 hk5 hk6 hk7 hk8 hk9 hk10
      obtain ⟨w3, hw3⟩ : ∃ w3, wr.alloc (.cells #[.int .i64 0, .int .i64 0, .int .i64 0] 108) = w3 := ⟨_, rfl⟩
      have hs3 : w3.heap.size = wr.heap.size + 1 := by rw [← hw3]; simp
      have hb3 : Hid (Below w2.heap.size w2 w3) := by rw [← hw3]; exact HB.out.alloc (by omega) _
      have hn3 : Hid (w3.heap[wr.heap.size]? = some (.cells #[.int .i64 0, .int .i64 0, .int .i64 0] 108 (0, 0))) := by rw [← hw3]; exact new_row _ _ _
      have hn4 : Hid ((w3.setRow wr.heap.size #[.int .i64 n, .int .i64 lo, .int .i64 hi]).heap[wr.heap.size]? = some (.cells #[.int .i64 n, .int .i64 lo, .int .i64 hi] 108 (0, 0))) := setRow_same hn3.out
      have hb4 : Hid (Below w2.heap.size w2 (w3.setRow wr.heap.size #[.int .i64 n, .int .i64 lo, .int .i64 hi])) := setRow_below hb3.out hsr _
      go_wp2_with (first
        | (refine wpList_load_mid rfl 108 _ rfl (w.heap.size + 1) (k * 3) (by first | rfl | simp) [.int .i64 n, .int .i64 lo, .int .i64 hi] _ ?r1 Tryz.underlying108 rfl lim_size ?r3)
        | (refine wpList_store_row rfl 108 _ _ rfl wr.heap.size #[.int .i64 n, .int .i64 lo, .int .i64 hi] rfl rfl 108 #[.int .i64 0, .int .i64 0, .int .i64 0] hn3.out lim_size rfl (by simp [Value.oneCell']) ?s3)
        | (refine wpList_load_row rfl 108 _ rfl wr.heap.size rfl 108 #[.int .i64 n, .int .i64 lo, .int .i64 hi] (0, 0) _ hn4.out Tryz.underlying108 rfl lim_size ?l1)
        | (go_at_call 75; refine (holds_of n lo hi _ h1 h2).mono ?_; rintro e w5 ⟨rfl, hb5⟩))
      case r1 =>
        refine row_range hrL.out (k * 3) _ ?_
        rintro (_ | _ | _ | j) v hv <;> simp at hv
        · subst hv; exact L0.out
        · subst hv; exact L1.out
        · subst hv; exact L2.out
      go_roundw
      case rel => exact ⟨k + 1, by omega, by go_num, hb4.out.trans (hb5.mono hb4.out.size)⟩
      case measure => simp [intOf]; omega
    · obtain rfl : k = 11 := by omega
      go_wp2
      go_ret
      exact ⟨rfl, hb2.out.trans (HB.out.mono (by omega))⟩

end Chk
end Go.Proofs.YthojgahcpkdemaaGreat

namespace Go.Proofs.YthojgahcpkdemaaGreat
open Go.RowKit Go.Bas
open Lay RefLay Chk
namespace Of

/-- how many words each part has; where the next one may begin; where it begins -/
def size (c : Cfg) : Nat → Int
  | 0 => (c.pages + 3) / 4 | 1 => c.pages | 2 => c.pages | 3 => c.pages | 4 => c.pages | 5 => c.pages | 6 => 62 | 7 => c.cpus * 5 * (c.cache + 1) | 8 => 5 * (c.bin + 1) | 9 => c.pages * 32 | 10 => c.pages * 32 | _ => 0
def up (p : Nat) (a : Int) : Int := if p = 10 then (a + 127) / 128 * 128 else a
def start (c : Cfg) : Nat → Int
  | 0 => 3 + c.stripes
  | p + 1 => up p (start c p) + size c p
def place (c : Cfg) (p : Nat) : Int := up p (start c p)
def num (b : Bool) (x : Int) : Int := if b then x else 0
def part (c : Cfg) (p : Nat) : At := ⟨num (0 < p) (place c 0), num (1 < p) (place c 1), num (2 < p) (place c 2), num (3 < p) (place c 3), num (4 < p) (place c 4), num (5 < p) (place c 5), num (6 < p) (place c 6),
  num (7 < p) (place c 7), num (8 < p) (place c 8), num (9 < p) (place c 9), num (10 < p) (place c 10), 0⟩
def row1 (c : Cfg) (k : Nat) : Array Value := #[.int .i64 (size c 0), .int .i64 (num (0 < k) c.pages), .int .i64 (num (1 < k) c.pages), .int .i64 (num (2 < k) c.pages), .int .i64 (num (3 < k) c.pages), .int .i64 (num (4 < k) c.pages),
  .int .i64 0, .int .i64 0, .int .i64 0, .int .i64 0, .int .i64 0, .int .i64 0]
def row2 (c : Cfg) : Array Value := #[.int .i64 (size c 0), .int .i64 (size c 1), .int .i64 (size c 2), .int .i64 (size c 3), .int .i64 (size c 4), .int .i64 (size c 5), .int .i64 (size c 6), .int .i64 (size c 7), .int .i64 (size c 8), .int .i64 (size c 9), .int .i64 (size c 10), .int .i64 0]

theorem row1_next (c : Cfg) (k : Nat) (h : k < 5) : (row1 c k).setIfInBounds (k + 1) (.int .i64 c.pages) = row1 c (k + 1) := by
  match k, h with
  | 0, _ | 1, _ | 2, _ | 3, _ | 4, _ => rfl
theorem row1_at (c : Cfg) (k : Nat) (h : k < 5) : (row1 c k)[k + 1]? = some (.int .i64 0) := by
  match k, h with
  | 0, _ | 1, _ | 2, _ | 3, _ | 4, _ => rfl
theorem part_next (c : Cfg) (p : Nat) (h : p < 11) : (lay c (part c p)).setIfInBounds (11 + p) (.int .i64 (place c p)) = lay c (part c (p + 1)) := by
  match p, h with
  | 0, _ | 1, _ | 2, _ | 3, _ | 4, _ | 5, _ | 6, _ | 7, _ | 8, _ | 9, _ | 10, _ => rfl
theorem part_at (c : Cfg) (p : Nat) (h : p < 11) : (lay c (part c p))[11 + p]? = some (.int .i64 0) := by
  match p, h with
  | 0, _ | 1, _ | 2, _ | 3, _ | 4, _ | 5, _ | 6, _ | 7, _ | 8, _ | 9, _ | 10, _ => rfl
theorem row2_at (c : Cfg) (p : Nat) (h : p < 11) : (row2 c)[p]? = some (.int .i64 (size c p)) := by
  match p, h with
  | 0, _ | 1, _ | 2, _ | 3, _ | 4, _ | 5, _ | 6, _ | 7, _ | 8, _ | 9, _ | 10, _ => rfl

theorem cch_in' {c : Cfg} (F : Fine c) : 0 ≤ c.cpus * 5 * (c.cache + 1) ∧ c.cpus * 5 * (c.cache + 1) ≤ 360 := by
  have := cch_in F
  unfold cch at this
  rwa [Int.mul_comm 5 c.cpus] at this
theorem size_in {c : Cfg} (F : Fine c) (p : Nat) : 0 ≤ size c p ∧ size c p ≤ 10000 := by
  have h := cch_in' F; have := F.pages; have := F.bin
  unfold size; split <;> omega
theorem up_in {p : Nat} {a : Int} (h : 0 ≤ a) : a ≤ up p a ∧ up p a ≤ a + 127 := by unfold up; split <;> omega
theorem start_in {c : Cfg} (F : Fine c) : ∀ p : Nat, 0 ≤ start c p ∧ start c p ≤ 100 + p * 20000
  | 0 => by have := F.stripes; unfold start; omega
  | p + 1 => by
    have h := start_in F p; have := size_in F p; have := @up_in p _ h.1
    unfold start; omega
theorem place_in {c : Cfg} (F : Fine c) (p : Nat) : 0 ≤ place c p ∧ place c p ≤ 300 + p * 20000 := by
  have h := start_in F p; have := @up_in p _ h.1
  unfold place; omega

/-- where everything stands -/
def places (c : Cfg) : At := ⟨place c 0, place c 1, place c 2, place c 3, place c 4, place c 5, place c 6, place c 7, place c 8, place c 9, place c 10, start c 11⟩
theorem places_words {c : Cfg} : (places c).a11 = words c := by
  show start c 11 = words c
  have e : c.cpus * 5 * (c.cache + 1) = 5 * c.cpus * (c.cache + 1) := by rw [Int.mul_comm 5 c.cpus]
  simp [start, up, size, words, user, live, bins, caches, heads, table, RefLay.chunks, cch, e]
  omega
theorem part_end (c : Cfg) : (lay c (part c 11)).setIfInBounds 22 (.int .i64 (start c 11)) = lay c (places c) := rfl

theorem chunks_fn (p : Int) (w : World) (h : 0 ≤ p ∧ p ≤ 1000000) :
    Calls Tryz.prog 59 #[.int .i64 p] w fun e w' => e = .returned (.int .i64 ((p + 3) / 4)) ∧ w' = w := by
  go_enter Tryz.func59, Tryz.ntmps59
  go_wp2
  go_ret
  refine ⟨?_, rfl⟩
  simp
  omega

set_option maxRecDepth 100000 in
theorem built_lay (c : Cfg) : Tryz.prog.built 29 [(0, .agg (cfg c))] = some (lay c (part c 0)) := by kernel_rfl

set_option maxRecDepth 100000 in
set_option maxHeartbeats 600000 in
theorem of_of (c : Cfg) (w : World) (F : Fine c) :
    Calls Tryz.prog 33 #[.agg (cfg c)] w fun e w' => e = .returned (.tuple #[.agg (lay c (places c)), .int .i64 0]) ∧ Below w.heap.size w w' := by
  obtain ⟨w1, hw1⟩ : ∃ w1, w.alloc (.cells (cfg c) 23) = w1 := ⟨_, rfl⟩
  have hrow : Hid (w1.heap[w.heap.size]? = some (.cells (cfg c) 23 (0, 0))) := by rw [← hw1]; exact new_row _ _ _
  have hb1 : Hid (Below w.heap.size w w1) := by rw [← hw1]; exact (Below.refl _ _).alloc (Nat.le_refl _) _
  have hs1 : w1.heap.size = w.heap.size + 1 := by rw [← hw1]; simp
  have FH := Lib.hid F
  obtain ⟨w2, hw2⟩ : ∃ w2, w1.alloc (.cells #[.int .i64 0, .int .i64 0, .int .i64 0, .int .i64 0, .int .i64 0, .int .i64 0, .int .i64 0, .int .i64 0, .int .i64 0, .int .i64 0, .int .i64 0, .int .i64 0, .int .i64 0, .int .i64 0, .int .i64 0, .int .i64 0, .int .i64 0, .int .i64 0, .int .i64 0, .int .i64 0, .int .i64 0, .int .i64 0, .int .i64 0] 29) = w2 := ⟨_, rfl⟩
  have hb2 : Hid (Below w.heap.size w w2) := by rw [← hw2]; exact hb1.out.alloc (by omega) _
  have hs2 : w2.heap.size = w.heap.size + 2 := by rw [← hw2]; simp; omega
  have hrow2 : Hid (w2.heap[w.heap.size]? = some (.cells (cfg c) 23 (0, 0))) := by rw [← hw2, Hid, alloc_heap _ _ _ (by omega)]; exact hrow.out
  have hz2 : Hid (w2.heap[w.heap.size + 1]? = some (.cells #[.int .i64 0, .int .i64 0, .int .i64 0, .int .i64 0, .int .i64 0, .int .i64 0, .int .i64 0, .int .i64 0, .int .i64 0, .int .i64 0, .int .i64 0, .int .i64 0, .int .i64 0, .int .i64 0, .int .i64 0, .int .i64 0, .int .i64 0, .int .i64 0, .int .i64 0, .int .i64 0, .int .i64 0, .int .i64 0, .int .i64 0] 29 (0, 0))) := by rw [← hw2, ← hs1]; exact new_row _ _ _
  go_enter Tryz.func33, Tryz.ntmps33
  go_upto_region 4 with (first
    | (refine wpList_load_row rfl 23 _ rfl w.heap.size rfl 23 (cfg c) (0, 0) _ hrow2.out Tryz.underlying23 rfl (cfg_size c) ?_)
    | (go_at_call 58; refine (check_of c _ FH.out).mono ?_; rintro e w3 ⟨rfl, hb3⟩))
  have hs3 := hb3.size
  have HB3 := Lib.hid (hb2.out.trans (hb3.mono (by omega)))
  have hrow3 : Hid (w3.heap[w.heap.size]? = some (.cells (cfg c) 23 (0, 0))) := by rw [Hid, hb3.block _ (by omega)]; exact hrow2.out
  have hz3 : Hid (w3.heap[w.heap.size + 1]? = some (.cells #[.int .i64 0, .int .i64 0, .int .i64 0, .int .i64 0, .int .i64 0, .int .i64 0, .int .i64 0, .int .i64 0, .int .i64 0, .int .i64 0, .int .i64 0, .int .i64 0, .int .i64 0, .int .i64 0, .int .i64 0, .int .i64 0, .int .i64 0, .int .i64 0, .int .i64 0, .int .i64 0, .int .i64 0, .int .i64 0, .int .i64 0] 29 (0, 0))) := by rw [Hid, hb3.block _ (by omega)]; exact hz2.out
  clear hb3 hw2 hb2 hrow2 hz2 hw1 hb1 hrow hs1
  obtain ⟨b, hb⟩ : ∃ b, w3.heap.size = b := ⟨_, rfl⟩
  rw [hb, hs2] at hs3
  clear hs2
  obtain ⟨w4, hw4⟩ : ∃ w4, w3.alloc (.cells #[.int .i64 0, .int .i64 0, .int .i64 0, .int .i64 0, .int .i64 0, .int .i64 0, .int .i64 0, .int .i64 0, .int .i64 0, .int .i64 0, .int .i64 0, .int .i64 0, .int .i64 0, .int .i64 0, .int .i64 0, .int .i64 0, .int .i64 0, .int .i64 0, .int .i64 0, .int .i64 0, .int .i64 0, .int .i64 0, .int .i64 0] 29) = w4 := ⟨_, rfl⟩
  have hs4 : w4.heap.size = b + 1 := by rw [← hw4, ← hb]; simp
  have hl4 : Hid (w4.heap[b]? = some (.cells #[.int .i64 0, .int .i64 0, .int .i64 0, .int .i64 0, .int .i64 0, .int .i64 0, .int .i64 0, .int .i64 0, .int .i64 0, .int .i64 0, .int .i64 0, .int .i64 0, .int .i64 0, .int .i64 0, .int .i64 0, .int .i64 0, .int .i64 0, .int .i64 0, .int .i64 0, .int .i64 0, .int .i64 0, .int .i64 0, .int .i64 0] 29 (0, 0))) := by rw [← hw4, ← hb]; exact new_row _ _ _
  have ho4 : Hid (∀ k, k < b → w4.heap[k]? = w3.heap[k]?) := fun k hk => by rw [← hw4]; exact alloc_heap _ _ _ (by omega)
  have hb4 : Hid (Below w.heap.size w w4) := by rw [← hw4]; exact HB3.out.alloc (by omega) _
  clear HB3
  go_upto_region 5 with (first
    | (refine wpList_load_row rfl 23 _ rfl w.heap.size rfl 23 (cfg c) (0, 0) _ hrow3.out Tryz.underlying23 rfl (cfg_size c) ?_)
    | (refine wpList_built rfl 29 _ rfl [(0, .agg (cfg c))] rfl (lay c (part c 0)) (built_lay c) ?_)
    | (refine wpList_store_row rfl 29 _ _ rfl b (lay c (part c 0)) rfl rfl 29 #[.int .i64 0, .int .i64 0, .int .i64 0, .int .i64 0, .int .i64 0, .int .i64 0, .int .i64 0, .int .i64 0, .int .i64 0, .int .i64 0, .int .i64 0, .int .i64 0, .int .i64 0, .int .i64 0, .int .i64 0, .int .i64 0, .int .i64 0, .int .i64 0, .int .i64 0, .int .i64 0, .int .i64 0, .int .i64 0, .int .i64 0] hl4.out (lay_size _ _) rfl (lay_one _ _) ?_))
  obtain ⟨w5, hw5⟩ : ∃ w5, w4.setRow b (lay c (part c 0)) = w5 := ⟨_, rfl⟩
  have hs5 : w5.heap.size = b + 1 := by rw [← hw5, setRow_size]; exact hs4
  have hl5 : Hid (w5.heap[b]? = some (.cells (lay c (part c 0)) 29 (0, 0))) := by rw [← hw5]; exact setRow_same hl4.out
  have ho5 : Hid (∀ k, k < b → w5.heap[k]? = w3.heap[k]?) := fun k hk => by rw [← hw5, setRow_other _ _ _ _ (by omega)]; exact ho4.out k hk
  have hb5 : Hid (Below w.heap.size w w5) := by rw [← hw5]; exact setRow_below hb4.out (by omega) _
  rw [hw5]
  clear hw5 hw4 hs4 hl4 ho4 hb4
  obtain ⟨w6, hw6⟩ : ∃ w6, w5.alloc (.cells #[.int .i64 0, .int .i64 0, .int .i64 0, .int .i64 0, .int .i64 0, .int .i64 0, .int .i64 0, .int .i64 0, .int .i64 0, .int .i64 0, .int .i64 0, .int .i64 0] 27) = w6 := ⟨_, rfl⟩
  have hs6 : w6.heap.size = b + 2 := by rw [← hw6]; simp; omega
  have hS6 : Hid (w6.heap[b + 1]? = some (.cells #[.int .i64 0, .int .i64 0, .int .i64 0, .int .i64 0, .int .i64 0, .int .i64 0, .int .i64 0, .int .i64 0, .int .i64 0, .int .i64 0, .int .i64 0, .int .i64 0] 27 (0, 0))) := by rw [← hw6, ← hs5]; exact new_row _ _ _
  have hl6 : Hid (w6.heap[b]? = some (.cells (lay c (part c 0)) 29 (0, 0))) := by rw [← hw6, Hid, alloc_heap _ _ _ (by omega)]; exact hl5.out
  have hc6 : Hid (w6.heap[w.heap.size]? = some (.cells (cfg c) 23 (0, 0))) := by rw [← hw6, Hid, alloc_heap _ _ _ (by omega), ho5.out _ (by omega)]; exact hrow3.out
  have hz6 : Hid (w6.heap[w.heap.size + 1]? = some (.cells #[.int .i64 0, .int .i64 0, .int .i64 0, .int .i64 0, .int .i64 0, .int .i64 0, .int .i64 0, .int .i64 0, .int .i64 0, .int .i64 0, .int .i64 0, .int .i64 0, .int .i64 0, .int .i64 0, .int .i64 0, .int .i64 0, .int .i64 0, .int .i64 0, .int .i64 0, .int .i64 0, .int .i64 0, .int .i64 0, .int .i64 0] 29 (0, 0))) := by rw [← hw6, Hid, alloc_heap _ _ _ (by omega), ho5.out _ (by omega)]; exact hz3.out
  have hb6 : Hid (Below w.heap.size w w6) := by rw [← hw6]; exact hb5.out.alloc (by omega) _
  clear hl5 ho5 hb5 hrow3 hz3
  have hp := FH.out.pages
  go_upto_region 6 with fail
  clear hw6 hs5
  have hk1 : w6.cell? ⟨w.heap.size, 1, none⟩ = some (.int .i64 c.cpus) := by rw [cell_of_row _ _ _ _ _ _ hc6.out]; rfl
  have hk2 : w6.cell? ⟨w.heap.size, 2, none⟩ = some (.int .i64 c.pages) := by rw [cell_of_row _ _ _ _ _ _ hc6.out]; rfl
  have hk3 : w6.cell? ⟨w.heap.size, 3, none⟩ = some (.int .i64 c.stripes) := by rw [cell_of_row _ _ _ _ _ _ hc6.out]; rfl
  have hk8 : w6.cell? ⟨w.heap.size, 8, none⟩ = some (.int .i64 c.cache) := by rw [cell_of_row _ _ _ _ _ _ hc6.out]; rfl
  have hk9 : w6.cell? ⟨w.heap.size, 9, none⟩ = some (.int .i64 c.bin) := by rw [cell_of_row _ _ _ _ _ _ hc6.out]; rfl
  have q1 : ∀ j, w6.cell? ⟨b + 1, j, none⟩ = (#[.int .i64 0, .int .i64 0, .int .i64 0, .int .i64 0, .int .i64 0, .int .i64 0, .int .i64 0, .int .i64 0, .int .i64 0, .int .i64 0, .int .i64 0, .int .i64 0] : Array Value)[j]? := fun j => cell_of_row _ _ _ _ _ _ hS6.out
  have q2 : ∀ i v, w6.setCell ⟨b + 1, i, none⟩ v = w6.setRow (b + 1) ((#[.int .i64 0, .int .i64 0, .int .i64 0, .int .i64 0, .int .i64 0, .int .i64 0, .int .i64 0, .int .i64 0, .int .i64 0, .int .i64 0, .int .i64 0, .int .i64 0] : Array Value).setIfInBounds i v) := fun i v => setCell_row hS6.out
  have q3 : ∀ j, w6.frozen? ⟨b + 1, j, none⟩ = false := fun j => row_frozen hS6.out j
  obtain ⟨w7, hw7⟩ : ∃ w7, (w6.setRow (b + 1) #[.int .i64 ((c.pages + 3) / 4), .int .i64 0, .int .i64 0, .int .i64 0, .int .i64 0, .int .i64 0, .int .i64 0, .int .i64 0, .int .i64 0, .int .i64 0, .int .i64 0, .int .i64 0]).alloc (.cells #[.int .i64 1, .int .i64 2, .int .i64 3, .int .i64 4, .int .i64 5] 3) = w7 := ⟨_, rfl⟩
  have hs7 : w7.heap.size = b + 3 := by rw [← hw7]; simp [setRow_size]; omega
  have hS7 : Hid (w7.heap[b + 1]? = some (.cells (row1 c 0) 27 (0, 0))) := by rw [← hw7, Hid, alloc_heap _ _ _ (by rw [setRow_size]; omega)]; exact setRow_same hS6.out
  have hA7 : Hid (w7.heap[b + 2]? = some (.cells #[.int .i64 1, .int .i64 2, .int .i64 3, .int .i64 4, .int .i64 5] 3 (0, 0))) := by
    rw [← hw7]
    have := new_row (w6.setRow (b + 1) #[.int .i64 ((c.pages + 3) / 4), .int .i64 0, .int .i64 0, .int .i64 0, .int .i64 0, .int .i64 0, .int .i64 0, .int .i64 0, .int .i64 0, .int .i64 0, .int .i64 0, .int .i64 0]) #[.int .i64 1, .int .i64 2, .int .i64 3, .int .i64 4, .int .i64 5] 3
    rwa [setRow_size, hs6] at this
  have ho7 : Hid (∀ k, k < b + 1 → w7.heap[k]? = w6.heap[k]?) := fun k hk => by rw [← hw7, alloc_heap _ _ _ (by rw [setRow_size]; omega), setRow_other _ _ _ _ (by omega)]
  have hl7 : Hid (w7.heap[b]? = some (.cells (lay c (part c 0)) 29 (0, 0))) := by rw [Hid, ho7.out _ (by omega)]; exact hl6.out
  have hc7 : Hid (w7.heap[w.heap.size]? = some (.cells (cfg c) 23 (0, 0))) := by rw [Hid, ho7.out _ (by omega)]; exact hc6.out
  have hz7 : Hid (w7.heap[w.heap.size + 1]? = some (.cells #[.int .i64 0, .int .i64 0, .int .i64 0, .int .i64 0, .int .i64 0, .int .i64 0, .int .i64 0, .int .i64 0, .int .i64 0, .int .i64 0, .int .i64 0, .int .i64 0, .int .i64 0, .int .i64 0, .int .i64 0, .int .i64 0, .int .i64 0, .int .i64 0, .int .i64 0, .int .i64 0, .int .i64 0, .int .i64 0, .int .i64 0] 29 (0, 0))) := by rw [Hid, ho7.out _ (by omega)]; exact hz6.out
  have hb7 : Hid (Below w.heap.size w w7) := by rw [← hw7]; exact (setRow_below hb6.out (by omega) _).alloc (by rw [setRow_size]; omega) _
  go_wp2_with (go_at_call 59; refine (chunks_fn c.pages _ (by omega)).mono ?_; rintro e w6 ⟨rfl, rfl⟩)
  clear hw7 q1 q2 q3 hk1 hk2 hk3 hk8 hk9 ho7 hl6 hc6 hz6 hb6 hS6 hs6
  have hk1 : ∀ cs, (w7.setRow (b + 1) cs).cell? ⟨w.heap.size, 1, none⟩ = some (.int .i64 c.cpus) := fun cs => by rw [setRow_cell_other _ _ _ _ _ (by omega), cell_of_row _ _ _ _ _ _ hc7.out]; rfl
  have hk2 : ∀ cs, (w7.setRow (b + 1) cs).cell? ⟨w.heap.size, 2, none⟩ = some (.int .i64 c.pages) := fun cs => by rw [setRow_cell_other _ _ _ _ _ (by omega), cell_of_row _ _ _ _ _ _ hc7.out]; rfl
  have hk3 : ∀ cs, (w7.setRow (b + 1) cs).cell? ⟨w.heap.size, 3, none⟩ = some (.int .i64 c.stripes) := fun cs => by rw [setRow_cell_other _ _ _ _ _ (by omega), cell_of_row _ _ _ _ _ _ hc7.out]; rfl
  have hk8 : ∀ cs, (w7.setRow (b + 1) cs).cell? ⟨w.heap.size, 8, none⟩ = some (.int .i64 c.cache) := fun cs => by rw [setRow_cell_other _ _ _ _ _ (by omega), cell_of_row _ _ _ _ _ _ hc7.out]; rfl
  have hk9 : ∀ cs, (w7.setRow (b + 1) cs).cell? ⟨w.heap.size, 9, none⟩ = some (.int .i64 c.bin) := fun cs => by rw [setRow_cell_other _ _ _ _ _ (by omega), cell_of_row _ _ _ _ _ _ hc7.out]; rfl
  have r1 : ∀ cs j, (w7.setRow (b + 1) cs).cell? ⟨b + 1, j, none⟩ = cs[j]? := fun cs j => setRow_cell hS7.out cs j
  have r2 : ∀ cs i v, (w7.setRow (b + 1) cs).setCell ⟨b + 1, i, none⟩ v = w7.setRow (b + 1) (cs.setIfInBounds i v) := fun cs i v => setRow_setCell hS7.out cs i v
  have r3 : ∀ cs j, (w7.setRow (b + 1) cs).frozen? ⟨b + 1, j, none⟩ = false := fun cs j => row_frozen (setRow_same hS7.out) j
  have hA : Hid (∀ cs k, k < 5 → (w7.setRow (b + 1) cs).cell? ⟨b + 2, k, none⟩ = some (.int .i64 (k + 1))) := by
    intro cs k hk
    rw [setRow_cell_other _ _ _ _ _ (by omega), cell_of_row _ _ _ _ _ _ hA7.out]
    match k, hk with
    | 0, _ | 1, _ | 2, _ | 3, _ | 4, _ => rfl
  go_loopw [25] (fun u25 wr => ∃ k : Nat, k ≤ 5 ∧ u25 = .int .i64 k ∧ wr = w7.setRow (b + 1) (row1 c k)) (fun u25 _ => 5 - (intOf u25).toNat)
  case atStart => exact ⟨0, by omega, rfl, (setRow_is hS7.out).symm⟩
  case round =>
    obtain ⟨k, hk, rfl, rfl⟩ := hrel
    by_cases hlt : k < 5
    · have g1 := row1_at c k hlt
      have g2 := row1_next c k hlt
      have g3 := hA.out (row1 c k) k hlt
      go_wp2
      go_roundw
      case rel => exact ⟨k + 1, by omega, by go_num, rfl⟩
      case measure => simp [intOf]; omega
    · obtain rfl : k = 5 := by omega
      have g5 : row1 c 5 = #[.int .i64 ((c.pages + 3) / 4), .int .i64 c.pages, .int .i64 c.pages, .int .i64 c.pages, .int .i64 c.pages, .int .i64 c.pages, .int .i64 0, .int .i64 0, .int .i64 0, .int .i64 0, .int .i64 0, .int .i64 0] := rfl
      have p1 := FH.out.cpus; have p3 := FH.out.stripes; have p8 := FH.out.cache; have p9 := FH.out.bin; have pc := cch_in' FH.out
      obtain ⟨w8, hw8⟩ : ∃ w8, w7.setRow (b + 1) #[.int .i64 ((c.pages + 3) / 4), .int .i64 c.pages, .int .i64 c.pages, .int .i64 c.pages, .int .i64 c.pages, .int .i64 c.pages, .int .i64 62, .int .i64 (c.cpus * 5 * (c.cache + 1)), .int .i64 (5 * (c.bin + 1)), .int .i64 (c.pages * 32), .int .i64 (c.pages * 32), .int .i64 0] = w8 := ⟨_, rfl⟩
      have hS8 : Hid (w8.heap[b + 1]? = some (.cells (row2 c) 27 (0, 0))) := by rw [← hw8]; exact setRow_same hS7.out
      have hl8 : Hid (w8.heap[b]? = some (.cells (lay c (part c 0)) 29 (0, 0))) := by rw [← hw8, Hid, setRow_other _ _ _ _ (by omega)]; exact hl7.out
      have hz8 : Hid (w8.heap[w.heap.size + 1]? = some (.cells #[.int .i64 0, .int .i64 0, .int .i64 0, .int .i64 0, .int .i64 0, .int .i64 0, .int .i64 0, .int .i64 0, .int .i64 0, .int .i64 0, .int .i64 0, .int .i64 0, .int .i64 0, .int .i64 0, .int .i64 0, .int .i64 0, .int .i64 0, .int .i64 0, .int .i64 0, .int .i64 0, .int .i64 0, .int .i64 0, .int .i64 0] 29 (0, 0))) := by rw [← hw8, Hid, setRow_other _ _ _ _ (by omega)]; exact hz7.out
      have hb8 : Hid (Below w.heap.size w w8) := by rw [← hw8]; exact setRow_below hb7.out (by omega) _
      have hq3 : w8.cell? ⟨w.heap.size, 3, none⟩ = some (.int .i64 c.stripes) := by rw [← hw8]; exact hk3 _
      go_wp2
      clear hw8 hq3 r1 r2 r3 hA hk1 hk2 hk3 hk8 hk9 g5
      have r1 : ∀ cs j, (w8.setRow b cs).cell? ⟨b, j, none⟩ = cs[j]? := fun cs j => setRow_cell hl8.out cs j
      have r2 : ∀ cs i v, (w8.setRow b cs).setCell ⟨b, i, none⟩ v = w8.setRow b (cs.setIfInBounds i v) := fun cs i v => setRow_setCell hl8.out cs i v
      have r3 : ∀ cs j, (w8.setRow b cs).frozen? ⟨b, j, none⟩ = false := fun cs j => row_frozen (setRow_same hl8.out) j
      have r4 : ∀ cs j, (w8.setRow b cs).cell? ⟨b + 1, j, none⟩ = (row2 c)[j]? := fun cs j => by rw [setRow_cell_other _ _ _ _ _ (by omega), cell_of_row _ _ _ _ _ _ hS8.out]
      go_loopw [9, 59] (fun u9 u59 wr => ∃ p : Nat, p ≤ 11 ∧ u59 = .int .i64 p ∧ u9 = .int .i64 (start c p) ∧ wr = w8.setRow b (lay c (part c p))) (fun _ u59 _ => 11 - (intOf u59).toNat)
      case atStart => exact ⟨0, by omega, rfl, rfl, (setRow_is hl8.out).symm⟩
      case round =>
        obtain ⟨p, hp11, rfl, rfl, rfl⟩ := hrel
        have b1 := start_in FH.out p
        have b2 := place_in FH.out p
        have b3 := size_in FH.out p
        by_cases hlt : p < 11
        · have g1 := part_at c p hlt
          have g2 := part_next c p hlt
          have g3 := row2_at c p hlt
          by_cases h10 : p = 10
          · have hpl : place c p = (start c p + 127) / 128 * 128 := by unfold place up; rw [if_pos h10]
            have hst : start c (p + 1) = place c p + size c p := rfl
            obtain ⟨x, hx⟩ : ∃ x, start c p = x := ⟨_, rfl⟩
            rw [hx] at b1 hpl ⊢
            clear hx
            subst h10
            go_wp2
            go_roundw
            case rel =>
              have e : (x + 128 - 1) / 128 * 128 = place c 10 := by rw [hpl]; omega
              refine ⟨11, by omega, rfl, ?_, ?_⟩
              · rw [e]; exact congrArg _ hst.symm
              · rw [e]; exact congrArg _ g2
            case measure => simp [intOf]
          · have hpl : place c p = start c p := by unfold place up; rw [if_neg h10]
            have hst : start c (p + 1) = start c p + size c p := by rw [← hpl]; rfl
            rw [hpl] at g2
            have h10' : ((p : Int) == 10) = false := by simp; omega
            go_wp2
            go_roundw
            case rel => exact ⟨p + 1, by omega, by go_num, by rw [hst], rfl⟩
            case measure => simp [intOf]; omega
        · obtain rfl : p = 11 := by omega
          have g1 : (lay c (part c 11))[22]? = some (.int .i64 0) := rfl
          have g2 := part_end c
          have hl9 : Hid ((w8.setRow b (lay c (places c))).heap[b]? = some (.cells (lay c (places c)) 29 (0, 0))) := setRow_same hl8.out
          have hz9 : Hid ((w8.setRow b (lay c (places c))).heap[w.heap.size + 1]? = some (.cells #[.int .i64 0, .int .i64 0, .int .i64 0, .int .i64 0, .int .i64 0, .int .i64 0, .int .i64 0, .int .i64 0, .int .i64 0, .int .i64 0, .int .i64 0, .int .i64 0, .int .i64 0, .int .i64 0, .int .i64 0, .int .i64 0, .int .i64 0, .int .i64 0, .int .i64 0, .int .i64 0, .int .i64 0, .int .i64 0, .int .i64 0] 29 (0, 0))) := by rw [Hid, setRow_other _ _ _ _ (by omega)]; exact hz8.out
          have hb9 : Hid (Below w.heap.size w (w8.setRow b (lay c (places c)))) := setRow_below hb8.out (by omega) _
          have hr9 : Hid (((w8.setRow b (lay c (places c))).setRow (w.heap.size + 1) (lay c (places c))).heap[w.heap.size + 1]? = some (.cells (lay c (places c)) 29 (0, 0))) := setRow_same hz9.out
          go_wp2_with (first
            | (refine wpList_load_row rfl 29 _ rfl b rfl 29 (lay c (places c)) (0, 0) _ hl9.out Tryz.underlying29 rfl (lay_size c _) ?_)
            | (refine wpList_store_row rfl 29 _ _ rfl (w.heap.size + 1) (lay c (places c)) rfl rfl 29 #[.int .i64 0, .int .i64 0, .int .i64 0, .int .i64 0, .int .i64 0, .int .i64 0, .int .i64 0, .int .i64 0, .int .i64 0, .int .i64 0, .int .i64 0, .int .i64 0, .int .i64 0, .int .i64 0, .int .i64 0, .int .i64 0, .int .i64 0, .int .i64 0, .int .i64 0, .int .i64 0, .int .i64 0, .int .i64 0, .int .i64 0] hz9.out (lay_size _ _) rfl (lay_one _ _) ?_))
          exact bodyPost_ret (results_row_tmp rfl _ _ (w.heap.size + 1) 29 (lay c (places c)) (0, 0) _ rfl hr9.out Tryz.underlying29 rfl (lay_size _ _)) rfl ⟨rfl, setRow_below hb9.out (by omega) _⟩

end Of
end Go.Proofs.YthojgahcpkdemaaGreat

namespace Go.Proofs.YthojgahcpkdemaaGreat
open Go.RowKit Go.Bas
open Lay RefLay
namespace Some_

/-- a number between two, of any one -/
def within (n lo hi : Int) : Int := lo + IntKind.u64.wrap n % (hi - lo + 1)
theorem within_in (n lo hi : Int) (h : lo ≤ hi) : lo ≤ within n lo hi ∧ within n lo hi ≤ hi := by
  have h1 := Int.emod_nonneg (IntKind.u64.wrap n) (b := hi - lo + 1) (by omega)
  have h2 := Int.emod_lt_of_pos (IntKind.u64.wrap n) (b := hi - lo + 1) (by omega)
  unfold within; omega

theorem within_of (n lo hi : Int) (w : World) (h0 : 0 ≤ lo) (h1 : lo ≤ hi) (h2 : hi ≤ 1099511627776) :
    Calls Tryz.prog 91 #[.int .i64 n, .int .i64 lo, .int .i64 hi] w fun e w' => e = .returned (.int .i64 (within n lo hi)) ∧ w' = w := by
  have hw := within_in n lo hi h1
  have n0 := Int.emod_nonneg (IntKind.u64.wrap n) (b := hi - lo + 1) (by omega)
  have n2 := Int.emod_lt_of_pos (IntKind.u64.wrap n) (b := hi - lo + 1) (by omega)
  unfold within at hw ⊢
  obtain ⟨u, hu⟩ : ∃ u, IntKind.u64.wrap n = u := ⟨_, rfl⟩
  have u0 : 0 ≤ u ∧ u ≤ 18446744073709551615 := by rw [← hu, IntKind.wrap_u64]; omega
  rw [hu] at hw n0 n2 ⊢
  obtain ⟨d, hd⟩ : ∃ d, hi - lo + 1 = d := ⟨_, rfl⟩
  rw [hd] at hw n0 n2 ⊢
  have d0 : 0 < d ∧ d ≤ 1099511627777 := by omega
  obtain ⟨r, hr⟩ : ∃ r, u % d = r := ⟨_, rfl⟩
  rw [hr] at hw n0 n2 ⊢
  have hr' : u.tmod d = r := by rw [Int.tmod_eq_emod_of_nonneg u0.1]; exact hr
  have HR := Lib.hid hr
  clear hr
  go_enter Tryz.func91, Tryz.ntmps91
  go_wp2
  go_ret
  exact ⟨rfl, rfl⟩

def some (c : Cfg) : Cfg := ⟨within c.workers 1 64, within c.cpus 1 8, within c.pages 1 256, within c.stripes 1 64, within c.tries 0 16, within c.wait 0 64, within c.clock 1 1099511627776, within c.priv 1 8, within c.cache 0 8, within c.bin 0 16, within c.batch 1 8⟩
theorem some_fine (c : Cfg) : Fine (some c) := ⟨within_in _ _ _ (by omega), within_in _ _ _ (by omega), within_in _ _ _ (by omega), within_in _ _ _ (by omega), within_in _ _ _ (by omega), within_in _ _ _ (by omega), within_in _ _ _ (by omega), within_in _ _ _ (by omega), within_in _ _ _ (by omega), within_in _ _ _ (by omega), within_in _ _ _ (by omega)⟩

set_option maxRecDepth 100000 in
set_option maxHeartbeats 4000000 in
theorem some_of (c : Cfg) (w : World) :
    Calls Tryz.prog 73 #[.agg (cfg c)] w fun e w' => e = .returned (.agg (cfg (some c))) ∧ Below w.heap.size w w' := by
  obtain ⟨w1, hw1⟩ : ∃ w1, w.alloc (.cells (cfg c) 23) = w1 := ⟨_, rfl⟩
  have hrow : Hid (w1.heap[w.heap.size]? = .some (.cells (cfg c) 23 (0, 0))) := by rw [← hw1]; exact new_row _ _ _
  have hb1 : Hid (Below w.heap.size w w1) := by rw [← hw1]; exact (Below.refl _ _).alloc (Nat.le_refl _) _
  have hs1 : w1.heap.size = w.heap.size + 1 := by rw [← hw1]; simp
  obtain ⟨w2, hw2⟩ : ∃ w2, w1.alloc (.cells #[.int .i64 0, .int .i64 0, .int .i64 0, .int .i64 0, .int .i64 0, .int .i64 0, .int .i64 0, .int .i64 0, .int .i64 0, .int .i64 0, .int .i64 0] 23) = w2 := ⟨_, rfl⟩
  have hb2 : Hid (Below w.heap.size w w2) := by rw [← hw2]; exact hb1.out.alloc (by omega) _
  have hs2 : w2.heap.size = w.heap.size + 2 := by rw [← hw2]; simp; omega
  have hnew : Hid (w2.heap[w.heap.size + 1]? = .some (.cells #[.int .i64 0, .int .i64 0, .int .i64 0, .int .i64 0, .int .i64 0, .int .i64 0, .int .i64 0, .int .i64 0, .int .i64 0, .int .i64 0, .int .i64 0] 23 (0, 0))) := by rw [← hw2, ← hs1]; exact new_row _ _ _
  have hk0 : w2.cell? ⟨w.heap.size, 0, none⟩ = .some (.int .i64 c.workers) := by rw [cell_of_row w2 _ _ (cfg c) 23 (0, 0) (by rw [← hw2, alloc_heap _ _ _ (by omega)]; exact hrow.out)]; rfl
  have hk1 : w2.cell? ⟨w.heap.size, 1, none⟩ = .some (.int .i64 c.cpus) := by rw [cell_of_row w2 _ _ (cfg c) 23 (0, 0) (by rw [← hw2, alloc_heap _ _ _ (by omega)]; exact hrow.out)]; rfl
  have hk2 : w2.cell? ⟨w.heap.size, 2, none⟩ = .some (.int .i64 c.pages) := by rw [cell_of_row w2 _ _ (cfg c) 23 (0, 0) (by rw [← hw2, alloc_heap _ _ _ (by omega)]; exact hrow.out)]; rfl
  have hk3 : w2.cell? ⟨w.heap.size, 3, none⟩ = .some (.int .i64 c.stripes) := by rw [cell_of_row w2 _ _ (cfg c) 23 (0, 0) (by rw [← hw2, alloc_heap _ _ _ (by omega)]; exact hrow.out)]; rfl
  have hk4 : w2.cell? ⟨w.heap.size, 4, none⟩ = .some (.int .i64 c.tries) := by rw [cell_of_row w2 _ _ (cfg c) 23 (0, 0) (by rw [← hw2, alloc_heap _ _ _ (by omega)]; exact hrow.out)]; rfl
  have hk5 : w2.cell? ⟨w.heap.size, 5, none⟩ = .some (.int .i64 c.wait) := by rw [cell_of_row w2 _ _ (cfg c) 23 (0, 0) (by rw [← hw2, alloc_heap _ _ _ (by omega)]; exact hrow.out)]; rfl
  have hk6 : w2.cell? ⟨w.heap.size, 6, none⟩ = .some (.int .i64 c.clock) := by rw [cell_of_row w2 _ _ (cfg c) 23 (0, 0) (by rw [← hw2, alloc_heap _ _ _ (by omega)]; exact hrow.out)]; rfl
  have hk7 : w2.cell? ⟨w.heap.size, 7, none⟩ = .some (.int .i64 c.priv) := by rw [cell_of_row w2 _ _ (cfg c) 23 (0, 0) (by rw [← hw2, alloc_heap _ _ _ (by omega)]; exact hrow.out)]; rfl
  have hk8 : w2.cell? ⟨w.heap.size, 8, none⟩ = .some (.int .i64 c.cache) := by rw [cell_of_row w2 _ _ (cfg c) 23 (0, 0) (by rw [← hw2, alloc_heap _ _ _ (by omega)]; exact hrow.out)]; rfl
  have hk9 : w2.cell? ⟨w.heap.size, 9, none⟩ = .some (.int .i64 c.bin) := by rw [cell_of_row w2 _ _ (cfg c) 23 (0, 0) (by rw [← hw2, alloc_heap _ _ _ (by omega)]; exact hrow.out)]; rfl
  have hk10 : w2.cell? ⟨w.heap.size, 10, none⟩ = .some (.int .i64 c.batch) := by rw [cell_of_row w2 _ _ (cfg c) 23 (0, 0) (by rw [← hw2, alloc_heap _ _ _ (by omega)]; exact hrow.out)]; rfl
  go_enter Tryz.func73, Tryz.ntmps73
  go_wp2
  refine wp_region_still_tail 34 (by kernel_rfl) (by kernel_rfl) ?_
  simp only [List.take_succ_cons, List.take_zero, List.drop_succ_cons, List.drop_zero]
  repeat still_step
  still_call (within_of c.workers 1 64 _ (by omega) (by omega) (by omega))
  repeat still_step
  still_call (within_of c.cpus 1 8 _ (by omega) (by omega) (by omega))
  repeat still_step
  still_call (within_of c.pages 1 256 _ (by omega) (by omega) (by omega))
  repeat still_step
  still_call (within_of c.stripes 1 64 _ (by omega) (by omega) (by omega))
  repeat still_step
  still_call (within_of c.tries 0 16 _ (by omega) (by omega) (by omega))
  repeat still_step
  still_call (within_of c.wait 0 64 _ (by omega) (by omega) (by omega))
  repeat still_step
  still_call (within_of c.clock 1 1099511627776 _ (by omega) (by omega) (by omega))
  repeat still_step
  still_call (within_of c.priv 1 8 _ (by omega) (by omega) (by omega))
  repeat still_step
  still_call (within_of c.cache 0 8 _ (by omega) (by omega) (by omega))
  repeat still_step
  still_call (within_of c.bin 0 16 _ (by omega) (by omega) (by omega))
  repeat still_step
  still_call (within_of c.batch 1 8 _ (by omega) (by omega) (by omega))
  repeat still_step
  refine wpStill_nil ?_
  change wpList _ _ _ _ _ (w2.drewN 1)
  refine wpList_store_row rfl 23 _ _ rfl (w.heap.size + 1) (cfg (some c)) rfl rfl 23 #[.int .i64 0, .int .i64 0, .int .i64 0, .int .i64 0, .int .i64 0, .int .i64 0, .int .i64 0, .int .i64 0, .int .i64 0, .int .i64 0, .int .i64 0] ?s1 ?s2 rfl (cfg_one _) ?s3
  case s1 => exact hnew.out
  case s2 => exact cfg_size _
  case s3 =>
  have fin : Hid (Below w.heap.size w ((w2.drewN 1).setRow (w.heap.size + 1) (cfg (some c)))) := setRow_below (below_drewN hb2.out 1) (by omega) _
  have hres : ((w2.drewN 1).setRow (w.heap.size + 1) (cfg (some c))).heap[w.heap.size + 1]? = .some (.cells (cfg (some c)) 23 (0, 0)) := setRow_same (w := w2.drewN 1) hnew.out
  have HR := Lib.hid hres
  clear hres
  go_wp2
  exact bodyPost_ret (results_cell_row rfl _ _ (w.heap.size + 1) 23 (cfg (some c)) (0, 0) _ rfl HR.out Tryz.underlying23 rfl (cfg_size _)) rfl ⟨rfl, fin.out⟩


end Some_
end Go.Proofs.YthojgahcpkdemaaGreat

namespace Go.Proofs.YthojgahcpkdemaaGreat
open Go.RowKit Go.Bas
open Lay RefLay
namespace Small_

/-- a configuration of few things, of any one -/
def cut (c : Cfg) : Cfg := ⟨1 + c.workers % 4, 1 + c.cpus % 2, 1 + c.pages % 9, 1 + c.stripes % 4, c.tries, c.wait, c.clock, 1 + c.priv % 3, c.cache % 3, c.bin % 4, 1 + c.batch % 3⟩
def small (c : Cfg) : Cfg := cut (Some_.some c)
theorem cut_fine {c : Cfg} (F : Fine c) : Fine (cut c) := by
  obtain ⟨h0, h1, h2, h3, h4, h5, h6, h7, h8, h9, ha⟩ := F
  constructor <;> simp only [cut] <;> omega
theorem small_fine (c : Cfg) : Fine (small c) := cut_fine (Some_.some_fine c)

set_option maxRecDepth 100000 in
set_option maxHeartbeats 2000000 in
theorem small_of (c0 : Cfg) (w : World) :
    Calls Tryz.prog 49 #[.agg (cfg c0)] w fun e w' => e = .returned (.agg (cfg (small c0))) ∧ Below w.heap.size w w' := by
  obtain ⟨c, hc⟩ : ∃ c, Some_.some c0 = c := ⟨_, rfl⟩
  have F : Fine c := by rw [← hc]; exact Some_.some_fine c0
  have hsm : small c0 = cut c := by unfold small; rw [hc]
  rw [hsm]
  have HC := Lib.hid hc
  clear hc hsm
  obtain ⟨h0, h1, h2, h3, h4, h5, h6, h7, h8, h9, ha⟩ := F
  obtain ⟨g, hg⟩ : ∃ g, w.heap.size = g := ⟨_, rfl⟩
  obtain ⟨w1, hw1⟩ : ∃ w1, w.alloc (.cells (cfg c0) 23) = w1 := ⟨_, rfl⟩
  have s1 : w1.heap.size = g + 1 := by rw [← hw1, ← hg]; simp
  obtain ⟨w2, hw2⟩ : ∃ w2, w1.alloc (.cells #[.int .i64 0, .int .i64 0, .int .i64 0, .int .i64 0, .int .i64 0, .int .i64 0, .int .i64 0, .int .i64 0, .int .i64 0, .int .i64 0, .int .i64 0] 23) = w2 := ⟨_, rfl⟩
  have s2 : w2.heap.size = g + 2 := by rw [← hw2]; simp; omega
  have G2 : Hid (w2.heap[g]? = some (.cells (cfg c0) 23 (0, 0))) := by rw [← hw2, Hid, alloc_heap _ _ _ (by omega), ← hw1, ← hg]; exact new_row _ _ _
  have Z2 : Hid (w2.heap[g + 1]? = some (.cells #[.int .i64 0, .int .i64 0, .int .i64 0, .int .i64 0, .int .i64 0, .int .i64 0, .int .i64 0, .int .i64 0, .int .i64 0, .int .i64 0, .int .i64 0] 23 (0, 0))) := by rw [← hw2, ← s1]; exact new_row _ _ _
  have B2 : Hid (Below g w w2) := by rw [← hw2, ← hw1, Hid, ← hg]; exact ((Below.refl _ _).alloc (Nat.le_refl _) _).alloc (by simp) _
  rw [hg]
  go_enter Tryz.func49, Tryz.ntmps49
  go_upto_region 2 with (first
    | (refine wpList_load_row rfl 23 _ rfl g rfl 23 (cfg c0) (0, 0) _ G2.out Tryz.underlying23 rfl (cfg_size _) ?_)
    | (refine wpList_store_row rfl 23 _ _ rfl g (cfg c) rfl rfl 23 (cfg c0) G3.out (cfg_size _) rfl (cfg_one _) ?_)
    | (go_at_call 73; refine (Some_.some_of c0 _).mono ?_; rintro e w3 ⟨rfl, hb3⟩
       rw [HC.out]
       have G3 : Hid (w3.heap[g]? = some (.cells (cfg c0) 23 (0, 0))) := by rw [Hid, hb3.block _ (by omega)]; exact G2.out))
  have e : cfg c = #[.int .i64 c.workers, .int .i64 c.cpus, .int .i64 c.pages, .int .i64 c.stripes, .int .i64 c.tries, .int .i64 c.wait, .int .i64 c.clock, .int .i64 c.priv, .int .i64 c.cache, .int .i64 c.bin, .int .i64 c.batch] := rfl
  rw [e]
  clear e
  have r1 : ∀ cs j, (w3.setRow g cs).cell? ⟨g, j, none⟩ = cs[j]? := fun cs j => setRow_cell G3.out cs j
  have r2 : ∀ cs j v, (w3.setRow g cs).setCell ⟨g, j, none⟩ v = w3.setRow g (cs.setIfInBounds j v) := fun cs j v => setRow_setCell G3.out cs j v
  have r3 : ∀ cs j, (w3.setRow g cs).frozen? ⟨g, j, none⟩ = false := fun cs j => row_frozen (setRow_same G3.out) j
  have t0 : c.workers.tmod 4 = c.workers % 4 := Int.tmod_eq_emod_of_nonneg (by omega)
  have t1 : c.cpus.tmod 2 = c.cpus % 2 := Int.tmod_eq_emod_of_nonneg (by omega)
  have t2 : c.pages.tmod 9 = c.pages % 9 := Int.tmod_eq_emod_of_nonneg (by omega)
  have t3 : c.stripes.tmod 4 = c.stripes % 4 := Int.tmod_eq_emod_of_nonneg (by omega)
  have t7 : c.priv.tmod 3 = c.priv % 3 := Int.tmod_eq_emod_of_nonneg (by omega)
  have t8 : c.cache.tmod 3 = c.cache % 3 := Int.tmod_eq_emod_of_nonneg (by omega)
  have t9 : c.bin.tmod 4 = c.bin % 4 := Int.tmod_eq_emod_of_nonneg (by omega)
  have ta : c.batch.tmod 3 = c.batch % 3 := Int.tmod_eq_emod_of_nonneg (by omega)
  obtain ⟨w4, hw4⟩ : ∃ w4, w3.setRow g #[.int .i64 (1 + c.workers % 4), .int .i64 (1 + c.cpus % 2), .int .i64 (1 + c.pages % 9), .int .i64 (1 + c.stripes % 4), .int .i64 c.tries, .int .i64 c.wait, .int .i64 c.clock, .int .i64 (1 + c.priv % 3), .int .i64 (c.cache % 3), .int .i64 (c.bin % 4), .int .i64 (1 + c.batch % 3)] = w4 := ⟨_, rfl⟩
  have G4 : Hid (w4.heap[g]? = some (.cells (cfg (cut c)) 23 (0, 0))) := by rw [← hw4]; exact setRow_same G3.out
  have Z4 : Hid (w4.heap[g + 1]? = some (.cells #[.int .i64 0, .int .i64 0, .int .i64 0, .int .i64 0, .int .i64 0, .int .i64 0, .int .i64 0, .int .i64 0, .int .i64 0, .int .i64 0, .int .i64 0] 23 (0, 0))) := by rw [← hw4, Hid, setRow_other _ _ _ _ (by omega), hb3.block _ (by omega)]; exact Z2.out
  have B4 : Hid (Below g w w4) := by rw [← hw4]; exact setRow_below (B2.out.trans (hb3.mono (by omega))) (Nat.le_refl _) _
  have Y4 : Hid ((w4.setRow (g + 1) (cfg (cut c))).heap[g + 1]? = some (.cells (cfg (cut c)) 23 (0, 0))) := setRow_same Z4.out
  go_wp2_with (first
    | (refine wpList_load_row rfl 23 _ rfl g rfl 23 (cfg (cut c)) (0, 0) _ G4.out Tryz.underlying23 rfl (cfg_size _) ?_)
    | (refine wpList_store_row rfl 23 _ _ rfl (g + 1) (cfg (cut c)) rfl rfl 23 #[.int .i64 0, .int .i64 0, .int .i64 0, .int .i64 0, .int .i64 0, .int .i64 0, .int .i64 0, .int .i64 0, .int .i64 0, .int .i64 0, .int .i64 0] Z4.out (cfg_size _) rfl (cfg_one _) ?_))
  exact bodyPost_ret (results_cell_row rfl _ _ (g + 1) 23 (cfg (cut c)) (0, 0) _ rfl Y4.out Tryz.underlying23 rfl (cfg_size _)) rfl ⟨rfl, setRow_below B4.out (by omega) _⟩

end Small_
end Go.Proofs.YthojgahcpkdemaaGreat

/- the statements' example, in plain -/
namespace Go.Proofs.YthojgahcpkdemaaGreat
open VIn IMap_ Lay RefLay Of Small_
namespace Att

theorem Okk.new {E : Env} {lo : Int} {d : Nat} {owner : Int} {W : List Int} (ho : 0 ≤ owner ∧ owner < 64) (hl : (W.length : Int) = E.words) : Okk E lo d (newT owner) W := by
  refine ⟨⟨⟨by show (0 : Int) ≤ 0; omega, by show (0 : Int) ≤ 10; omega⟩, fun _ => ⟨rfl, rfl, rfl⟩, .inl rfl, fun h => ?_, fun h => ?_, fun _ => rfl, fun h => ?_, fun h => ?_, fun h => ?_, fun h => ?_, fun h => ?_, fun h => ?_⟩, ⟨ho, in0, in0, ⟨Int.le_refl 0, by show (0 : Int) ≤ _; omega⟩, in0, fun p hp => (List.not_mem_nil hp).elim, fun p hp => (List.not_mem_nil hp).elim, fun p hp => (List.not_mem_nil hp).elim⟩, in0, hl⟩
  · have h : (0 : Int) = 1 ∨ (0 : Int) = 2 ∨ (0 : Int) = 3 := h; omega
  · have h : 4 ≤ (0 : Int) ∧ (0 : Int) ≤ 8 ∨ (0 : Int) = 9 ∧ _ := h; omega
  · have h : 4 ≤ (0 : Int) ∧ (0 : Int) ≤ 9 := h; omega
  · have h : (0 : Int) = 4 ∨ (0 : Int) = 5 := h; omega
  · have h : 6 ≤ (0 : Int) ∧ (0 : Int) ≤ 8 ∨ (0 : Int) = 9 ∧ _ := h; omega
  · have h : (0 : Int) = 7 := h; omega
  · have h : (0 : Int) = 8 := h; omega
  · have h : (0 : Int) = 9 := h; omega
theorem Low.new (owner : Int) : Low (newT owner) := ⟨fun _ => rfl, fun _ => rfl, fun h => by have h : 4 ≤ (0 : Int) ∧ (0 : Int) ≤ 9 := h; omega⟩

def zc0 : Cfg := ⟨0, 0, 0, 0, 0, 0, 0, 0, 0, 0, 0⟩
def lc : Cfg := ⟨2, 2, 2, 1, 0, 0, 9, 2, 0, 0, 2⟩
theorem small_zc : small zc0 = ⟨2, 2, 2, 2, 0, 0, 1, 2, 0, 0, 2⟩ := by rfl
theorem lc_fine : Fine lc := by constructor <;> decide
theorem lc_words : words lc = 320 := by rfl
def runL : M → Int × M := fun _ => (-1, [(9, 7)])
def EL : Env := env lc (places lc) runL
theorem EL_is : EL = ⟨1, 9, 320, runL⟩ := by
  have h : (places lc).a11 = 320 := by rw [places_words]; exact lc_words
  unfold EL env; rw [h]; rfl
/-- k steps of it -/
def sim : Nat → AT × List Int
  | 0 => (newT 0, List.replicate 320 0)
  | k + 1 => step EL (sim k).1 (sim k).2
def simE : Nat → AT × List Int
  | 0 => (newT 0, List.replicate 320 0)
  | k + 1 => step ⟨1, 9, 320, runL⟩ (simE k).1 (simE k).2
theorem sim_is : ∀ k, sim k = simE k
  | 0 => rfl
  | k + 1 => by unfold sim simE; rw [sim_is k, EL_is]
set_option maxRecDepth 100000 in
theorem simE_bool : ((List.range 9).all (fun k => (simE k).1.phase != 10 && (told (simE k).1 == 0)) && told (simE 9).1 == 1 && (simE 9).1.phase == 10 && (simE 9).1.stamp == 1 && ld (simE 9).2 9 == 7) = true := by kernel_rfl
theorem simE_facts : (List.range 9).all (fun k => (simE k).1.phase != 10 && (told (simE k).1 == 0)) = true ∧ told (simE 9).1 = 1 ∧ (simE 9).1.phase = 10 ∧ (simE 9).1.stamp = 1 ∧ ld (simE 9).2 9 = 7 := by
  have h := simE_bool
  rw [Bool.and_eq_true, Bool.and_eq_true, Bool.and_eq_true, Bool.and_eq_true, beq_iff_eq, beq_iff_eq, beq_iff_eq, beq_iff_eq] at h
  obtain ⟨⟨⟨⟨h1, h2⟩, h3⟩, h4⟩, h5⟩ := h
  exact ⟨h1, h2, h3, h4, h5⟩
theorem good_L : Good EL 9 1 := by
  rw [EL_is]
  refine ⟨by decide, by decide, by decide, fun l h => ?_, fun l _ => ⟨?_, fun p hp => ?_⟩⟩
  · have h : (0 : Int) ≤ -1 := h; omega
  · exact List.pairwise_singleton _ _
  · have : p = (9, 7) := List.mem_singleton.1 hp
    subst this; decide
theorem rb_L : RB EL := fun l _ => by
  rw [EL_is]
  refine ⟨by show In64 (-1); unfold In64; omega, fun p hp => ?_⟩
  have : p = (9, 7) := List.mem_singleton.1 hp
  subst this; unfold In64; decide
theorem sim_ok : ∀ k, k ≤ 9 → Okk EL 9 1 (sim k).1 (sim k).2 ∧ WB (sim k).2 ∧ Low (sim k).1
  | 0, _ => ⟨Okk.new (by omega) (by rw [EL_is]; show ((List.replicate 320 (0 : Int)).length : Int) = 320; rw [List.length_replicate]; rfl), ⟨fun k => by rw [show (sim 0).2 = List.replicate 320 0 from rfl, ld_rep]; exact in0, by rw [show (sim 0).2 = List.replicate 320 0 from rfl, ld_rep]; omega⟩, Low.new 0⟩
  | k + 1, h => by
    obtain ⟨h1, h2, h3⟩ := sim_ok k (by omega)
    have hp : (sim k).1.phase ≠ 10 := by
      have := List.all_eq_true.1 simE_facts.1 k (List.mem_range.2 (by omega))
      rw [sim_is]; simp at this; exact this.1
    have := okk_step good_L rb_L (by rw [EL_is]; decide) h1 h2 hp
    exact ⟨this.1, this.2, low_step h3 h1.wf.ph⟩
theorem sim_going (k : Nat) (h : k < 9) : (sim k).1.phase ≠ 10 ∧ told (sim k).1 = 0 := by
  have := List.all_eq_true.1 simE_facts.1 k (List.mem_range.2 h)
  rw [sim_is]; simpa using this
theorem sim_end : told (sim 9).1 = 1 ∧ (sim 9).1.phase = 10 ∧ (sim 9).1.stamp = 1 ∧ ld (sim 9).2 9 = 7 := by rw [sim_is]; exact simE_facts.2
end Att
end Go.Proofs.YthojgahcpkdemaaGreat
