import Derived.Test.YtnpieopflgkjdaaLay
namespace Go.Proofs.Ytnpieopflgkjdaa
open Go.RowKit Go.Bas
open Lay
namespace RefLay

/-- a configuration that may be -/
structure Fine (c : Cfg) : Prop where
  workers : 1 ≤ c.workers ∧ c.workers ≤ 64
  cpus : 1 ≤ c.cpus ∧ c.cpus ≤ 8
  pages : 1 ≤ c.pages ∧ c.pages ≤ 256
  stripes : 1 ≤ c.stripes ∧ c.stripes ≤ 64
  tries : 0 ≤ c.tries ∧ c.tries ≤ 16
  wait : 0 ≤ c.wait ∧ c.wait ≤ 64
  clock : 1 ≤ c.clock ∧ c.clock ≤ 1099511627776
  priv : 1 ≤ c.priv ∧ c.priv ≤ 8
  cache : 0 ≤ c.cache ∧ c.cache ≤ 8
  bin : 0 ≤ c.bin ∧ c.bin ≤ 16
  batch : 1 ≤ c.batch ∧ c.batch ≤ 8

def table (c : Cfg) : Int := 3 + c.stripes
def chunks (c : Cfg) : Int := (c.pages + 3) / 4
def heads (c : Cfg) : Int := table c + chunks c + 5 * c.pages
def caches (c : Cfg) : Int := heads c + 62
def cch (c : Cfg) : Int := 5 * c.cpus * (c.cache + 1)
def bins (c : Cfg) : Int := caches c + cch c
def live (c : Cfg) : Int := bins c + 5 * (c.bin + 1)
def user (c : Cfg) : Int := (live c + 32 * c.pages + 127) / 128 * 128
def words (c : Cfg) : Int := user c + 32 * c.pages

theorem cch_in {c : Cfg} (F : Fine c) : 0 ≤ cch c ∧ cch c ≤ 360 := by
  obtain ⟨_, ⟨_, _⟩, _, _, _, _, _, _, ⟨_, _⟩, _, _⟩ := F
  refine ⟨Int.mul_nonneg (by omega) (by omega), ?_⟩
  have := @Int.mul_le_mul (5 * c.cpus) (c.cache + 1) 40 9 (by omega) (by omega) (by omega) (by omega)
  unfold cch; omega
theorem table_in {c : Cfg} (F : Fine c) : 4 ≤ table c ∧ table c ≤ 67 := by have := F.stripes; unfold table; omega
theorem chunks_in {c : Cfg} (F : Fine c) : 1 ≤ chunks c ∧ chunks c ≤ 64 := by have := F.pages; unfold chunks; omega
theorem heads_in {c : Cfg} (F : Fine c) : 10 ≤ heads c ∧ heads c ≤ 2000 := by have := F.pages; have := table_in F; have := chunks_in F; unfold heads; omega
theorem caches_in {c : Cfg} (F : Fine c) : 72 ≤ caches c ∧ caches c ≤ 3000 := by have := heads_in F; unfold caches; omega
theorem bins_in {c : Cfg} (F : Fine c) : 72 ≤ bins c ∧ bins c ≤ 4000 := by have := caches_in F; have := cch_in F; unfold bins; omega
theorem live_in {c : Cfg} (F : Fine c) : 77 ≤ live c ∧ live c ≤ 5000 := by have := bins_in F; have := F.bin; unfold live; omega
theorem user_in {c : Cfg} (F : Fine c) : 128 ≤ user c ∧ user c ≤ 20000 := by have := live_in F; have := F.pages; unfold user; omega
theorem words_in {c : Cfg} (F : Fine c) : 160 ≤ words c ∧ words c ≤ 40000 := by have := user_in F; have := F.pages; unfold words; omega

theorem cfg2_size (c : Cfg) : (Try.prog.info? 32).map (·.size) = some (cfg c).size := by
  have h : (Try.prog.info? 32).map (·.size) = some 11 := by kernel_rfl
  rw [h]; rfl

theorem table_of (c : Cfg) (w : World) (F : Fine c) :
    Calls Try.prog 122 #[.agg (cfg c)] w fun e w' => e = .returned (.int .i64 (table c)) ∧ Below w.heap.size w w' := by
  obtain ⟨w1, hw1⟩ : ∃ w1, w.alloc (.cells (cfg c) 32) = w1 := ⟨_, rfl⟩
  have hrow : Hid (w1.heap[w.heap.size]? = some (.cells (cfg c) 32 (0, 0))) := by rw [← hw1]; exact new_row _ _ _
  have hb1 : Hid (Below w.heap.size w w1) := by rw [← hw1]; exact (Below.refl _ _).alloc (Nat.le_refl _) _
  have hs1 : w.heap.size + 1 ≤ w1.heap.size := by rw [← hw1]; simp
  have _b := table_in F
  have hk3 : w1.cell? ⟨w.heap.size, 3, none⟩ = some (.int .i64 c.stripes) := by rw [cell_of_row _ _ _ _ _ _ hrow.out]; rfl
  have FH := Lib.hid F
  obtain ⟨⟨f00, f01⟩, ⟨f10, f11⟩, ⟨f20, f21⟩, ⟨f30, f31⟩, ⟨f40, f41⟩, ⟨f50, f51⟩, ⟨f60, f61⟩, ⟨f70, f71⟩, ⟨f80, f81⟩, ⟨f90, f91⟩, ⟨fa0, fa1⟩⟩ := F
  go_enter Try.func122, Try.ntmps122
  go_wp2
  go_ret
  exact ⟨rfl, hb1.out⟩

theorem chunks_of (c : Cfg) (w : World) (F : Fine c) :
    Calls Try.prog 123 #[.agg (cfg c)] w fun e w' => e = .returned (.int .i64 (chunks c)) ∧ Below w.heap.size w w' := by
  obtain ⟨w1, hw1⟩ : ∃ w1, w.alloc (.cells (cfg c) 32) = w1 := ⟨_, rfl⟩
  have hrow : Hid (w1.heap[w.heap.size]? = some (.cells (cfg c) 32 (0, 0))) := by rw [← hw1]; exact new_row _ _ _
  have hb1 : Hid (Below w.heap.size w w1) := by rw [← hw1]; exact (Below.refl _ _).alloc (Nat.le_refl _) _
  have hs1 : w.heap.size + 1 ≤ w1.heap.size := by rw [← hw1]; simp
  have _b := chunks_in F
  have hk2 : w1.cell? ⟨w.heap.size, 2, none⟩ = some (.int .i64 c.pages) := by rw [cell_of_row _ _ _ _ _ _ hrow.out]; rfl
  have FH := Lib.hid F
  obtain ⟨⟨f00, f01⟩, ⟨f10, f11⟩, ⟨f20, f21⟩, ⟨f30, f31⟩, ⟨f40, f41⟩, ⟨f50, f51⟩, ⟨f60, f61⟩, ⟨f70, f71⟩, ⟨f80, f81⟩, ⟨f90, f91⟩, ⟨fa0, fa1⟩⟩ := F
  go_enter Try.func123, Try.ntmps123
  go_wp2
  go_ret
  exact ⟨rfl, hb1.out⟩

theorem heads_of (c : Cfg) (w : World) (F : Fine c) :
    Calls Try.prog 120 #[.agg (cfg c)] w fun e w' => e = .returned (.int .i64 (heads c)) ∧ Below w.heap.size w w' := by
  obtain ⟨w1, hw1⟩ : ∃ w1, w.alloc (.cells (cfg c) 32) = w1 := ⟨_, rfl⟩
  have hrow : Hid (w1.heap[w.heap.size]? = some (.cells (cfg c) 32 (0, 0))) := by rw [← hw1]; exact new_row _ _ _
  have hb1 : Hid (Below w.heap.size w w1) := by rw [← hw1]; exact (Below.refl _ _).alloc (Nat.le_refl _) _
  have hs1 : w.heap.size + 1 ≤ w1.heap.size := by rw [← hw1]; simp
  have _b := table_in F
  have _c := chunks_in F
  have hk2 : ∀ e : Ext (w.heap.size + 1) w1, e.at_.cell? ⟨w.heap.size, 2, none⟩ = some (.int .i64 c.pages) := ext_cell hrow.out (by omega) rfl
  have FH := Lib.hid F
  obtain ⟨⟨f00, f01⟩, ⟨f10, f11⟩, ⟨f20, f21⟩, ⟨f30, f31⟩, ⟨f40, f41⟩, ⟨f50, f51⟩, ⟨f60, f61⟩, ⟨f70, f71⟩, ⟨f80, f81⟩, ⟨f90, f91⟩, ⟨fa0, fa1⟩⟩ := F
  go_enter Try.func120, Try.ntmps120
  go_wp2
  refine wp_region_mono (w.heap.size + 1) (by kernel_rfl) (by kernel_rfl) ?_
  repeat (any_goals (first | (refine wpQuiet_load_row rfl 32 _ rfl w.heap.size rfl 32 (cfg c) (0, 0) _ (ext_row hrow.out (by omega)) Try.underlying32 rfl (cfg2_size c) ?_; go_simp) | go_big_quiet_step ((first | (go_at_call 122; exact Calls.ext hs1 (table_of c _ FH.out)) | (go_at_call 123; exact Calls.ext hs1 (chunks_of c _ FH.out))))))
  refine wpQuiet_nil ?_
  rintro ⟨w2, hb2⟩
  go_wp2
  go_ret
  exact ⟨rfl, hb1.out.trans (hb2.mono (by omega))⟩

theorem caches_of (c : Cfg) (w : World) (F : Fine c) :
    Calls Try.prog 118 #[.agg (cfg c)] w fun e w' => e = .returned (.int .i64 (caches c)) ∧ Below w.heap.size w w' := by
  obtain ⟨w1, hw1⟩ : ∃ w1, w.alloc (.cells (cfg c) 32) = w1 := ⟨_, rfl⟩
  have hrow : Hid (w1.heap[w.heap.size]? = some (.cells (cfg c) 32 (0, 0))) := by rw [← hw1]; exact new_row _ _ _
  have hb1 : Hid (Below w.heap.size w w1) := by rw [← hw1]; exact (Below.refl _ _).alloc (Nat.le_refl _) _
  have hs1 : w.heap.size + 1 ≤ w1.heap.size := by rw [← hw1]; simp
  have _b := heads_in F
  have FH := Lib.hid F
  obtain ⟨⟨f00, f01⟩, ⟨f10, f11⟩, ⟨f20, f21⟩, ⟨f30, f31⟩, ⟨f40, f41⟩, ⟨f50, f51⟩, ⟨f60, f61⟩, ⟨f70, f71⟩, ⟨f80, f81⟩, ⟨f90, f91⟩, ⟨fa0, fa1⟩⟩ := F
  go_enter Try.func118, Try.ntmps118
  go_wp2_with (first | (refine wpList_load_row rfl 32 _ rfl w.heap.size rfl 32 (cfg c) (0, 0) _ hrow.out Try.underlying32 rfl (cfg2_size c) ?_) | (go_at_call 120; refine (heads_of c _ FH.out).mono ?_; rintro e w2 ⟨rfl, hb2⟩))
  go_ret
  exact ⟨rfl, hb1.out.trans (hb2.mono (by omega))⟩

theorem bins_of (c : Cfg) (w : World) (F : Fine c) :
    Calls Try.prog 113 #[.agg (cfg c)] w fun e w' => e = .returned (.int .i64 (bins c)) ∧ Below w.heap.size w w' := by
  obtain ⟨w1, hw1⟩ : ∃ w1, w.alloc (.cells (cfg c) 32) = w1 := ⟨_, rfl⟩
  have hrow : Hid (w1.heap[w.heap.size]? = some (.cells (cfg c) 32 (0, 0))) := by rw [← hw1]; exact new_row _ _ _
  have hb1 : Hid (Below w.heap.size w w1) := by rw [← hw1]; exact (Below.refl _ _).alloc (Nat.le_refl _) _
  have hs1 : w.heap.size + 1 ≤ w1.heap.size := by rw [← hw1]; simp
  have _b := caches_in F
  have _c : 0 ≤ 5 * c.cpus * (c.cache + 1) ∧ 5 * c.cpus * (c.cache + 1) ≤ 360 := cch_in F
  have hk1 : ∀ e : Ext (w.heap.size + 1) w1, e.at_.cell? ⟨w.heap.size, 1, none⟩ = some (.int .i64 c.cpus) := ext_cell hrow.out (by omega) rfl
  have hk8 : ∀ e : Ext (w.heap.size + 1) w1, e.at_.cell? ⟨w.heap.size, 8, none⟩ = some (.int .i64 c.cache) := ext_cell hrow.out (by omega) rfl
  have FH := Lib.hid F
  obtain ⟨⟨f00, f01⟩, ⟨f10, f11⟩, ⟨f20, f21⟩, ⟨f30, f31⟩, ⟨f40, f41⟩, ⟨f50, f51⟩, ⟨f60, f61⟩, ⟨f70, f71⟩, ⟨f80, f81⟩, ⟨f90, f91⟩, ⟨fa0, fa1⟩⟩ := F
  go_enter Try.func113, Try.ntmps113
  go_wp2
  refine wp_region_mono (w.heap.size + 1) (by kernel_rfl) (by kernel_rfl) ?_
  repeat (any_goals (first | (refine wpQuiet_load_row rfl 32 _ rfl w.heap.size rfl 32 (cfg c) (0, 0) _ (ext_row hrow.out (by omega)) Try.underlying32 rfl (cfg2_size c) ?_; go_simp) | go_big_quiet_step ((first | (go_at_call 118; exact Calls.ext hs1 (caches_of c _ FH.out))))))
  refine wpQuiet_nil ?_
  rintro ⟨w2, hb2⟩
  go_wp2
  go_ret
  exact ⟨rfl, hb1.out.trans (hb2.mono (by omega))⟩

theorem live_of (c : Cfg) (w : World) (F : Fine c) :
    Calls Try.prog 104 #[.agg (cfg c)] w fun e w' => e = .returned (.int .i64 (live c)) ∧ Below w.heap.size w w' := by
  obtain ⟨w1, hw1⟩ : ∃ w1, w.alloc (.cells (cfg c) 32) = w1 := ⟨_, rfl⟩
  have hrow : Hid (w1.heap[w.heap.size]? = some (.cells (cfg c) 32 (0, 0))) := by rw [← hw1]; exact new_row _ _ _
  have hb1 : Hid (Below w.heap.size w w1) := by rw [← hw1]; exact (Below.refl _ _).alloc (Nat.le_refl _) _
  have hs1 : w.heap.size + 1 ≤ w1.heap.size := by rw [← hw1]; simp
  have _b := bins_in F
  have hk9 : ∀ e : Ext (w.heap.size + 1) w1, e.at_.cell? ⟨w.heap.size, 9, none⟩ = some (.int .i64 c.bin) := ext_cell hrow.out (by omega) rfl
  have FH := Lib.hid F
  obtain ⟨⟨f00, f01⟩, ⟨f10, f11⟩, ⟨f20, f21⟩, ⟨f30, f31⟩, ⟨f40, f41⟩, ⟨f50, f51⟩, ⟨f60, f61⟩, ⟨f70, f71⟩, ⟨f80, f81⟩, ⟨f90, f91⟩, ⟨fa0, fa1⟩⟩ := F
  go_enter Try.func104, Try.ntmps104
  go_wp2
  refine wp_region_mono (w.heap.size + 1) (by kernel_rfl) (by kernel_rfl) ?_
  repeat (any_goals (first | (refine wpQuiet_load_row rfl 32 _ rfl w.heap.size rfl 32 (cfg c) (0, 0) _ (ext_row hrow.out (by omega)) Try.underlying32 rfl (cfg2_size c) ?_; go_simp) | go_big_quiet_step ((first | (go_at_call 113; exact Calls.ext hs1 (bins_of c _ FH.out))))))
  refine wpQuiet_nil ?_
  rintro ⟨w2, hb2⟩
  go_wp2
  go_ret
  exact ⟨rfl, hb1.out.trans (hb2.mono (by omega))⟩

theorem user_of (c : Cfg) (w : World) (F : Fine c) :
    Calls Try.prog 82 #[.agg (cfg c)] w fun e w' => e = .returned (.int .i64 (user c)) ∧ Below w.heap.size w w' := by
  obtain ⟨w1, hw1⟩ : ∃ w1, w.alloc (.cells (cfg c) 32) = w1 := ⟨_, rfl⟩
  have hrow : Hid (w1.heap[w.heap.size]? = some (.cells (cfg c) 32 (0, 0))) := by rw [← hw1]; exact new_row _ _ _
  have hb1 : Hid (Below w.heap.size w w1) := by rw [← hw1]; exact (Below.refl _ _).alloc (Nat.le_refl _) _
  have hs1 : w.heap.size + 1 ≤ w1.heap.size := by rw [← hw1]; simp
  have _b := live_in F
  have hk2 : ∀ e : Ext (w.heap.size + 1) w1, e.at_.cell? ⟨w.heap.size, 2, none⟩ = some (.int .i64 c.pages) := ext_cell hrow.out (by omega) rfl
  have FH := Lib.hid F
  obtain ⟨⟨f00, f01⟩, ⟨f10, f11⟩, ⟨f20, f21⟩, ⟨f30, f31⟩, ⟨f40, f41⟩, ⟨f50, f51⟩, ⟨f60, f61⟩, ⟨f70, f71⟩, ⟨f80, f81⟩, ⟨f90, f91⟩, ⟨fa0, fa1⟩⟩ := F
  go_enter Try.func82, Try.ntmps82
  go_wp2
  refine wp_region_mono (w.heap.size + 1) (by kernel_rfl) (by kernel_rfl) ?_
  repeat (any_goals (first | (refine wpQuiet_load_row rfl 32 _ rfl w.heap.size rfl 32 (cfg c) (0, 0) _ (ext_row hrow.out (by omega)) Try.underlying32 rfl (cfg2_size c) ?_; go_simp) | go_big_quiet_step ((first | (go_at_call 104; exact Calls.ext hs1 (live_of c _ FH.out))))))
  refine wpQuiet_nil ?_
  rintro ⟨w2, hb2⟩
  go_wp2
  go_ret
  exact ⟨rfl, hb1.out.trans (hb2.mono (by omega))⟩

theorem words_of (c : Cfg) (w : World) (F : Fine c) :
    Calls Try.prog 51 #[.agg (cfg c)] w fun e w' => e = .returned (.int .i64 (words c)) ∧ Below w.heap.size w w' := by
  obtain ⟨w1, hw1⟩ : ∃ w1, w.alloc (.cells (cfg c) 32) = w1 := ⟨_, rfl⟩
  have hrow : Hid (w1.heap[w.heap.size]? = some (.cells (cfg c) 32 (0, 0))) := by rw [← hw1]; exact new_row _ _ _
  have hb1 : Hid (Below w.heap.size w w1) := by rw [← hw1]; exact (Below.refl _ _).alloc (Nat.le_refl _) _
  have hs1 : w.heap.size + 1 ≤ w1.heap.size := by rw [← hw1]; simp
  have _b := user_in F
  have hk2 : ∀ e : Ext (w.heap.size + 1) w1, e.at_.cell? ⟨w.heap.size, 2, none⟩ = some (.int .i64 c.pages) := ext_cell hrow.out (by omega) rfl
  have FH := Lib.hid F
  obtain ⟨⟨f00, f01⟩, ⟨f10, f11⟩, ⟨f20, f21⟩, ⟨f30, f31⟩, ⟨f40, f41⟩, ⟨f50, f51⟩, ⟨f60, f61⟩, ⟨f70, f71⟩, ⟨f80, f81⟩, ⟨f90, f91⟩, ⟨fa0, fa1⟩⟩ := F
  go_enter Try.func51, Try.ntmps51
  go_wp2
  refine wp_region_mono (w.heap.size + 1) (by kernel_rfl) (by kernel_rfl) ?_
  repeat (any_goals (first | (refine wpQuiet_load_row rfl 32 _ rfl w.heap.size rfl 32 (cfg c) (0, 0) _ (ext_row hrow.out (by omega)) Try.underlying32 rfl (cfg2_size c) ?_; go_simp) | go_big_quiet_step ((first | (go_at_call 82; exact Calls.ext hs1 (user_of c _ FH.out))))))
  refine wpQuiet_nil ?_
  rintro ⟨w2, hb2⟩
  go_wp2
  go_ret
  exact ⟨rfl, hb1.out.trans (hb2.mono (by omega))⟩


end RefLay
end Go.Proofs.Ytnpieopflgkjdaa
