import Derived.Test.YtnpieopflgkjdaaRefLay
import Derived.Test.YtnpieopflgkjdaaBou
namespace Go.Proofs.Ytnpieopflgkjdaa
open Go.RowKit Go.Bas
open Lay RefLay
namespace Ref28

def att (c : Cfg) : Int := 4 * words c + 4 * c.stripes + 8
def fal (c : Cfg) : Int := 4 * (words c + c.stripes) + 8 * c.workers + 64
theorem att_in {c : Cfg} (F : Fine c) : 0 ≤ att c ∧ att c ≤ 1000000 := by have := words_in F; have := F.stripes; unfold att; omega
theorem fal_in {c : Cfg} (F : Fine c) : 0 ≤ fal c ∧ fal c ≤ 1000000 := by have := words_in F; have := F.stripes; have := F.workers; unfold fal; omega
theorem m1_in {c : Cfg} (F : Fine c) : 0 ≤ c.tries * att c ∧ c.tries * att c ≤ 16000000 := by
  have h := att_in F; have := F.tries
  refine ⟨Int.mul_nonneg (by omega) (by omega), ?_⟩
  have := @Int.mul_le_mul c.tries (att c) 16 1000000 (by omega) (by omega) (by omega) (by omega)
  omega
theorem m2_in {c : Cfg} (F : Fine c) : 0 ≤ c.tries * c.wait ∧ c.tries * c.wait ≤ 1024 := by
  have h := F.wait; have := F.tries
  refine ⟨Int.mul_nonneg (by omega) (by omega), ?_⟩
  have := @Int.mul_le_mul c.tries c.wait 16 64 (by omega) (by omega) (by omega) (by omega)
  omega

theorem att_of (c : Cfg) (w : World) (F : Fine c) :
    Calls Try.prog 15 #[.agg (cfg c)] w fun e w' => e = .returned (.int .i64 (att c)) ∧ Below w.heap.size w w' := by
  obtain ⟨w1, hw1⟩ : ∃ w1, w.alloc (.cells (cfg c) 32) = w1 := ⟨_, rfl⟩
  have hrow : Hid (w1.heap[w.heap.size]? = some (.cells (cfg c) 32 (0, 0))) := by rw [← hw1]; exact new_row _ _ _
  have hb1 : Hid (Below w.heap.size w w1) := by rw [← hw1]; exact (Below.refl _ _).alloc (Nat.le_refl _) _
  have hs1 : w.heap.size + 1 ≤ w1.heap.size := by rw [← hw1]; simp
  have _b := words_in F
  have hk3 : ∀ e : Ext (w.heap.size + 1) w1, e.at_.cell? ⟨w.heap.size, 3, none⟩ = some (.int .i64 c.stripes) := ext_cell hrow.out (by omega) rfl
  have FH := Lib.hid F
  obtain ⟨⟨f00, f01⟩, ⟨f10, f11⟩, ⟨f20, f21⟩, ⟨f30, f31⟩, ⟨f40, f41⟩, ⟨f50, f51⟩, ⟨f60, f61⟩, ⟨f70, f71⟩, ⟨f80, f81⟩, ⟨f90, f91⟩, ⟨fa0, fa1⟩⟩ := F
  go_enter Try.func15, Try.ntmps15
  go_wp2
  refine wp_region_mono (w.heap.size + 1) (by kernel_rfl) (by kernel_rfl) ?_
  repeat (any_goals (first | (refine wpQuiet_load_row rfl 32 _ rfl w.heap.size rfl 32 (cfg c) (0, 0) _ (ext_row hrow.out (by omega)) Try.underlying32 rfl (cfg2_size c) ?_; go_simp) | go_big_quiet_step ((first | (go_at_call 51; exact Calls.ext hs1 (words_of c _ FH.out))))))
  refine wpQuiet_nil ?_
  rintro ⟨w2, hb2⟩
  go_wp2
  go_ret
  exact ⟨rfl, hb1.out.trans (hb2.mono (by omega))⟩

theorem fal_of (c : Cfg) (w : World) (F : Fine c) :
    Calls Try.prog 16 #[.agg (cfg c)] w fun e w' => e = .returned (.int .i64 (fal c)) ∧ Below w.heap.size w w' := by
  obtain ⟨w1, hw1⟩ : ∃ w1, w.alloc (.cells (cfg c) 32) = w1 := ⟨_, rfl⟩
  have hrow : Hid (w1.heap[w.heap.size]? = some (.cells (cfg c) 32 (0, 0))) := by rw [← hw1]; exact new_row _ _ _
  have hb1 : Hid (Below w.heap.size w w1) := by rw [← hw1]; exact (Below.refl _ _).alloc (Nat.le_refl _) _
  have hs1 : w.heap.size + 1 ≤ w1.heap.size := by rw [← hw1]; simp
  have _b := words_in F
  have hk0 : ∀ e : Ext (w.heap.size + 1) w1, e.at_.cell? ⟨w.heap.size, 0, none⟩ = some (.int .i64 c.workers) := ext_cell hrow.out (by omega) rfl
  have hk3 : ∀ e : Ext (w.heap.size + 1) w1, e.at_.cell? ⟨w.heap.size, 3, none⟩ = some (.int .i64 c.stripes) := ext_cell hrow.out (by omega) rfl
  have FH := Lib.hid F
  obtain ⟨⟨f00, f01⟩, ⟨f10, f11⟩, ⟨f20, f21⟩, ⟨f30, f31⟩, ⟨f40, f41⟩, ⟨f50, f51⟩, ⟨f60, f61⟩, ⟨f70, f71⟩, ⟨f80, f81⟩, ⟨f90, f91⟩, ⟨fa0, fa1⟩⟩ := F
  go_enter Try.func16, Try.ntmps16
  go_wp2
  refine wp_region_mono (w.heap.size + 1) (by kernel_rfl) (by kernel_rfl) ?_
  repeat (any_goals (first | (refine wpQuiet_load_row rfl 32 _ rfl w.heap.size rfl 32 (cfg c) (0, 0) _ (ext_row hrow.out (by omega)) Try.underlying32 rfl (cfg2_size c) ?_; go_simp) | go_big_quiet_step ((first | (go_at_call 51; exact Calls.ext hs1 (words_of c _ FH.out))))))
  refine wpQuiet_nil ?_
  rintro ⟨w2, hb2⟩
  go_wp2
  go_ret
  exact ⟨rfl, hb1.out.trans (hb2.mono (by omega))⟩

theorem rounds_of (c : Cfg) (w : World) (F : Fine c) :
    Calls Try.prog 17 #[.agg (cfg c)] w fun e w' => e = .returned (.int .i64 (c.tries * att c + c.tries * c.wait + fal c)) ∧ Below w.heap.size w w' := by
  obtain ⟨w1, hw1⟩ : ∃ w1, w.alloc (.cells (cfg c) 32) = w1 := ⟨_, rfl⟩
  have hrow : Hid (w1.heap[w.heap.size]? = some (.cells (cfg c) 32 (0, 0))) := by rw [← hw1]; exact new_row _ _ _
  have hb1 : Hid (Below w.heap.size w w1) := by rw [← hw1]; exact (Below.refl _ _).alloc (Nat.le_refl _) _
  have hs1 : w.heap.size + 1 ≤ w1.heap.size := by rw [← hw1]; simp
  have _b := att_in F
  have _c := fal_in F
  have _d := m1_in F
  have _e := m2_in F
  have hk4 : ∀ e : Ext (w.heap.size + 1) w1, e.at_.cell? ⟨w.heap.size, 4, none⟩ = some (.int .i64 c.tries) := ext_cell hrow.out (by omega) rfl
  have hk5 : ∀ e : Ext (w.heap.size + 1) w1, e.at_.cell? ⟨w.heap.size, 5, none⟩ = some (.int .i64 c.wait) := ext_cell hrow.out (by omega) rfl
  have FH := Lib.hid F
  obtain ⟨⟨f00, f01⟩, ⟨f10, f11⟩, ⟨f20, f21⟩, ⟨f30, f31⟩, ⟨f40, f41⟩, ⟨f50, f51⟩, ⟨f60, f61⟩, ⟨f70, f71⟩, ⟨f80, f81⟩, ⟨f90, f91⟩, ⟨fa0, fa1⟩⟩ := F
  go_enter Try.func17, Try.ntmps17
  go_wp2
  refine wp_region_mono (w.heap.size + 1) (by kernel_rfl) (by kernel_rfl) ?_
  repeat (any_goals (first | (refine wpQuiet_load_row rfl 32 _ rfl w.heap.size rfl 32 (cfg c) (0, 0) _ (ext_row hrow.out (by omega)) Try.underlying32 rfl (cfg2_size c) ?_; go_simp) | go_big_quiet_step ((first | (go_at_call 15; exact Calls.ext hs1 (att_of c _ FH.out)) | (go_at_call 16; exact Calls.ext hs1 (fal_of c _ FH.out))))))
  refine wpQuiet_nil ?_
  rintro ⟨w2, hb2⟩
  go_wp2
  go_ret
  exact ⟨rfl, hb1.out.trans (hb2.mono (by omega))⟩

theorem solo_of (c : Cfg) (w : World) (F : Fine c) :
    Calls Try.prog 18 #[.agg (cfg c)] w fun e w' => e = .returned (.int .i64 (att c + att c + c.wait + fal c)) ∧ Below w.heap.size w w' := by
  obtain ⟨w1, hw1⟩ : ∃ w1, w.alloc (.cells (cfg c) 32) = w1 := ⟨_, rfl⟩
  have hrow : Hid (w1.heap[w.heap.size]? = some (.cells (cfg c) 32 (0, 0))) := by rw [← hw1]; exact new_row _ _ _
  have hb1 : Hid (Below w.heap.size w w1) := by rw [← hw1]; exact (Below.refl _ _).alloc (Nat.le_refl _) _
  have hs1 : w.heap.size + 1 ≤ w1.heap.size := by rw [← hw1]; simp
  have _b := att_in F
  have _c := fal_in F
  have hk5 : ∀ e : Ext (w.heap.size + 1) w1, e.at_.cell? ⟨w.heap.size, 5, none⟩ = some (.int .i64 c.wait) := ext_cell hrow.out (by omega) rfl
  have FH := Lib.hid F
  obtain ⟨⟨f00, f01⟩, ⟨f10, f11⟩, ⟨f20, f21⟩, ⟨f30, f31⟩, ⟨f40, f41⟩, ⟨f50, f51⟩, ⟨f60, f61⟩, ⟨f70, f71⟩, ⟨f80, f81⟩, ⟨f90, f91⟩, ⟨fa0, fa1⟩⟩ := F
  go_enter Try.func18, Try.ntmps18
  go_wp2
  refine wp_region_mono (w.heap.size + 1) (by kernel_rfl) (by kernel_rfl) ?_
  repeat (any_goals (first | (refine wpQuiet_load_row rfl 32 _ rfl w.heap.size rfl 32 (cfg c) (0, 0) _ (ext_row hrow.out (by omega)) Try.underlying32 rfl (cfg2_size c) ?_; go_simp) | go_big_quiet_step ((first | (go_at_call 15; exact Calls.ext hs1 (att_of c _ FH.out)) | (go_at_call 16; exact Calls.ext hs1 (fal_of c _ FH.out))))))
  refine wpQuiet_nil ?_
  rintro ⟨w2, hb2⟩
  go_wp2
  go_ret
  exact ⟨rfl, hb1.out.trans (hb2.mono (by omega))⟩


end Ref28
end Go.Proofs.Ytnpieopflgkjdaa
