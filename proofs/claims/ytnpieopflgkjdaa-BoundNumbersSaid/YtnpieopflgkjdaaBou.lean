import Derived.Test.YtnpieopflgkjdaaLay
namespace Go.Proofs.Ytnpieopflgkjdaa
open Go.RowKit Go.Bas
namespace Bou
open Lay

theorem none_any (c : Cfg) (a : At) (w : World) :
    Calls Try.prog 48 #[.agg (lay c a)] w fun e w' => e = .returned (.bool (a.a11 == 0)) ∧ Below w.heap.size w w' := by
  obtain ⟨w1, hw1⟩ : ∃ w1, w.alloc (.cells (lay c a) 27) = w1 := ⟨_, rfl⟩
  have hrow : Hid (w1.heap[w.heap.size]? = some (.cells (lay c a) 27 (0, 0))) := by rw [← hw1]; exact new_row _ _ _
  have hb1 : Hid (Below w.heap.size w w1) := by rw [← hw1]; exact (Below.refl _ _).alloc (Nat.le_refl _) _
  have hs1 : w.heap.size ≤ w1.heap.size := hb1.out.size
  go_enter Try.func48, Try.ntmps48
  go_wp2_with (first | (refine wpList_load_row rfl 27 _ rfl w.heap.size rfl 27 (lay c a) (0, 0) _ hrow.out Try.underlying27 rfl (lay_size c a) ?_) | (go_at_call 81; refine (words_any c a _).mono ?_; rintro e w2 ⟨rfl, hb2⟩))
  go_ret
  exact ⟨rfl, hb1.out.trans (hb2.mono hs1)⟩

/-- numbers that are small enough to be reckoned with -/
structure Mild (c : Cfg) (a : At) : Prop where
  w : 0 ≤ a.a11 ∧ a.a11 ≤ 100000
  s : 0 ≤ c.stripes ∧ c.stripes ≤ 64
  k : 0 ≤ c.workers ∧ c.workers ≤ 64
  t : 0 ≤ c.tries ∧ c.tries ≤ 16
  p : 0 ≤ c.wait ∧ c.wait ≤ 64

def att (c : Cfg) (a : At) : Int := if a.a11 = 0 then 0 else 4 * (a.a11 + c.stripes) + 8
def fal (c : Cfg) (a : At) : Int := if a.a11 = 0 then 0 else 4 * (a.a11 + c.stripes) + 8 * c.workers + 64

theorem att_mild {c : Cfg} {a : At} (m : Mild c a) : 0 ≤ att c a ∧ att c a ≤ 1000000 := by
  obtain ⟨m1, m2, m3, m4, m5⟩ := m
  unfold att; split <;> omega
theorem fal_mild {c : Cfg} {a : At} (m : Mild c a) : 0 ≤ fal c a ∧ fal c a ≤ 1000000 := by
  obtain ⟨m1, m2, m3, m4, m5⟩ := m
  unfold fal; split <;> omega
theorem mul_mild {c : Cfg} {a : At} (m : Mild c a) : 0 ≤ c.tries * (att c a + c.wait) ∧ c.tries * (att c a + c.wait) ≤ 100000000 := by
  have h := att_mild m
  obtain ⟨m1, m2, m3, m4, m5⟩ := m
  refine ⟨Int.mul_nonneg (by omega) (by omega), ?_⟩
  have := @Int.mul_le_mul c.tries (att c a + c.wait) 16 2000000 (by omega) (by omega) (by omega) (by omega)
  omega

theorem words_mild (c : Cfg) (a : At) (w : World) (m : Mild c a) :
    Calls Try.prog 49 #[.agg (lay c a)] w fun e w' => e = .returned (.int .i64 (4 * (a.a11 + c.stripes))) ∧ Below w.heap.size w w' := by
  obtain ⟨w1, hw1⟩ : ∃ w1, w.alloc (.cells (lay c a) 27) = w1 := ⟨_, rfl⟩
  have hrow : Hid (w1.heap[w.heap.size]? = some (.cells (lay c a) 27 (0, 0))) := by rw [← hw1]; exact new_row _ _ _
  have hb1 : Hid (Below w.heap.size w w1) := by rw [← hw1]; exact (Below.refl _ _).alloc (Nat.le_refl _) _
  have hs1 : w.heap.size + 1 ≤ w1.heap.size := by rw [← hw1]; simp
  go_enter Try.func49, Try.ntmps49
  obtain ⟨⟨m10, m11⟩, ⟨m20, m21⟩, ⟨m30, m31⟩, ⟨m40, m41⟩, ⟨m50, m51⟩⟩ := m
  go_wp2
  refine wp_region_mono (w.heap.size + 1) (by kernel_rfl) (by kernel_rfl) ?_
  repeat (any_goals (first | (refine wpQuiet_load_row rfl 27 _ rfl w.heap.size rfl 27 (lay c a) (0, 0) _ (ext_row hrow.out (by omega)) Try.underlying27 rfl (lay_size c a) ?_; go_simp) | go_big_quiet_step ((first | (go_at_call 81; exact Calls.ext hs1 (words_any c a _)) | (go_at_call 50; exact Calls.ext hs1 (config_any c a _))))))
  refine wpQuiet_nil ?_
  rintro ⟨w2, hb2⟩
  go_wp2
  go_ret
  exact ⟨rfl, hb1.out.trans (hb2.mono (by omega))⟩

theorem attempt_mild (c : Cfg) (a : At) (w : World) (m : Mild c a) :
    Calls Try.prog 11 #[.agg (lay c a)] w fun e w' => e = .returned (.int .i64 (att c a)) ∧ Below w.heap.size w w' := by
  obtain ⟨w1, hw1⟩ : ∃ w1, w.alloc (.cells (lay c a) 27) = w1 := ⟨_, rfl⟩
  have hrow : Hid (w1.heap[w.heap.size]? = some (.cells (lay c a) 27 (0, 0))) := by rw [← hw1]; exact new_row _ _ _
  have hb1 : Hid (Below w.heap.size w w1) := by rw [← hw1]; exact (Below.refl _ _).alloc (Nat.le_refl _) _
  have hs1 : w.heap.size + 1 ≤ w1.heap.size := by rw [← hw1]; simp
  have mH := Lib.hid m
  obtain ⟨⟨m10, m11⟩, ⟨m20, m21⟩, ⟨m30, m31⟩, ⟨m40, m41⟩, ⟨m50, m51⟩⟩ := m
  go_enter Try.func11, Try.ntmps11
  by_cases z : a.a11 = 0
  · go_wp2_with (first | (refine wpList_load_row rfl 27 _ rfl w.heap.size rfl 27 (lay c a) (0, 0) _ hrow.out Try.underlying27 rfl (lay_size c a) ?_) | (refine wpList_load_row rfl 27 _ rfl w.heap.size rfl 27 (lay c a) (0, 0) _ (by rw [hb3.out.block _ (by omega)]; exact hrow.out) Try.underlying27 rfl (lay_size c a) ?_) | (go_at_call 48; refine (none_any c a _).mono ?_; rintro e w3 ⟨rfl, hb3⟩; have hb3 := Lib.hid hb3; have hs3 := hb3.out.size) | (go_at_call 49; refine (words_mild c a _ mH.out).mono ?_; rintro e w4 ⟨rfl, hb4⟩; have hb4 := Lib.hid hb4; have hs4 := hb4.out.size))
    go_ret
    exact ⟨by simp [att, z], hb1.out.trans (hb3.out.mono (by omega))⟩
  · go_wp2_with (first | (refine wpList_load_row rfl 27 _ rfl w.heap.size rfl 27 (lay c a) (0, 0) _ hrow.out Try.underlying27 rfl (lay_size c a) ?_) | (refine wpList_load_row rfl 27 _ rfl w.heap.size rfl 27 (lay c a) (0, 0) _ (by rw [hb3.out.block _ (by omega)]; exact hrow.out) Try.underlying27 rfl (lay_size c a) ?_) | (go_at_call 48; refine (none_any c a _).mono ?_; rintro e w3 ⟨rfl, hb3⟩; have hb3 := Lib.hid hb3; have hs3 := hb3.out.size) | (go_at_call 49; refine (words_mild c a _ mH.out).mono ?_; rintro e w4 ⟨rfl, hb4⟩; have hb4 := Lib.hid hb4; have hs4 := hb4.out.size))
    go_ret
    exact ⟨by simp [att, z], hb1.out.trans ((hb3.out.trans (hb4.out.mono (by omega))).mono (by omega))⟩

theorem fall_mild (c : Cfg) (a : At) (w : World) (m : Mild c a) :
    Calls Try.prog 12 #[.agg (lay c a)] w fun e w' => e = .returned (.int .i64 (fal c a)) ∧ Below w.heap.size w w' := by
  obtain ⟨w1, hw1⟩ : ∃ w1, w.alloc (.cells (lay c a) 27) = w1 := ⟨_, rfl⟩
  have hrow : Hid (w1.heap[w.heap.size]? = some (.cells (lay c a) 27 (0, 0))) := by rw [← hw1]; exact new_row _ _ _
  have hb1 : Hid (Below w.heap.size w w1) := by rw [← hw1]; exact (Below.refl _ _).alloc (Nat.le_refl _) _
  have hs1 : w.heap.size + 1 ≤ w1.heap.size := by rw [← hw1]; simp
  have mH := Lib.hid m
  obtain ⟨⟨m10, m11⟩, ⟨m20, m21⟩, ⟨m30, m31⟩, ⟨m40, m41⟩, ⟨m50, m51⟩⟩ := m
  go_enter Try.func12, Try.ntmps12
  by_cases z : a.a11 = 0
  · go_wp2_with (first | (refine wpList_load_row rfl 27 _ rfl w.heap.size rfl 27 (lay c a) (0, 0) _ hrow.out Try.underlying27 rfl (lay_size c a) ?_) | (go_at_call 48; refine (none_any c a _).mono ?_; rintro e w3 ⟨rfl, hb3⟩; have hb3 := Lib.hid hb3; have hs3 := hb3.out.size))
    go_ret
    exact ⟨by simp [fal, z], hb1.out.trans (hb3.out.mono (by omega))⟩
  · go_wp2_with (first | (refine wpList_load_row rfl 27 _ rfl w.heap.size rfl 27 (lay c a) (0, 0) _ hrow.out Try.underlying27 rfl (lay_size c a) ?_) | (go_at_call 48; refine (none_any c a _).mono ?_; rintro e w3 ⟨rfl, hb3⟩; have hb3 := Lib.hid hb3; have hs3 := hb3.out.size))
    have hrow3 : Hid (w3.heap[w.heap.size]? = some (.cells (lay c a) 27 (0, 0))) := Lib.hid (by rw [hb3.out.block _ (by omega)]; exact hrow.out)
    have hs4 : w.heap.size + 1 ≤ w3.heap.size := by omega
    refine wp_region_mono (w.heap.size + 1) (by kernel_rfl) (by kernel_rfl) ?_
    repeat (any_goals (first | (refine wpQuiet_load_row rfl 27 _ rfl w.heap.size rfl 27 (lay c a) (0, 0) _ (ext_row hrow3.out (by omega)) Try.underlying27 rfl (lay_size c a) ?_; go_simp) | go_big_quiet_step ((first | (go_at_call 49; exact Calls.ext hs4 (words_mild c a _ mH.out)) | (go_at_call 50; exact Calls.ext hs4 (config_any c a _))))))
    refine wpQuiet_nil ?_
    rintro ⟨w2, hb2⟩
    go_wp2
    go_ret
    exact ⟨by simp [fal, z], hb1.out.trans ((hb3.out.mono (by omega)).trans (hb2.mono (by omega)))⟩

theorem rounds_mild (c : Cfg) (a : At) (w : World) (m : Mild c a) :
    Calls Try.prog 13 #[.agg (lay c a)] w fun e w' => e = .returned (.int .i64 (c.tries * (att c a + c.wait) + fal c a)) ∧ Below w.heap.size w w' := by
  obtain ⟨w1, hw1⟩ : ∃ w1, w.alloc (.cells (lay c a) 27) = w1 := ⟨_, rfl⟩
  have hrow : Hid (w1.heap[w.heap.size]? = some (.cells (lay c a) 27 (0, 0))) := by rw [← hw1]; exact new_row _ _ _
  have hb1 : Hid (Below w.heap.size w w1) := by rw [← hw1]; exact (Below.refl _ _).alloc (Nat.le_refl _) _
  have hs1 : w.heap.size + 1 ≤ w1.heap.size := by rw [← hw1]; simp
  have f1 := att_mild m
  have f2 := fal_mild m
  have f3 := mul_mild m
  have mH := Lib.hid m
  obtain ⟨⟨m10, m11⟩, ⟨m20, m21⟩, ⟨m30, m31⟩, ⟨m40, m41⟩, ⟨m50, m51⟩⟩ := m
  go_enter Try.func13, Try.ntmps13
  go_wp2
  refine wp_region_mono (w.heap.size + 1) (by kernel_rfl) (by kernel_rfl) ?_
  repeat (any_goals (first | (refine wpQuiet_load_row rfl 27 _ rfl w.heap.size rfl 27 (lay c a) (0, 0) _ (ext_row hrow.out (by omega)) Try.underlying27 rfl (lay_size c a) ?_; go_simp) | go_big_quiet_step ((first | (go_at_call 11; exact Calls.ext hs1 (attempt_mild c a _ mH.out)) | (go_at_call 12; exact Calls.ext hs1 (fall_mild c a _ mH.out)) | (go_at_call 50; exact Calls.ext hs1 (config_any c a _))))))
  refine wpQuiet_nil ?_
  rintro ⟨w2, hb2⟩
  go_wp2
  go_ret
  exact ⟨rfl, hb1.out.trans (hb2.mono (by omega))⟩

theorem solo_mild (c : Cfg) (a : At) (w : World) (m : Mild c a) :
    Calls Try.prog 14 #[.agg (lay c a)] w fun e w' => e = .returned (.int .i64 (2 * att c a + c.wait + fal c a)) ∧ Below w.heap.size w w' := by
  obtain ⟨w1, hw1⟩ : ∃ w1, w.alloc (.cells (lay c a) 27) = w1 := ⟨_, rfl⟩
  have hrow : Hid (w1.heap[w.heap.size]? = some (.cells (lay c a) 27 (0, 0))) := by rw [← hw1]; exact new_row _ _ _
  have hb1 : Hid (Below w.heap.size w w1) := by rw [← hw1]; exact (Below.refl _ _).alloc (Nat.le_refl _) _
  have hs1 : w.heap.size + 1 ≤ w1.heap.size := by rw [← hw1]; simp
  have f1 := att_mild m
  have f2 := fal_mild m
  have f3 := mul_mild m
  have mH := Lib.hid m
  obtain ⟨⟨m10, m11⟩, ⟨m20, m21⟩, ⟨m30, m31⟩, ⟨m40, m41⟩, ⟨m50, m51⟩⟩ := m
  go_enter Try.func14, Try.ntmps14
  go_wp2
  refine wp_region_mono (w.heap.size + 1) (by kernel_rfl) (by kernel_rfl) ?_
  repeat (any_goals (first | (refine wpQuiet_load_row rfl 27 _ rfl w.heap.size rfl 27 (lay c a) (0, 0) _ (ext_row hrow.out (by omega)) Try.underlying27 rfl (lay_size c a) ?_; go_simp) | go_big_quiet_step ((first | (go_at_call 11; exact Calls.ext hs1 (attempt_mild c a _ mH.out)) | (go_at_call 12; exact Calls.ext hs1 (fall_mild c a _ mH.out)) | (go_at_call 50; exact Calls.ext hs1 (config_any c a _))))))
  refine wpQuiet_nil ?_
  rintro ⟨w2, hb2⟩
  go_wp2
  go_ret
  exact ⟨rfl, hb1.out.trans (hb2.mono (by omega))⟩


end Bou
end Go.Proofs.Ytnpieopflgkjdaa
