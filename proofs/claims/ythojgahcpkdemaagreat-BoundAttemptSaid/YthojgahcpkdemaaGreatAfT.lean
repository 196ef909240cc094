/- Lemmas of this seat's proofs, several texts laid together. -/
import Derived.Test.YthojgahcpkdemaaGreatAfC
import Derived.Test.YthojgahcpkdemaaGreatAfI
import Derived.Test.YthojgahcpkdemaaGreatAfN
import Derived.Test.YthojgahcpkdemaaGreatAfK
import Derived.Test.YthojgahcpkdemaaGreatAfP
import Derived.Test.YthojgahcpkdemaaGreatAfR
import Derived.Test.YthojgahcpkdemaaGreatWLast
import Derived.ProofKit
import Derived.OpenShut
import Derived.ShutString
import Derived.ChangeOld
import Derived.Below
set_option linter.unusedVariables false
set_option linter.unusedSimpArgs false
namespace Go.Proofs.YthojgahcpkdemaaGreat
open Go.RowKit Go.Bas
namespace Bou
open Lay

theorem none_any (c : Cfg) (a : At) (w : World) :
    Calls Tryz.prog 41 #[.agg (lay c a)] w fun e w' => e = .returned (.bool (a.a11 == 0)) ∧ Below w.heap.size w w' := by
  obtain ⟨w1, hw1⟩ : ∃ w1, w.alloc (.cells (lay c a) 29) = w1 := ⟨_, rfl⟩
  have hrow : Hid (w1.heap[w.heap.size]? = some (.cells (lay c a) 29 (0, 0))) := by rw [← hw1]; exact new_row _ _ _
  have hb1 : Hid (Below w.heap.size w w1) := by rw [← hw1]; exact (Below.refl _ _).alloc (Nat.le_refl _) _
  have hs1 : w.heap.size ≤ w1.heap.size := hb1.out.size
  go_enter Tryz.func41, Tryz.ntmps41
  go_wp2_with (first | (refine wpList_load_row rfl 29 _ rfl w.heap.size rfl 29 (lay c a) (0, 0) _ hrow.out Tryz.underlying29 rfl (lay_size c a) ?_) | (go_at_call 50; refine (words_any c a _).mono ?_; rintro e w2 ⟨rfl, hb2⟩))
  go_ret
  exact ⟨rfl, hb1.out.trans (hb2.mono hs1)⟩

/-- numbers that are small enough to be reckoned with -/
structure Mild (c : Cfg) (a : At) : Prop where
  w : 0 ≤ a.a11 ∧ a.a11 ≤ 100000
  s : 0 ≤ c.stripes ∧ c.stripes ≤ 64
  k : 0 ≤ c.workers ∧ c.workers ≤ 64
  t : 0 ≤ c.tries ∧ c.tries ≤ 16
  p : 0 ≤ c.wait ∧ c.wait ≤ 64

def att (c : Cfg) (a : At) : Int := if a.a11 = 0 then 0 else 4 * (a.a11 + c.stripes) + 8
def fal (c : Cfg) (a : At) : Int := if a.a11 = 0 then 0 else 4 * (a.a11 + c.stripes) + 8 * c.workers + 64

theorem att_mild {c : Cfg} {a : At} (m : Mild c a) : 0 ≤ att c a ∧ att c a ≤ 1000000 := by
  obtain ⟨m1, m2, m3, m4, m5⟩ := m
  unfold att; split <;> omega
theorem fal_mild {c : Cfg} {a : At} (m : Mild c a) : 0 ≤ fal c a ∧ fal c a ≤ 1000000 := by
  obtain ⟨m1, m2, m3, m4, m5⟩ := m
  unfold fal; split <;> omega
theorem mul_mild {c : Cfg} {a : At} (m : Mild c a) : 0 ≤ c.tries * (att c a + c.wait) ∧ c.tries * (att c a + c.wait) ≤ 100000000 := by
  have h := att_mild m
  obtain ⟨m1, m2, m3, m4, m5⟩ := m
  refine ⟨Int.mul_nonneg (by omega) (by omega), ?_⟩
  have := @Int.mul_le_mul c.tries (att c a + c.wait) 16 2000000 (by omega) (by omega) (by omega) (by omega)
  omega

theorem words_mild (c : Cfg) (a : At) (w : World) (m : Mild c a) :
    Calls Tryz.prog 42 #[.agg (lay c a)] w fun e w' => e = .returned (.int .i64 (4 * (a.a11 + c.stripes))) ∧ Below w.heap.size w w' := by
  obtain ⟨w1, hw1⟩ : ∃ w1, w.alloc (.cells (lay c a) 29) = w1 := ⟨_, rfl⟩
  have hrow : Hid (w1.heap[w.heap.size]? = some (.cells (lay c a) 29 (0, 0))) := by rw [← hw1]; exact new_row _ _ _
  have hb1 : Hid (Below w.heap.size w w1) := by rw [← hw1]; exact (Below.refl _ _).alloc (Nat.le_refl _) _
  have hs1 : w.heap.size + 1 ≤ w1.heap.size := by rw [← hw1]; simp
  go_enter Tryz.func42, Tryz.ntmps42
  obtain ⟨⟨m10, m11⟩, ⟨m20, m21⟩, ⟨m30, m31⟩, ⟨m40, m41⟩, ⟨m50, m51⟩⟩ := m
  go_wp2
  refine wp_region_mono (w.heap.size + 1) (by kernel_rfl) (by kernel_rfl) ?_
  repeat (any_goals (first | (refine wpQuiet_load_row rfl 29 _ rfl w.heap.size rfl 29 (lay c a) (0, 0) _ (ext_row hrow.out (by omega)) Tryz.underlying29 rfl (lay_size c a) ?_; go_simp) | go_big_quiet_step ((first | (go_at_call 50; exact Calls.ext hs1 (words_any c a _)) | (go_at_call 20; exact Calls.ext hs1 (config_any c a _))))))
  refine wpQuiet_nil ?_
  rintro ⟨w2, hb2⟩
  go_wp2
  go_ret
  exact ⟨rfl, hb1.out.trans (hb2.mono (by omega))⟩

theorem attempt_mild (c : Cfg) (a : At) (w : World) (m : Mild c a) :
    Calls Tryz.prog 11 #[.agg (lay c a)] w fun e w' => e = .returned (.int .i64 (att c a)) ∧ Below w.heap.size w w' := by
  obtain ⟨w1, hw1⟩ : ∃ w1, w.alloc (.cells (lay c a) 29) = w1 := ⟨_, rfl⟩
  have hrow : Hid (w1.heap[w.heap.size]? = some (.cells (lay c a) 29 (0, 0))) := by rw [← hw1]; exact new_row _ _ _
  have hb1 : Hid (Below w.heap.size w w1) := by rw [← hw1]; exact (Below.refl _ _).alloc (Nat.le_refl _) _
  have hs1 : w.heap.size + 1 ≤ w1.heap.size := by rw [← hw1]; simp
  have mH := Lib.hid m
  obtain ⟨⟨m10, m11⟩, ⟨m20, m21⟩, ⟨m30, m31⟩, ⟨m40, m41⟩, ⟨m50, m51⟩⟩ := m
  go_enter Tryz.func11, Tryz.ntmps11
  by_cases z : a.a11 = 0
  · go_wp2_with (first | (refine wpList_load_row rfl 29 _ rfl w.heap.size rfl 29 (lay c a) (0, 0) _ hrow.out Tryz.underlying29 rfl (lay_size c a) ?_) | (refine wpList_load_row rfl 29 _ rfl w.heap.size rfl 29 (lay c a) (0, 0) _ (by rw [hb3.out.block _ (by omega)]; exact hrow.out) Tryz.underlying29 rfl (lay_size c a) ?_) | (go_at_call 41; refine (none_any c a _).mono ?_; rintro e w3 ⟨rfl, hb3⟩; have hb3 := Lib.hid hb3; have hs3 := hb3.out.size) | (go_at_call 42; refine (words_mild c a _ mH.out).mono ?_; rintro e w4 ⟨rfl, hb4⟩; have hb4 := Lib.hid hb4; have hs4 := hb4.out.size))
    go_ret
    exact ⟨by simp [att, z], hb1.out.trans (hb3.out.mono (by omega))⟩
  · go_wp2_with (first | (refine wpList_load_row rfl 29 _ rfl w.heap.size rfl 29 (lay c a) (0, 0) _ hrow.out Tryz.underlying29 rfl (lay_size c a) ?_) | (refine wpList_load_row rfl 29 _ rfl w.heap.size rfl 29 (lay c a) (0, 0) _ (by rw [hb3.out.block _ (by omega)]; exact hrow.out) Tryz.underlying29 rfl (lay_size c a) ?_) | (go_at_call 41; refine (none_any c a _).mono ?_; rintro e w3 ⟨rfl, hb3⟩; have hb3 := Lib.hid hb3; have hs3 := hb3.out.size) | (go_at_call 42; refine (words_mild c a _ mH.out).mono ?_; rintro e w4 ⟨rfl, hb4⟩; have hb4 := Lib.hid hb4; have hs4 := hb4.out.size))
    go_ret
    exact ⟨by simp [att, z], hb1.out.trans ((hb3.out.trans (hb4.out.mono (by omega))).mono (by omega))⟩

theorem fall_mild (c : Cfg) (a : At) (w : World) (m : Mild c a) :
    Calls Tryz.prog 34 #[.agg (lay c a)] w fun e w' => e = .returned (.int .i64 (fal c a)) ∧ Below w.heap.size w w' := by
  obtain ⟨w1, hw1⟩ : ∃ w1, w.alloc (.cells (lay c a) 29) = w1 := ⟨_, rfl⟩
  have hrow : Hid (w1.heap[w.heap.size]? = some (.cells (lay c a) 29 (0, 0))) := by rw [← hw1]; exact new_row _ _ _
  have hb1 : Hid (Below w.heap.size w w1) := by rw [← hw1]; exact (Below.refl _ _).alloc (Nat.le_refl _) _
  have hs1 : w.heap.size + 1 ≤ w1.heap.size := by rw [← hw1]; simp
  have mH := Lib.hid m
  obtain ⟨⟨m10, m11⟩, ⟨m20, m21⟩, ⟨m30, m31⟩, ⟨m40, m41⟩, ⟨m50, m51⟩⟩ := m
  go_enter Tryz.func34, Tryz.ntmps34
  by_cases z : a.a11 = 0
  · go_wp2_with (first | (refine wpList_load_row rfl 29 _ rfl w.heap.size rfl 29 (lay c a) (0, 0) _ hrow.out Tryz.underlying29 rfl (lay_size c a) ?_) | (go_at_call 41; refine (none_any c a _).mono ?_; rintro e w3 ⟨rfl, hb3⟩; have hb3 := Lib.hid hb3; have hs3 := hb3.out.size))
    go_ret
    exact ⟨by simp [fal, z], hb1.out.trans (hb3.out.mono (by omega))⟩
  · go_wp2_with (first | (refine wpList_load_row rfl 29 _ rfl w.heap.size rfl 29 (lay c a) (0, 0) _ hrow.out Tryz.underlying29 rfl (lay_size c a) ?_) | (go_at_call 41; refine (none_any c a _).mono ?_; rintro e w3 ⟨rfl, hb3⟩; have hb3 := Lib.hid hb3; have hs3 := hb3.out.size))
    have hrow3 : Hid (w3.heap[w.heap.size]? = some (.cells (lay c a) 29 (0, 0))) := Lib.hid (by rw [hb3.out.block _ (by omega)]; exact hrow.out)
    have hs4 : w.heap.size + 1 ≤ w3.heap.size := by omega
    refine wp_region_mono (w.heap.size + 1) (by kernel_rfl) (by kernel_rfl) ?_
    repeat (any_goals (first | (refine wpQuiet_load_row rfl 29 _ rfl w.heap.size rfl 29 (lay c a) (0, 0) _ (ext_row hrow3.out (by omega)) Tryz.underlying29 rfl (lay_size c a) ?_; go_simp) | go_big_quiet_step ((first | (go_at_call 42; exact Calls.ext hs4 (words_mild c a _ mH.out)) | (go_at_call 20; exact Calls.ext hs4 (config_any c a _))))))
    refine wpQuiet_nil ?_
    rintro ⟨w2, hb2⟩
    go_wp2
    go_ret
    exact ⟨by simp [fal, z], hb1.out.trans ((hb3.out.mono (by omega)).trans (hb2.mono (by omega)))⟩

theorem rounds_mild (c : Cfg) (a : At) (w : World) (m : Mild c a) :
    Calls Tryz.prog 35 #[.agg (lay c a)] w fun e w' => e = .returned (.int .i64 (c.tries * (att c a + c.wait) + fal c a)) ∧ Below w.heap.size w w' := by
  obtain ⟨w1, hw1⟩ : ∃ w1, w.alloc (.cells (lay c a) 29) = w1 := ⟨_, rfl⟩
  have hrow : Hid (w1.heap[w.heap.size]? = some (.cells (lay c a) 29 (0, 0))) := by rw [← hw1]; exact new_row _ _ _
  have hb1 : Hid (Below w.heap.size w w1) := by rw [← hw1]; exact (Below.refl _ _).alloc (Nat.le_refl _) _
  have hs1 : w.heap.size + 1 ≤ w1.heap.size := by rw [← hw1]; simp
  have f1 := att_mild m
  have f2 := fal_mild m
  have f3 := mul_mild m
  have mH := Lib.hid m
  obtain ⟨⟨m10, m11⟩, ⟨m20, m21⟩, ⟨m30, m31⟩, ⟨m40, m41⟩, ⟨m50, m51⟩⟩ := m
  go_enter Tryz.func35, Tryz.ntmps35
  go_wp2
  refine wp_region_mono (w.heap.size + 1) (by kernel_rfl) (by kernel_rfl) ?_
  repeat (any_goals (first | (refine wpQuiet_load_row rfl 29 _ rfl w.heap.size rfl 29 (lay c a) (0, 0) _ (ext_row hrow.out (by omega)) Tryz.underlying29 rfl (lay_size c a) ?_; go_simp) | go_big_quiet_step ((first | (go_at_call 11; exact Calls.ext hs1 (attempt_mild c a _ mH.out)) | (go_at_call 34; exact Calls.ext hs1 (fall_mild c a _ mH.out)) | (go_at_call 20; exact Calls.ext hs1 (config_any c a _))))))
  refine wpQuiet_nil ?_
  rintro ⟨w2, hb2⟩
  go_wp2
  go_ret
  exact ⟨rfl, hb1.out.trans (hb2.mono (by omega))⟩

theorem solo_mild (c : Cfg) (a : At) (w : World) (m : Mild c a) :
    Calls Tryz.prog 36 #[.agg (lay c a)] w fun e w' => e = .returned (.int .i64 (2 * att c a + c.wait + fal c a)) ∧ Below w.heap.size w w' := by
  obtain ⟨w1, hw1⟩ : ∃ w1, w.alloc (.cells (lay c a) 29) = w1 := ⟨_, rfl⟩
  have hrow : Hid (w1.heap[w.heap.size]? = some (.cells (lay c a) 29 (0, 0))) := by rw [← hw1]; exact new_row _ _ _
  have hb1 : Hid (Below w.heap.size w w1) := by rw [← hw1]; exact (Below.refl _ _).alloc (Nat.le_refl _) _
  have hs1 : w.heap.size + 1 ≤ w1.heap.size := by rw [← hw1]; simp
  have f1 := att_mild m
  have f2 := fal_mild m
  have f3 := mul_mild m
  have mH := Lib.hid m
  obtain ⟨⟨m10, m11⟩, ⟨m20, m21⟩, ⟨m30, m31⟩, ⟨m40, m41⟩, ⟨m50, m51⟩⟩ := m
  go_enter Tryz.func36, Tryz.ntmps36
  go_wp2
  refine wp_region_mono (w.heap.size + 1) (by kernel_rfl) (by kernel_rfl) ?_
  repeat (any_goals (first | (refine wpQuiet_load_row rfl 29 _ rfl w.heap.size rfl 29 (lay c a) (0, 0) _ (ext_row hrow.out (by omega)) Tryz.underlying29 rfl (lay_size c a) ?_; go_simp) | go_big_quiet_step ((first | (go_at_call 11; exact Calls.ext hs1 (attempt_mild c a _ mH.out)) | (go_at_call 34; exact Calls.ext hs1 (fall_mild c a _ mH.out)) | (go_at_call 20; exact Calls.ext hs1 (config_any c a _))))))
  refine wpQuiet_nil ?_
  rintro ⟨w2, hb2⟩
  go_wp2
  go_ret
  exact ⟨rfl, hb1.out.trans (hb2.mono (by omega))⟩


end Bou
end Go.Proofs.YthojgahcpkdemaaGreat

namespace Go.Proofs.YthojgahcpkdemaaGreat
open Go.RowKit Go.Bas
open Lay RefLay Chk Of
namespace Liv28

theorem mild {c : Cfg} (F : Fine c) : Bou.Mild c (places c) := by
  have h := words_in F
  exact ⟨by rw [places_words]; omega, by have := F.stripes; omega, by have := F.workers; omega, F.tries, F.wait⟩
def one : Cfg := ⟨1, 1, 1, 1, 1, 2, 9, 1, 0, 0, 1⟩
theorem one_fine : Fine one := by constructor <;> decide
theorem one_att : Bou.att one (places one) = 652 := by decide
theorem one_fal : Bou.fal one (places one) = 716 := by decide

set_option maxRecDepth 100000 in
set_option maxHeartbeats 1000000 in
theorem lives_any (w : World) : Calls Tryz.prog 9 #[] w fun e w' => e = .returned (.bool true) ∧ Below w.heap.size w w' := by
  have m := Lib.hid (mild one_fine)
  have a1 := one_att; have a2 := one_fal
  have a3 : one.tries * (652 + one.wait) + 716 = 1370 := rfl
  have a4 : 2 * (652 : Int) + one.wait + 716 = 2022 := rfl
  go_enter Tryz.func9, Tryz.ntmps9
  go_wp2_with (first
    | (refine wpList_store_row rfl 29 _ _ rfl w3.heap.size (lay one (places one)) rfl rfl 29 #[.int .i64 0, .int .i64 0, .int .i64 0, .int .i64 0, .int .i64 0, .int .i64 0, .int .i64 0, .int .i64 0, .int .i64 0, .int .i64 0, .int .i64 0, .int .i64 0, .int .i64 0, .int .i64 0, .int .i64 0, .int .i64 0, .int .i64 0, .int .i64 0, .int .i64 0, .int .i64 0, .int .i64 0, .int .i64 0, .int .i64 0] Ra.out (lay_size _ _) rfl (lay_one _ _) ?_)
    | (refine wpList_load_row_if rfl 29 _ rfl w3.heap.size rfl 29 (lay one (places one)) (0, 0) _ (by first | exact R6.out | exact R5.out | exact R4.out | exact Rb.out) Tryz.underlying29 rfl (lay_size _ _) ?_)
    | (go_at_call 33; refine (of_of one _ one_fine).mono ?_; rintro e w3 ⟨rfl, hb3⟩
       obtain ⟨wa, hwa⟩ : ∃ wa, w3.alloc (.cells #[.int .i64 0, .int .i64 0, .int .i64 0, .int .i64 0, .int .i64 0, .int .i64 0, .int .i64 0, .int .i64 0, .int .i64 0, .int .i64 0, .int .i64 0, .int .i64 0, .int .i64 0, .int .i64 0, .int .i64 0, .int .i64 0, .int .i64 0, .int .i64 0, .int .i64 0, .int .i64 0, .int .i64 0, .int .i64 0, .int .i64 0] 29) = wa := ⟨_, rfl⟩
       have Ra : Hid (wa.heap[w3.heap.size]? = some (.cells #[.int .i64 0, .int .i64 0, .int .i64 0, .int .i64 0, .int .i64 0, .int .i64 0, .int .i64 0, .int .i64 0, .int .i64 0, .int .i64 0, .int .i64 0, .int .i64 0, .int .i64 0, .int .i64 0, .int .i64 0, .int .i64 0, .int .i64 0, .int .i64 0, .int .i64 0, .int .i64 0, .int .i64 0, .int .i64 0, .int .i64 0] 29 (0, 0))) := by rw [← hwa]; exact new_row _ _ _
       have Rb : Hid ((wa.setRow w3.heap.size (lay one (places one))).heap[w3.heap.size]? = some (.cells (lay one (places one)) 29 (0, 0))) := setRow_same Ra.out
       have Bb : Hid (Below w.heap.size w (wa.setRow w3.heap.size (lay one (places one)))) := by rw [← hwa]; exact setRow_below (hb3.alloc hb3.size _) hb3.size _)
    | (go_at_call 11; refine (Bou.attempt_mild one (places one) _ m.out).mono ?_; rintro e w4 ⟨rfl, hb4⟩
       have R4 : Hid (w4.heap[w3.heap.size]? = some (.cells (lay one (places one)) 29 (0, 0))) := by rw [Hid, hb4.block _ (by have := (Array.getElem?_eq_some_iff.1 Rb.out).1; exact this)]; exact Rb.out
       have B4 : Hid (Below w.heap.size w w4) := Bb.out.trans (hb4.mono Bb.out.size))
    | (go_at_call 34; refine (Bou.fall_mild one (places one) _ m.out).mono ?_; rintro e w5 ⟨rfl, hb5⟩
       have R5 : Hid (w5.heap[w3.heap.size]? = some (.cells (lay one (places one)) 29 (0, 0))) := by rw [Hid, hb5.block _ (by have := (Array.getElem?_eq_some_iff.1 R4.out).1; exact this)]; exact R4.out
       have B5 : Hid (Below w.heap.size w w5) := B4.out.trans (hb5.mono B4.out.size))
    | (go_at_call 35; refine (Bou.rounds_mild one (places one) _ m.out).mono ?_; rintro e w6 ⟨rfl, hb6⟩
       have R6 : Hid (w6.heap[w3.heap.size]? = some (.cells (lay one (places one)) 29 (0, 0))) := by rw [Hid, hb6.block _ (by have := (Array.getElem?_eq_some_iff.1 R5.out).1; exact this)]; exact R5.out
       have B6 : Hid (Below w.heap.size w w6) := B5.out.trans (hb6.mono B5.out.size))
    | (go_at_call 36; refine (Bou.solo_mild one (places one) _ m.out).mono ?_; rintro e w7 ⟨rfl, hb7⟩
       have R7 : Hid (w7.heap[w3.heap.size]? = some (.cells (lay one (places one)) 29 (0, 0))) := by rw [Hid, hb7.block _ (by have := (Array.getElem?_eq_some_iff.1 R6.out).1; exact this)]; exact R6.out
       have B7 : Hid (Below w.heap.size w w7) := B6.out.trans (hb7.mono B6.out.size))
    )
  go_ret
  exact ⟨rfl, B7.out⟩
end Liv28
end Go.Proofs.YthojgahcpkdemaaGreat

/- attempts, and how many steps each has made -/
namespace Go.Proofs.YthojgahcpkdemaaGreat
open Go.RowKit Go.Bas View VIn IMap_ VPlain Lay RefLay Of Small_
open Go.ChangeShapes Go.Sor
namespace Att

def mx (c0 : Cfg) : Int := 29 + 4 * (small c0).stripes
theorem muG_new' (c0 : Cfg) (o : Int) : muG c0 (newT o) ≤ mx c0 := by
  unfold muG mu newT mx; simp; omega
theorem mx_in (c0 : Cfg) : 33 ≤ mx c0 ∧ mx c0 ≤ 285 := by
  have := (small_fine c0).stripes; unfold mx; omega
theorem mild_small (c0 : Cfg) : Bou.Mild (small c0) (places (small c0)) := Liv28.mild (small_fine c0)
theorem most_in (c0 : Cfg) (js : List (List Ins)) : mx c0 < Bou.att (small c0) (places (small c0)) ∧ Bou.att (small c0) (places (small c0)) ≤ 1000000 := by
  have G := good_of c0 js 0
  have h1 := G.lo3; have h2 := G.fits; have h3 := G.str
  have e1 : (envOf c0 js 0).stripes = (small c0).stripes := rfl
  have e2 : (envOf c0 js 0).words = (places (small c0)).a11 := rfl
  have m := Bou.att_mild (mild_small c0)
  rw [e1] at h1 h3; rw [e2] at h2
  refine ⟨?_, m.2⟩
  unfold Bou.att mx
  rw [if_neg (by omega)]; omega

/-- how many steps each has made -/
structure BI (c0 : Cfg) (n : Nat) (T : Nat → AT) (U : List Int) (q : Nat) : Prop where
  len : U.length = n
  all : ∀ j, j < n → 0 ≤ U.getD j 0 ∧ U.getD j 0 ≤ q ∧ ((T j).phase ≠ 10 → U.getD j 0 + muG c0 (T j) ≤ mx c0)
theorem getD_set_self {U : List Int} {k : Nat} (x : Int) (hk : k < U.length) : (U.set k x).getD k 0 = x := by
  rw [List.getD_eq_getElem?_getD, List.getElem?_set_self hk]; rfl
theorem getD_set_ne {U : List Int} {k j : Nat} (x : Int) (h : j ≠ k) : (U.set k x).getD j 0 = U.getD j 0 := by
  rw [List.getD_eq_getElem?_getD, List.getElem?_set_ne (Ne.symm h), ← List.getD_eq_getElem?_getD]
theorem BI.new (c0 : Cfg) (n : Nat) : BI c0 n (fun i => newT i) (List.replicate n 0) 0 :=
  ⟨by simp, fun j hj => by
    have e : (List.replicate n (0 : Int)).getD j 0 = 0 := by rw [List.getD_eq_getElem?_getD, List.getElem?_replicate]; split <;> rfl
    rw [e]; exact ⟨by omega, by omega, fun _ => by have := muG_new' c0 j; omega⟩⟩
theorem BI.more {c0 : Cfg} {n : Nat} {T : Nat → AT} {U : List Int} {q q' : Nat} (h : BI c0 n T U q) (hq : q ≤ q') : BI c0 n T U q' :=
  ⟨h.len, fun j hj => by have := h.all j hj; exact ⟨this.1, by omega, this.2.2⟩⟩
/-- one is stepped, and counted -/
theorem BI.step {c0 : Cfg} {n : Nat} {T T' : Nat → AT} {U : List Int} {q k : Nat} (h : BI c0 n T U q) (hk : k < n) (hM : ((T k).phase = 10 ∧ T' = T) ∨ ((T k).phase ≠ 10 ∧ muG c0 (T' k) + 1 ≤ muG c0 (T k))) (hO : ∀ j, j ≠ k → T' j = T j) : BI c0 n T' (U.set k (U.getD k 0 + 1)) (q + 1) := by
  have hl := h.len
  refine ⟨by simp [hl], fun j hj => ?_⟩
  have a := h.all j hj
  by_cases e : j = k
  · subst e
    rw [getD_set_self _ (by omega)]
    refine ⟨by omega, by omega, fun hp => ?_⟩
    rcases hM with ⟨h1, h2⟩ | ⟨h1, h2⟩
    · rw [h2] at hp; exact absurd h1 hp
    · have := a.2.2 h1; omega
  · rw [getD_set_ne _ e, hO j e]; exact ⟨a.1, by omega, a.2.2⟩
/-- one is stepped, and not counted -/
theorem BI.only {c0 : Cfg} {n : Nat} {T T' : Nat → AT} {U : List Int} {q k : Nat} (h : BI c0 n T U q) (hM : ((T k).phase = 10 ∧ T' = T) ∨ ((T k).phase ≠ 10 ∧ muG c0 (T' k) + 1 ≤ muG c0 (T k))) (hO : ∀ j, j ≠ k → T' j = T j) : BI c0 n T' U q := by
  refine ⟨h.len, fun j hj => ?_⟩
  have a := h.all j hj
  by_cases e : j = k
  · subst e
    refine ⟨a.1, a.2.1, fun hp => ?_⟩
    rcases hM with ⟨h1, h2⟩ | ⟨h1, h2⟩
    · rw [h2] at hp; exact absurd h1 hp
    · have := a.2.2 h1; omega
  · rw [hO j e]; exact a

/-- attempts, and a row of numbers of the law's own -/
structure LB (w0 wr : World) (g0 base ob a g : Nat) (S K : Nat → Prop) (c0 : Cfg) (js : List (List Ins)) (bs : Nat → Nat) (p cap : Nat) (v3 : Value) (ss : List Int) (T : Nat → AT) (U : List Int) (m : Nat) : Prop where
  l2 : L2 (fun _ _ => True) wr wr base S K a g c0 js bs (.slice (some ⟨p, 0, none⟩) js.length cap) g0 v3 ss T m
  ir : IR wr ob U
  bel : Below g0 w0 wr
  pos : (g0 ≤ ob ∧ ob < base ∧ ob ≠ a ∧ ob ≠ g) ∧ g0 ≤ a ∧ g0 ≤ g
theorem LB.below {w0 wr w' : World} {g0 base ob a g : Nat} {S K : Nat → Prop} {c0 : Cfg} {js : List (List Ins)} {bs : Nat → Nat} {p cap : Nat} {v3 : Value} {ss : List Int} {T : Nat → AT} {U : List Int} {m : Nat} (h : LB w0 wr g0 base ob a g S K c0 js bs p cap v3 ss T U m) (hb : Below wr.heap.size wr w') : LB w0 w' g0 base ob a g S K c0 js bs p cap v3 ss T U m :=
  ⟨(h.l2.below hb).now, h.ir.keep (hb.block _ h.ir.lt), h.bel.trans (hb.mono (by have := h.ir.lt; have := h.pos; omega)), h.pos⟩
theorem LB.store {w0 wr : World} {g0 base ob a g : Nat} {S K : Nat → Prop} {c0 : Cfg} {js : List (List Ins)} {bs : Nat → Nat} {p cap : Nat} {v3 : Value} {ss : List Int} {T : Nat → AT} {U : List Int} {m : Nat} (h : LB w0 wr g0 base ob a g S K c0 js bs p cap v3 ss T U m) (U' : List Int) : LB w0 (wr.setRow ob (U'.map (Value.int .i64)).toArray) g0 base ob a g S K c0 js bs p cap v3 ss T U' m := by
  have q := h.pos
  have hs : (wr.setRow ob (U'.map (Value.int .i64)).toArray).heap.size = wr.heap.size := by simp
  exact ⟨h.l2.poke q.1.1 q.1.2.1 q.1.2.2 hs.symm (fun k hk => setRow_other _ _ _ _ hk), h.ir.now U', setRow_below h.bel q.1.1 _, q⟩
theorem LB.cell {w0 wr : World} {g0 base ob a g : Nat} {S K : Nat → Prop} {c0 : Cfg} {js : List (List Ins)} {bs : Nat → Nat} {p cap : Nat} {v3 : Value} {ss : List Int} {T : Nat → AT} {U : List Int} {m : Nat} (h : LB w0 wr g0 base ob a g S K c0 js bs p cap v3 ss T U m) {i : Nat} (hi : i < js.length) : wr.cell? ⟨p, i, none⟩ = some (.pointer (some ⟨bs i, 0, none⟩)) := h.l2.cell1 hi
theorem LB.step {w0 wr : World} {g0 base ob a g : Nat} {S K : Nat → Prop} {c0 : Cfg} {js : List (List Ins)} {bs : Nat → Nat} {p cap : Nat} {v3 : Value} {ss : List Int} {T : Nat → AT} {U : List Int} {m : Nat} (h : LB w0 wr g0 base ob a g S K c0 js bs p cap v3 ss T U m) (hjs : ∀ j ∈ js, SIn j) {i : Nat} (hi : i < js.length) (hm : m ≤ 1000000) :
    Calls Tryz.prog 16 #[.pointer (some ⟨bs i, 0, none⟩), .pointer (some ⟨a, 0, none⟩)] wr fun e w' => ∃ T' t, e = .returned (.int .i64 t) ∧ LB w0 w' g0 base ob a g S K c0 js bs p cap v3 ss T' U (m + 1) ∧
      ((T i).phase = 10 ∧ T' = T ∨ (T i).phase ≠ 10 ∧ muG c0 (T' i) + 1 ≤ muG c0 (T i)) ∧ (∀ j, j ≠ i → T' j = T j) ∧ (((T' i).phase ≠ 10 ∧ t = 0) ∨ ((T' i).phase = 10 ∧ (t = 1 ∨ t = 2 ∨ t = 3))) ∧ 0 ≤ muG c0 (T' i) ∧ told (T' i) = t := by
  have q := h.pos
  have hlt := h.ir.lt
  refine (h.l2.step hjs (fun _ _ _ _ _ _ _ => trivial) hi hm).mono ?_
  rintro e w' ⟨T', rfl, h1, h2, h3⟩
  have hb : wr.heap.size ≤ w'.heap.size := h1.chg.size
  refine ⟨T', _, rfl, ⟨h1.now, h.ir.keep (h1.chg.block ob hlt (fun hh => by omega)), h.bel.trans (h1.chg.below (by omega) (fun k hk => by omega)), q⟩, h2, h3, h1.qw.told hi, h1.mu0 hi, rfl⟩
theorem LB.over {w0 wr : World} {g0 base ob a g : Nat} {S K : Nat → Prop} {c0 : Cfg} {js : List (List Ins)} {bs : Nat → Nat} {p cap : Nat} {v3 : Value} {ss : List Int} {T : Nat → AT} {U : List Int} {m : Nat} (h : LB w0 wr g0 base ob a g S K c0 js bs p cap v3 ss T U m) {i : Nat} (hi : i < js.length) (hp : (T i).phase = 10) :
    Calls Tryz.prog 16 #[.pointer (some ⟨bs i, 0, none⟩), .pointer (some ⟨a, 0, none⟩)] wr fun e w' => e = .returned (.int .i64 (told (T i))) ∧ Below wr.heap.size wr w' := h.l2.over hi hp _
theorem LB.more {w0 wr : World} {g0 base ob a g : Nat} {S K : Nat → Prop} {c0 : Cfg} {js : List (List Ins)} {bs : Nat → Nat} {p cap : Nat} {v3 : Value} {ss : List Int} {T : Nat → AT} {U : List Int} {m m' : Nat} (h : LB w0 wr g0 base ob a g S K c0 js bs p cap v3 ss T U m) (hm : m ≤ m') : LB w0 wr g0 base ob a g S K c0 js bs p cap v3 ss T U m' := ⟨h.l2.more hm, h.ir, h.bel, h.pos⟩
/-- one is stepped, and counted, while it is under way -/
theorem BI.inc {c0 : Cfg} {n : Nat} {T T' : Nat → AT} {U : List Int} {q k : Nat} (h : BI c0 n T U q) (hk : k < n) (hM : ((T k).phase = 10 ∧ T' = T) ∨ ((T k).phase ≠ 10 ∧ muG c0 (T' k) + 1 ≤ muG c0 (T k))) (hO : ∀ j, j ≠ k → T' j = T j) (hp : (T' k).phase ≠ 10) (h0 : 0 ≤ muG c0 (T' k)) (hq : 400 ≤ q) : BI c0 n T' (U.set k (U.getD k 0 + 1)) q := by
  have s := h.step hk hM hO
  have hl := h.len
  have hx := mx_in c0
  refine ⟨s.len, fun j hj => ?_⟩
  have a := s.all j hj
  refine ⟨a.1, ?_, a.2.2⟩
  by_cases e : j = k
  · subst e; have := a.2.2 hp; omega
  · rw [getD_set_ne _ e]; exact (h.all j hj).2.1
/-- what stands in a cell, as a number -/
def cellN (w : World) (b j : Nat) : Int := match w.cell? ⟨b, j, none⟩ with
  | some v => intOf v
  | none => 0
theorem cell_n {w : World} {b : Nat} {U : List Int} (h : IR w b U) {j : Nat} (hj : j < U.length) : cellN w b j = U.getD j 0 := by
  unfold cellN; rw [h.get hj]; rfl
end Att
end Go.Proofs.YthojgahcpkdemaaGreat

/- in how many steps an attempt is over -/
namespace Go.Proofs.YthojgahcpkdemaaGreat
open Go.RowKit Go.Bas View VIn IMap_ VPlain Lay RefLay Of Small_
open Go.ChangeShapes Go.Sor Go.WideShapes
open Go.Proofs.YthojgahcpkdemaaGreatW.PrintLast
namespace Att
namespace Batt28

set_option maxRecDepth 100000 in
set_option maxHeartbeats 8000000 in
theorem walk_in {c0 : Cfg} {y : Int} {v1 v2 : Value} {js : List (List Ins)} {ss : List Int} {w0 : World} (hJ : VIn.Jobs w0 w0.heap.size v1 js) (hjs : ∀ j ∈ js, SIn j) (hS : View.Words w0 w0.heap.size v2 ss) :
    Calls Tryz.prog 3 #[.agg (cfg c0), .int .i64 y, v1, v2] w0 fun e w' => e = .returned (.bool true) ∧ Below w0.heap.size w0 w' := by
  obtain ⟨g0, hg0⟩ : ∃ g0, w0.heap.size = g0 := ⟨_, rfl⟩
  obtain ⟨A2, cp2, rfl, hm2, -⟩ := id hJ
  obtain ⟨A3, cp3, rfl, hm3, -⟩ := id hS
  obtain ⟨n, hnn⟩ : ∃ n, js.length = n := ⟨_, rfl⟩
  obtain ⟨sn, hsn⟩ : ∃ sn, ss.length = sn := ⟨_, rfl⟩
  have LN := Lib.hid (fun w => Liv28.lives_any w)
  obtain ⟨w1, hw1⟩ : ∃ w1, w0.alloc (.cells (cfg c0) 23) = w1 := ⟨_, rfl⟩
  have R1 : Hid (w1.heap[g0]? = some (.cells (cfg c0) 23 (0, 0))) := by rw [← hw1, ← hg0]; exact new_row _ _ _
  have B1 : Hid (Below g0 w0 w1) := by rw [← hw1, ← hg0]; exact (Below.refl _ _).alloc (Nat.le_refl _) _
  have s1 : w1.heap.size = g0 + 1 := by rw [← hw1, ← hg0]; simp
  rw [hg0] at hJ hS ⊢
  have HJ := Lib.hid hJ; have HS := Lib.hid hS; have HJS := Lib.hid hjs; have HNN := Lib.hid hnn; have HSN := Lib.hid hsn
  rw [hnn, hsn]
  rw [hnn] at hm2; rw [hsn] at hm3
  clear hJ hS hjs hnn hsn
  by_cases hgd : 1 ≤ n ∧ n ≤ 4 ∧ sn ≤ 400
  rotate_left
  · have alt : n < 1 ∨ (1 ≤ n ∧ 4 < n) ∨ (1 ≤ n ∧ n ≤ 4 ∧ 400 < sn) := by omega
    rcases alt with h | ⟨h, h'⟩ | ⟨h, h', h''⟩
    all_goals (
      clear hgd
      go_enter Tryz.func3, Tryz.ntmps3
      go_wp2_with (first
        | (go_at_call 9; refine (LN.out _).mono ?_; rintro e wz ⟨rfl, hb⟩
           have BZ : Hid (Below g0 w0 wz) := B1.out.trans (hb.mono (by omega))
           clear hb B1))
      go_ret
      exact ⟨rfl, BZ.out⟩)
  obtain ⟨hg1, hg4, hg400⟩ := hgd
  have F := small_fine c0
  have BG := fun w => beg_any c0 y w
  unfold BegOut at BG
  have wl0 := words0_len c0 y
  have LD := ld_words0 c0 y
  have WB0 := wb_words0 c0 y
  have hwi := words_in F
  rw [places_words] at wl0
  obtain ⟨W, hWW⟩ : ∃ W, words0 c0 y = W := ⟨_, rfl⟩
  obtain ⟨ck, hck⟩ : ∃ ck, (small c0).clock = ck := ⟨_, rfl⟩
  have hcb := F.clock
  rw [hck] at hcb
  rw [hWW] at BG wl0 WB0
  have CK := clock0_in c0 y
  have wl1 : (W.length : Int) = (places (small c0)).a11 := by rw [places_words]; exact wl0
  have ld1 : ld W 1 = clock0 c0 y := by rw [← hWW, LD, if_pos rfl]
  have ldj : ∀ j, j ≠ 1 → ld W j = 0 := fun j hj => by rw [← hWW, LD, if_neg hj]
  have hpg := F.pages
  have htb : 0 ≤ (places (small c0)).a0 ∧ (places (small c0)).a0 ≤ 1000000 := by have := table_small c0; have := F.stripes; omega
  have TB := fun w => table_at (small c0) (places (small c0)) ⟨hpg.1, by omega⟩ htb w
  have MD := fun (i : Nat) (pc : Nat) w => made_any (small c0) (places (small c0)) i (.func 43) #[] #[.pointer (some ⟨pc, 0, none⟩)] w
  have BA := fun w => Bou.attempt_mild (small c0) (places (small c0)) w (mild_small c0)
  have MO := most_in c0 js
  obtain ⟨most, hmost⟩ : ∃ most, Bou.att (small c0) (places (small c0)) = most := ⟨_, rfl⟩
  rw [hmost] at BA MO
  have MX := mx_in c0
  obtain ⟨mxv, hmx⟩ : ∃ mxv, mx c0 = mxv := ⟨_, rfl⟩
  rw [hmx] at MO MX
  obtain ⟨hmo1, hmo2⟩ := MO
  obtain ⟨hmx1, hmx2⟩ := MX
  have HMX := Lib.hid hmx
  obtain ⟨tb, htbv⟩ : ∃ tb, (places (small c0)).a0 = tb := ⟨_, rfl⟩
  rw [htbv] at TB htb
  obtain ⟨lv, hlv⟩ : ∃ lv, lay (small c0) (places (small c0)) = lv := ⟨_, rfl⟩
  have hls : (Tryz.prog.info? 29).map (·.size) = some lv.size := by rw [← hlv]; exact lay_size _ _
  have hl0 : lv.size = 23 := by rw [← hlv]; rfl
  have hl1 : lv.all (·.oneCell') = true := by rw [← hlv]; exact lay_one _ _
  rw [hlv] at BG TB MD BA
  have HBG := Lib.hid BG; have HTB := Lib.hid TB; have HMD := Lib.hid MD; have HBA := Lib.hid BA; have HLVE := Lib.hid hlv; have HTBV := Lib.hid htbv; have HTI := Lib.hid htb; have HWB := Lib.hid WB0; have HLEN := Lib.hid wl1; have HLS := Lib.hid hls; have HL1 := Lib.hid hl1; have HL0 := Lib.hid hl0
  clear BG TB MD BA hmost hmx hls hl1 hl0 hWW hck ld1 ldj wl1 WB0 LD wl0 hwi hlv F CK hpg htb htbv
  go_enter Tryz.func3, Tryz.ntmps3
  go_upto_region 3 with fail
  go_upto_region 4 with (first
    | (refine wpList_load_row rfl 23 _ rfl g0 rfl 23 (cfg c0) (0, 0) _ R1.out Tryz.underlying23 rfl (cfg_size _) ?_)
    | (go_at_call 10; refine (HBG.out _).mono ?_; rintro e w2 ⟨a, g, ra, rfl, ha, hg, hA2, hb2⟩
       have B2 : Hid (Below g0 w0 w2) := B1.out.trans (hb2.mono (by omega))
       obtain ⟨l, hl⟩ : ∃ l, w2.heap.size = l := ⟨_, rfl⟩
       have hgl : g0 ≤ l := by have := hb2.size; omega
       have HAG : Hid ((g0 ≤ a ∧ g0 ≤ g) ∧ a ≠ l ∧ g ≠ l ∧ g0 ≤ l) := by have := hA2.lt; rw [Hid]; omega
       obtain ⟨w3, hw3⟩ : ∃ w3, w2.alloc (.cells #[.int .i64 0, .int .i64 0, .int .i64 0, .int .i64 0, .int .i64 0, .int .i64 0, .int .i64 0, .int .i64 0, .int .i64 0, .int .i64 0, .int .i64 0, .int .i64 0, .int .i64 0, .int .i64 0, .int .i64 0, .int .i64 0, .int .i64 0, .int .i64 0, .int .i64 0, .int .i64 0, .int .i64 0, .int .i64 0, .int .i64 0] 29) = w3 := ⟨_, rfl⟩
       have L3 : Hid (w3.heap[l]? = some (.cells #[.int .i64 0, .int .i64 0, .int .i64 0, .int .i64 0, .int .i64 0, .int .i64 0, .int .i64 0, .int .i64 0, .int .i64 0, .int .i64 0, .int .i64 0, .int .i64 0, .int .i64 0, .int .i64 0, .int .i64 0, .int .i64 0, .int .i64 0, .int .i64 0, .int .i64 0, .int .i64 0, .int .i64 0, .int .i64 0, .int .i64 0] 29 (0, 0))) := by rw [← hw3, ← hl]; exact new_row _ _ _
       have b23 : Below w2.heap.size w2 w3 := by rw [← hw3]; exact (Below.refl _ _).alloc (Nat.le_refl _) _
       have A3' : Hid (Ar w3 a g W 1) := hA2.below b23
       have B3 : Hid (Below g0 w0 w3) := B2.out.trans (b23.mono (by omega))
       clear hb2 hA2 b23 B2 B1 R1)
    | (refine wpList_store_row rfl 29 _ _ rfl l lv rfl rfl 29 #[.int .i64 0, .int .i64 0, .int .i64 0, .int .i64 0, .int .i64 0, .int .i64 0, .int .i64 0, .int .i64 0, .int .i64 0, .int .i64 0, .int .i64 0, .int .i64 0, .int .i64 0, .int .i64 0, .int .i64 0, .int .i64 0, .int .i64 0, .int .i64 0, .int .i64 0, .int .i64 0, .int .i64 0, .int .i64 0, .int .i64 0] L3.out HLS.out (by first | exact HL0.out | exact HL0.out.symm) HL1.out ?_))
  obtain ⟨w4, hw4⟩ : ∃ w4, w3.setRow l lv = w4 := ⟨_, rfl⟩
  have L4 : Hid (w4.heap[l]? = some (.cells lv 29 (0, 0))) := by rw [← hw4]; exact setRow_same L3.out
  have A4 : Hid (Ar w4 a g W 1) := by rw [← hw4]; exact A3'.out.kept (setRow_other _ _ _ _ HAG.out.2.1) (setRow_other _ _ _ _ HAG.out.2.2.1)
  have B4 : Hid (Below g0 w0 w4) := by rw [← hw4]; exact setRow_below B3.out hgl _
  rw [hw4]
  have s4 : Hid (g0 ≤ w4.heap.size) := by have := B4.out.size; rw [Hid]; omega
  clear hw4 L3 A3' B3 hw3 hw1 s1
  go_upto_region 6 with (first
    | (refine wpList_load_row rfl 29 _ rfl l rfl 29 lv (0, 0) _ L4.out Tryz.underlying29 rfl HLS.out ?_)
    | (go_at_call 11; refine (HBA.out _).mono ?_; rintro e w5 ⟨rfl, hb⟩
       have L5 : Hid (w5.heap[l]? = some (.cells lv 29 (0, 0))) := blk_below L4.out hb
       have A5 : Hid (Ar w5 a g W 1) := A4.out.below hb
       have B5 : Hid (Below g0 w0 w5) := B4.out.trans (hb.mono s4.out)
       have s5 : Hid (g0 ≤ w5.heap.size) := by have := B5.out.size; rw [Hid]; omega
       have mk := View.make_ints n (by omega) w5
       clear hb L4 A4 B4 s4))
  obtain ⟨ob, hob⟩ : ∃ ob, w5.heap.size = ob := ⟨_, rfl⟩
  obtain ⟨w6, hw6⟩ : ∃ w6, w5.alloc (.cells ((List.replicate n (0 : Int)).map (Value.int .i64)).toArray 3) = w6 := ⟨_, rfl⟩
  rw [hw6, hob] at mk
  have I6 : Hid (IR w6 ob (List.replicate n 0)) := by rw [← hw6, ← hob]; exact new_row _ _ _
  have b56 : Below w5.heap.size w5 w6 := by rw [← hw6]; exact (Below.refl _ _).alloc (Nat.le_refl _) _
  have L6 : Hid (w6.heap[l]? = some (.cells lv 29 (0, 0))) := blk_below L5.out b56
  have A6 : Hid (Ar w6 a g W 1) := A5.out.below b56
  have B6 : Hid (Below g0 w0 w6) := B5.out.trans (b56.mono s5.out)
  obtain ⟨base, hbase⟩ : ∃ base, w6.heap.size = base := ⟨_, rfl⟩
  have hs6 : base = ob + 1 := by rw [← hbase, ← hw6, ← hob]; simp
  have HPOS : Hid ((g0 ≤ ob ∧ ob < base ∧ ob ≠ a ∧ ob ≠ g) ∧ g0 ≤ a ∧ g0 ≤ g ∧ a < base ∧ g < base ∧ g0 ≤ base) := by
    have h1 := A5.out.lt; have h2 := s5.out; have h3 := HAG.out; rw [hob] at h1 h2; rw [Hid]; omega
  have HS6 : Hid (View.Words w6 g0 (.slice A3 sn cp3) ss) := by have h := HS.out.below B6.out; rw [HSN.out] at h; exact h
  have HBS := Lib.hid hbase
  have L10 : Hid (L1 w6 w6 base (fun _ => False) (fun j => j < base ∧ j ≠ a ∧ j ≠ g) a g c0 js (fun _ => 0) 0 (.slice none 0 0) l W 1) := L1.zero (Below.refl _ _) hbase A6.out (by rw [HLVE.out]; exact L6.out)
  have HLL : Hid (l < base) := by have h := (Array.getElem?_eq_some_iff.1 L6.out).1; rw [hbase] at h; exact h
  clear b56 L5 A5 B5 s5 L6 A6 hs6 hbase hob
  go_upto_region 8 with fail
  clear mk hw6
  go_loopw [15, 13] (fun u15 u13 wr => ∃ (k : Nat) (bs : Nat → Nat) (S K : Nat → Prop), k ≤ n ∧ u15 = .int .i64 k ∧ Hid (L1 w6 wr base S K a g c0 js bs k u13 l W 1) ∧ Hid (∀ q, u13.ownBlock = some q → q ≠ l)) (fun u15 _ _ => n - (intOf u15).toNat)
  case atStart => exact ⟨0, _, _, _, by omega, rfl, L10, fun q hq => by simp [Value.ownBlock] at hq⟩
  case round =>
    clear L10
    obtain ⟨k, bs, S, K, hk, rfl, HL1, HLV⟩ := hrel
    have hbw : base ≤ wr.heap.size := HL1.out.hl
    by_cases hlt : k < n
    · obtain ⟨A9, c9, e9⟩ := HL1.out.pt.slice
      rw [List.length_map, List.length_range] at e9
      subst e9
      obtain ⟨Aj, cj, ej, hmj, hcj⟩ := (HJ.out.below B6.out).below (HL1.out.bel.mono HPOS.out.2.2.2.2.2)
      injection ej with ej1 ej2 ej3
      subst ej1
      have hkl : k < js.length := by rw [HNN.out]; exact hlt
      obtain ⟨jb, off, rfl, hjb, hcell⟩ := hcj (by omega)
      obtain ⟨sv, hsv, hst⟩ := hcell k hkl
      have ejk : js[k] = js.getD k [] := by rw [List.getD_eq_getElem?_getD, List.getElem?_eq_getElem hkl]; rfl
      rw [ejk] at hst
      have LR : Hid (wr.heap[l]? = some (.cells lv 29 (0, 0)) ∧ wr.cell? ⟨jb, off + k, none⟩ = some sv) := ⟨by rw [← HLVE.out]; exact HL1.out.row, hsv⟩
      have STS := Lib.hid hst
      have JB : Hid (jb < g0 ∧ g0 ≤ base ∧ base ≤ wr.heap.size) := ⟨hjb, HPOS.out.2.2.2.2.2, hbw⟩
      have HBW := Lib.hid hbw
      have HN4 : Hid (n ≤ 4) := hg4
      clear hsv hst hcell hcj hjb ej2 ej3 hmj ejk hkl
      go_upto_region 10 with fail
      refine start_ (n := 15) (S := fun w' => w'.heap[l]? = some (.cells lv 29 (0, 0)) ∧ w'.cell? ⟨jb, off + k, none⟩ = some sv) (ds := []) #[false, false, false, false, false, false, false, false, false, false, false, false, false, false, false] (by kernel_rfl) rfl rfl ⟨LR.out.1, LR.out.2⟩ (fun hHeld => ?_)
      refine pure_ (i := 0) (N := (some 51)) (v := ?_) (a' := ?_) #[true, false, false, false, false, false, false, false, false, false, false, false, false, false, false] rfl rfl (by kernel_rfl) (fun _ _ _ h => h) (Or.inl ⟨by rfl, ?_⟩) ?_ ?_
      rotate_left
      · intro w'
        go_simp
        with_reducible rfl
      rotate_left
      · simp only [Act.put, List.setIfInBounds_toArray, List.set_cons_zero, List.set_cons_succ, i64_w, i32_w]
        rfl
      refine take_ (i := 1) (N := (some 52)) (v := .agg lv.toList.toArray) (a' := ?_) #[true, true, false, false, false, false, false, false, false, false, false, false, false, false, false] rfl rfl (by kernel_rfl) (fun _ _ _ h => h) (by exact yieldsIf_load_mid rfl 29 _ rfl l 0 rfl lv.toList _ (fun w' s0 => row_range s0.1 0 _ (fun j v h => by rw [Nat.zero_add]; simpa using h)) Tryz.underlying29 rfl HLS.out) hHeld ?_ ?_
      rotate_left
      · simp only [Act.put, List.setIfInBounds_toArray, List.set_cons_zero, List.set_cons_succ, i64_w, i32_w]
        rfl
      refine pure_ (i := 2) (N := (some 53)) (v := ?_) (a' := ?_) #[true, true, true, false, false, false, false, false, false, false, false, false, false, false, false] rfl rfl (by kernel_rfl) (fun _ _ _ h => h) (Or.inl ⟨by rfl, ?_⟩) ?_ ?_
      rotate_left
      · intro w'
        go_simp
        with_reducible rfl
      rotate_left
      · simp only [Act.put, List.setIfInBounds_toArray, List.set_cons_zero, List.set_cons_succ, i64_w, i32_w]
        rfl
      refine take_ (i := 3) (N := (some 54)) (v := .agg lv.toList.toArray) (a' := ?_) #[true, true, true, true, false, false, false, false, false, false, false, false, false, false, false] rfl rfl (by kernel_rfl) (fun _ _ _ h => h) (by exact yieldsIf_load_mid rfl 29 _ rfl l 0 rfl lv.toList _ (fun w' s0 => row_range s0.1 0 _ (fun j v h => by rw [Nat.zero_add]; simpa using h)) Tryz.underlying29 rfl HLS.out) hHeld ?_ ?_
      rotate_left
      · simp only [Act.put, List.setIfInBounds_toArray, List.set_cons_zero, List.set_cons_succ, i64_w, i32_w]
        rfl
      refine pure_ (i := 5) (N := (some 56)) (v := ?_) (a' := ?_) #[true, true, true, true, false, true, false, false, false, false, false, false, false, false, false] rfl rfl (by kernel_rfl) (fun _ _ _ h => h) (Or.inl ⟨by rfl, ?_⟩) ?_ ?_
      rotate_left
      · intro w'
        go_simp
        with_reducible rfl
      rotate_left
      · simp only [Act.put, List.setIfInBounds_toArray, List.set_cons_zero, List.set_cons_succ, i64_w, i32_w]
        rfl
      refine pure_ (i := 6) (N := (some 57)) (v := ?_) (a' := ?_) #[true, true, true, true, false, true, true, false, false, false, false, false, false, false, false] rfl rfl (by kernel_rfl) (fun _ _ _ h => h) (Or.inl ⟨by rfl, ?_⟩) ?_ ?_
      rotate_left
      · intro w'
        go_simp
        with_reducible rfl
      rotate_left
      · simp only [Act.put, List.setIfInBounds_toArray, List.set_cons_zero, List.set_cons_succ, i64_w, i32_w]
        rfl
      refine pure_ (i := 7) (N := (some 58)) (v := ?_) (a' := ?_) #[true, true, true, true, false, true, true, true, false, false, false, false, false, false, false] rfl rfl (by kernel_rfl) (fun _ _ _ h => h) (Or.inl ⟨by rfl, ?_⟩) ?_ ?_
      rotate_left
      · intro w'
        go_simp
        with_reducible rfl
      rotate_left
      · simp only [Act.put, List.setIfInBounds_toArray, List.set_cons_zero, List.set_cons_succ, i64_w, i32_w]
        rfl
      refine take_ (i := 8) (N := (some 59)) (v := ?_) (a' := ?_) #[true, true, true, true, false, true, true, true, true, false, false, false, false, false, false] rfl rfl (by kernel_rfl) (fun _ _ _ h => h) (Or.inl ⟨by rfl, ?_⟩) hHeld ?_ ?_
      rotate_left
      · rintro w' ⟨s0, s1⟩
        go_simp
        with_reducible rfl
      rotate_left
      · simp only [Act.put, List.setIfInBounds_toArray, List.set_cons_zero, List.set_cons_succ, i64_w, i32_w]
        rfl
      refine one_ (i := 4) (N := (some 55)) #[true, true, true, true, true, true, true, true, true, false, false, false, false, false, false] rfl rfl (by kernel_rfl) (by decide) (fun K hK => ?_)
      refine goes_ Tryz.func15 (by kernel_rfl) rfl #[.agg lv, .int .i64 0] (by rfl) rfl rfl (by first | rfl | (simp [Act.eval]; done) | (go_simp; done)) ?_
      refine (HTB.out wr.drew).mono ?_
      rintro e w2 ⟨rfl, hb⟩
      have b2 : Below wr.heap.size wr w2 := (show Below wr.heap.size wr wr.drew from (Below.refl _ _).drew).trans hb
      have L2 : w2.heap[l]? = some (.cells lv 29 (0, 0)) ∧ w2.cell? ⟨jb, off + k, none⟩ = some sv := ⟨blk_below LR.out.1 b2, by rw [← LR.out.2]; exact b2.cell (by have := JB.out; show jb < _; omega)⟩
      have B2 := Lib.hid b2
      have s2 : Hid (wr.heap.size ≤ w2.heap.size) := b2.size
      clear b2 hb
      refine ⟨_, rfl, ?_⟩
      refine hK.out _ _ L2 (fun hHeld => ?_)
      clear hK K
      refine norm_ (a' := ?_) ?_ ?_
      rotate_left
      · show Act.put _ (some 55) _ = _
        simp only [Act.put, List.setIfInBounds_toArray, List.set_cons_zero, List.set_cons_succ, i64_w, i32_w]
        rfl
      refine one_ (i := 9) (N := (some 60)) #[true, true, true, true, true, true, true, true, true, true, false, false, false, false, false] rfl rfl (by kernel_rfl) (by decide) (fun K hK => ?_)
      refine goes_ Tryz.func14 (by kernel_rfl) rfl #[.int .i64 tb, sv] (by rfl) rfl rfl (by first | rfl | (simp [Act.eval]; done) | (go_simp; done)) ?_
      refine (fit_any HTI.out ((STS.out.below (B2.out.mono (by have := JB.out; omega))).mono (by have := JB.out; have := s2.out; omega)) (getD_sin HJS.out k)).mono ?_
      rintro e w3 ⟨vf, rfl, hf, hb⟩
      obtain ⟨Af, cf, rfl, -⟩ := id hf
      have L3 : w3.heap[l]? = some (.cells lv 29 (0, 0)) ∧ w3.cell? ⟨jb, off + k, none⟩ = some sv := ⟨blk_below L2.1 hb, by rw [← L2.2]; exact hb.cell (by have := JB.out; have := s2.out; show jb < _; omega)⟩
      have I3 := Lib.hid hf
      have B3 : Hid (Below wr.heap.size wr w3) := B2.out.trans (hb.mono s2.out)
      have s3 : Hid (w2.heap.size ≤ w3.heap.size) := hb.size
      clear hb hf
      refine ⟨_, rfl, ?_⟩
      refine hK.out _ _ L3 (fun hHeld => ?_)
      clear hK K
      refine norm_ (a' := ?_) ?_ ?_
      rotate_left
      · show Act.put _ (some 60) _ = _
        simp only [Act.put, List.setIfInBounds_toArray, List.set_cons_zero, List.set_cons_succ, i64_w, i32_w]
        rfl
      refine one_ (i := 10) (N := (some 61)) #[true, true, true, true, true, true, true, true, true, true, true, false, false, false, false] rfl rfl (by kernel_rfl) (by decide) (fun K hK => ?_)
      refine goes_ Tryz.func13 (by kernel_rfl) rfl #[.slice Af (fits tb (js.getD k [])).length cf] (by rfl) rfl rfl (by first | rfl | (simp [Act.eval]; done) | (go_simp; done)) ?_
      refine (prog_made Af _ cf w3).mono ?_
      rintro e w4 ⟨pc, rfl, hpc, hrow, hb⟩
      have L4 : w4.heap[l]? = some (.cells lv 29 (0, 0)) ∧ w4.cell? ⟨jb, off + k, none⟩ = some sv := ⟨blk_below L3.1 hb, by rw [← L3.2]; exact hb.cell (by have := JB.out; have := s2.out; have := s3.out; show jb < _; omega)⟩
      have I4 : Hid (ITold w4 w2.heap.size (fits tb (js.getD k [])) (.slice Af (fits tb (js.getD k [])).length cf)) := I3.out.kept (fun q hq => hb.block q (I3.out.own_lt hq))
      have PR4 := Lib.hid hrow
      have HPC := Lib.hid hpc
      have B4 : Hid (Below wr.heap.size wr w4) := B3.out.trans (hb.mono (by have := s2.out; have := s3.out; omega))
      have s4 : Hid (w3.heap.size ≤ w4.heap.size) := hb.size
      clear hb hrow hpc I3
      refine ⟨_, rfl, ?_⟩
      refine hK.out _ _ L4 (fun hHeld => ?_)
      clear hK K
      refine norm_ (a' := ?_) ?_ ?_
      rotate_left
      · show Act.put _ (some 61) _ = _
        simp only [Act.put, List.setIfInBounds_toArray, List.set_cons_zero, List.set_cons_succ, i64_w, i32_w]
        rfl
      refine one_ (i := 11) (N := (some 62)) #[true, true, true, true, true, true, true, true, true, true, true, true, false, false, false] rfl rfl (by kernel_rfl) (by decide) (fun K hK => ?_)
      refine goes_ Tryz.func12 (by kernel_rfl) rfl #[.agg lv, .int .i64 k, progV pc] (by rfl) rfl rfl (by first | rfl | (simp [Act.eval]; done) | (go_simp; done)) ?_
      refine (HMD.out k pc w4).mono ?_
      rintro e w5 ⟨b, rfl, hbl, hbs, hR, hb⟩
      have L5 : w5.heap[l]? = some (.cells lv 29 (0, 0)) ∧ w5.cell? ⟨jb, off + k, none⟩ = some sv := ⟨blk_below L4.1 hb, by rw [← L4.2]; exact hb.cell (by have := JB.out; have := s2.out; have := s3.out; have := s4.out; show jb < _; omega)⟩
      have RW5' : Hid (Row w5 b (newV (small c0) (places (small c0)) (progV pc)) (newT k)) := hR
      have RN5 : Hid (Runs w5 (fun q => q = pc ∨ (Value.slice Af (fits tb (js.getD k [])).length cf).ownBlock = some q) (progV pc) (runOf (fits tb (js.getD k [])))) := runs_prog HTI.out (blk_below PR4.out hb) (I4.out.kept (fun q hq => hb.block q (I4.out.own_lt hq))) (getD_sin HJS.out k)
      have S05 : Hid (∀ q, (q = pc ∨ (Value.slice Af (fits tb (js.getD k [])).length cf).ownBlock = some q) → wr.heap.size ≤ q ∧ q < w5.heap.size ∧ q ≠ b) := fun q hq => by
        have := s2.out; have := s3.out; have := s4.out; have := HPC.out; have := hb.size; have := (Array.getElem?_eq_some_iff.1 PR4.out).1
        rcases hq with rfl | hq
        · omega
        · have := I4.out.own_lt hq; have := I4.out.block hq; omega
      have B5 : Hid (Below wr.heap.size wr w5) := B4.out.trans (hb.mono (by have := s2.out; have := s3.out; have := s4.out; omega))
      have HBN : Hid (wr.heap.size ≤ b) := by have := s2.out; have := s3.out; have := s4.out; rw [Hid]; omega
      have s5 : Hid (w4.heap.size ≤ w5.heap.size) := hb.size
      clear hb hR I4 PR4 HPC
      refine ⟨_, rfl, ?_⟩
      refine hK.out _ _ L5 (fun hHeld => ?_)
      clear hK K
      refine norm_ (a' := ?_) ?_ ?_
      rotate_left
      · show Act.put _ (some 62) _ = _
        simp only [Act.put, List.setIfInBounds_toArray, List.set_cons_zero, List.set_cons_succ, i64_w, i32_w]
        rfl
      refine one_ (i := 12) (N := (some 63)) #[true, true, true, true, true, true, true, true, true, true, true, true, true, false, false] rfl rfl (by kernel_rfl) (by decide) (fun K hK => ?_)
      refine value_ (by rfl) rfl (v := .slice (some ⟨w5.heap.size, 0, none⟩) 1 1) (w1 := w5.alloc (.cells #[.pointer (some ⟨b, 0, none⟩)] 36)) ?_ ?_
      · simp only [execOp, Sem.run_bind]
        have := run_ptr1 w5 b
        unfold ptr at this
        simp [Act.eval, this, Result.andThen_ok]
      obtain ⟨w6, hw6⟩ : ∃ w6, w5.alloc (.cells #[.pointer (some ⟨b, 0, none⟩)] 36) = w6 := ⟨_, rfl⟩
      obtain ⟨p, hp⟩ : ∃ p, w5.heap.size = p := ⟨_, rfl⟩
      have b56 : Below w5.heap.size w5 w6 := by rw [← hw6]; exact (Below.refl _ w5).alloc (Nat.le_refl _) _
      have n6 : w6.heap[p]? = some (.cells #[ptr b] 36 (0, 0)) := by rw [← hw6, ← hp]; exact new_row w5 _ _
      rw [hw6, hp]
      have L6 : w6.heap[l]? = some (.cells lv 29 (0, 0)) ∧ w6.cell? ⟨jb, off + k, none⟩ = some sv := ⟨blk_below L5.1 b56, by rw [← L5.2]; exact b56.cell (by have := JB.out; have := s2.out; have := s3.out; have := s4.out; have := s5.out; show jb < _; omega)⟩
      have P6 : PT w6 base ((List.range k).map bs) (.slice A9 k c9) := HL1.out.pt.kept fun q hq => (b56.block q (by have := HL1.out.pt.own_lt hq; have := B5.out.size; omega)).trans (B5.out.block q (HL1.out.pt.own_lt hq))
      have B56 := Lib.hid b56
      refine hK.out _ _ L6 (fun hHeld => ?_)
      clear hK K
      refine norm_ (a' := ?_) ?_ ?_
      rotate_left
      · show Act.put _ (some 63) _ = _
        simp only [Act.put, List.setIfInBounds_toArray, List.set_cons_zero, List.set_cons_succ, i64_w, i32_w]
        rfl
      obtain ⟨v7, w7, hr7, H7, g7, o7⟩ := append_ptr P6 (by simp; have := HN4.out; omega) (by have := b56.size; have := B5.out.size; have := HBW.out; omega) n6
      have H7' := Lib.hid H7; have G7 := Lib.hid g7; have O7 := Lib.hid o7
      have L7 : w7.heap[l]? = some (.cells lv 29 (0, 0)) ∧ w7.cell? ⟨jb, off + k, none⟩ = some sv := ⟨(g7.block l (Array.getElem?_eq_some_iff.1 L6.1).1 (fun e => HLV.out l e.symm rfl)).trans L6.1, by rw [← L6.2]; exact World.cell?_of_block (g7.block jb (World.block_lt_of_cell? _ _ L6.2) (fun e => by have := HL1.out.pt.block e.symm; have := JB.out; omega))⟩
      refine one_ (i := 13) (N := (some 64)) #[true, true, true, true, true, true, true, true, true, true, true, true, true, true, false] rfl rfl (by kernel_rfl) (by decide) (fun K hK => ?_)
      refine value_ (by rfl) rfl (v := v7) (w1 := w7) ?_ ?_
      · simp only [execOp, resolve, invoke, builtin, Sem.run_bind, Sem.run_pure, Result.andThen_ok, List.map_toArray, List.map_cons, List.map_nil]
        simp [Act.eval, hr7, Result.andThen_ok]
      refine hK.out _ _ L7 (fun hHeld => ?_)
      clear hK K
      refine norm_ (a' := ?_) ?_ ?_
      rotate_left
      · show Act.put _ (some 64) _ = _
        simp only [Act.put, List.setIfInBounds_toArray, List.set_cons_zero, List.set_cons_succ, i64_w, i32_w]
        rfl
      refine pure_ (i := 14) (N := (some 13)) (v := ?_) (a' := ?_) #[true, true, true, true, true, true, true, true, true, true, true, true, true, true, true] rfl rfl (by kernel_rfl) (fun _ _ _ h => h) (Or.inl ⟨by rfl, ?_⟩) ?_ ?_
      rotate_left
      · intro w'
        go_simp
        with_reducible rfl
      rotate_left
      · simp only [Act.put, List.setIfInBounds_toArray, List.set_cons_zero, List.set_cons_succ, i64_w, i32_w]
        rfl
      refine done_ (by kernel_rfl) ?_
      have NX := L1.next (S0 := fun q => q = pc ∨ (Value.slice Af (fits tb (js.getD k [])).length cf).ownBlock = some q) HL1.out HLV.out B5.out RW5'.out HBN.out (show Runs w5 _ _ (rnOf c0 js k) by unfold rnOf; rw [HTBV.out]; exact RN5.out) S05.out B56.out H7'.out G7.out O7.out
      obtain ⟨bs', S', K', NX1, NX2⟩ := NX
      have NX1 := Lib.hid NX1; have NX2 := Lib.hid NX2
      go_wp2
      go_roundw
      case rel => exact ⟨k + 1, bs', S', K', by omega, by go_num, NX1, NX2⟩
      case measure => simp [intOf]; omega
    · obtain rfl : n = k := by omega
      have l1 := HL1.out
      rw [← HNN.out] at l1
      have l2 : L2 (fun _ _ => True) w6 wr base S K a g c0 js bs u13 g0 (.slice A3 sn cp3) ss (fun i => newT i) 1000 := l1.two HBS.out (by rw [HNN.out]; omega) HLEN.out HWB.out trivial (by omega) HS6.out (by have := HPOS.out; omega)
      obtain ⟨p, cap, e9, -⟩ := l2.cell (i := 0) (by rw [HNN.out]; omega)
      rw [HNN.out] at e9
      subst e9
      have LB0 : Hid (LB w0 wr g0 base ob a g S K c0 js bs p cap (.slice A3 sn cp3) ss (fun i => newT i) (List.replicate n 0) (1000 + 0)) :=
        ⟨by rw [HNN.out]; exact l2.now, I6.out.keep (HL1.out.bel.block _ HPOS.out.1.2.1), B6.out.trans (HL1.out.bel.mono HPOS.out.2.2.2.2.2), by have := HPOS.out; omega⟩
      have BI0 : Hid (BI c0 n (fun i => newT i) (List.replicate n 0) 0) := BI.new c0 n
      clear l1 l2 HL1 HLV HTB HMD HLS HLVE HTBV HTI I6 hbw
      go_upto_region 12 with fail
      go_loopw [16, 17] (fun u16 _ wr => ∃ (q : Nat) (T : Nat → AT) (U : List Int), q ≤ sn ∧ u16 = .int .i64 q ∧ Hid (LB w0 wr g0 base ob a g S K c0 js bs p cap (.slice A3 sn cp3) ss T U (1000 + q)) ∧ Hid (BI c0 n T U q)) (fun u16 _ _ => sn - (intOf u16).toNat)
      case atStart => exact ⟨0, _, _, by omega, rfl, LB0, BI0⟩
      case round =>
        clear LB0 BI0
        obtain ⟨q, T, U, hq, rfl, HL2, HB⟩ := hrel
        by_cases hlt2 : q < sn
        · have hql : q < ss.length := by rw [HSN.out]; exact hlt2
          obtain ⟨sb, so, rfl, hsb, hsc⟩ := View.word_row HL2.out.l2.wd hql
          obtain ⟨x, hx⟩ : ∃ x, ss[q] = x := ⟨_, rfl⟩
          rw [hx] at hsc
          obtain ⟨u, hu⟩ : ∃ u, IntKind.u64.wrap x = u := ⟨_, rfl⟩
          have u0 : 0 ≤ u := by rw [← hu, IntKind.wrap_u64]; omega
          have un : IntKind.u64.wrap (n : Int) = n := by rw [IntKind.wrap_u64]; omega
          have hm0 : 0 ≤ u % (n : Int) ∧ u % (n : Int) < n := ⟨Int.emod_nonneg _ (by omega), Int.emod_lt_of_pos _ (by omega)⟩
          obtain ⟨i, hi⟩ : ∃ i : Nat, u % (n : Int) = i := ⟨(u % (n : Int)).toNat, by omega⟩
          have hin : i < n := by omega
          have tm : u.tmod n = i := by rw [Int.tmod_eq_emod_of_nonneg u0]; exact hi
          have hij : i < js.length := by rw [HNN.out]; exact hin
          have HIJ := Lib.hid hij
          have nz : ((n : Int) == 0) = false := by rw [beq_eq_false_iff_ne]; omega
          have hUl : i < U.length := by rw [HB.out.len]; exact hin
          have HUL := Lib.hid hUl
          obtain ⟨z, hz⟩ : ∃ z, U.getD i 0 = z := ⟨_, rfl⟩
          have hz2 := HB.out.all i hin
          rw [hz] at hz2
          have hz0 : 0 ≤ z ∧ z ≤ q := ⟨hz2.1, hz2.2.1⟩
          have q1 := HL2.out.ir.get hUl
          rw [hz] at q1
          have q2 := HL2.out.ir.set i (z + 1)
          have q3 := HL2.out.ir.free i
          have HZ := Lib.hid hz
          clear hx hql hsb hm0 hi hij hUl hz2 hz
          go_upto_region 16 with fail
          have NS : Hid (LB w0 (wr.setRow ob (((U.map (Value.int .i64)).set i (.int .i64 (z + 1))).toArray)) g0 base ob a g S K c0 js bs p cap (.slice (some ⟨sb, so, none⟩) sn cp3) ss T (U.set i (z + 1)) (1000 + q)) := by
            have h := HL2.out.store (U.set i (z + 1)); rw [List.map_set] at h; exact h
          obtain ⟨ws, hws⟩ : ∃ ws, wr.setRow ob (((U.map (Value.int .i64)).set i (.int .i64 (z + 1))).toArray) = ws := ⟨_, rfl⟩
          rw [hws] at NS ⊢
          have hc1 := NS.out.cell HIJ.out
          have ST := Lib.hid (NS.out.step HJS.out HIJ.out (by omega))
          clear hws q1 q2 q3 HL2
          go_upto_region 13 with (first
            | (go_at_call 16; refine ST.out.mono ?_; rintro e w2 ⟨T2, t, rfl, hL, hM, hO, alt, hm0, -⟩
               have NB : Hid (BI c0 n T2 (U.set i (z + 1)) (q + 1)) := by have h := HB.out.step hin hM hO; rw [HZ.out] at h; exact h
               have NL : Hid (LB w0 w2 g0 base ob a g S K c0 js bs p cap (.slice (some ⟨sb, so, none⟩) sn cp3) ss T2 (U.set i (z + 1)) (1000 + (q + 1))) := hL
               have q1 : w2.cell? ⟨ob, i, none⟩ = some (.int .i64 (z + 1)) := by
                 have h := hL.ir.get (j := i) (by rw [List.length_set]; exact HUL.out)
                 rw [getD_set_self _ HUL.out] at h; exact h
               have key : (t = 0 ∧ z + 1 < most) ∨ t = 1 ∨ t = 2 ∨ t = 3 := by
                 rcases alt with ⟨h10, ht⟩ | ⟨_, ht⟩
                 · have h := (NB.out.all i hin).2.2 h10
                   rw [getD_set_self _ HUL.out, HMX.out] at h
                   exact .inl ⟨ht, by omega⟩
                 · exact .inr ht
               clear hL hM hO ST NS HB alt hm0 hc1
               rcases key with ⟨rfl, hzm⟩ | rfl | rfl | rfl))
          all_goals (
            go_wp2
            go_roundw
            case rel => exact ⟨q + 1, T2, _, by omega, by go_num, NL, NB⟩
            case measure => simp [intOf]; omega)
        · obtain rfl : sn = q := by omega
          have L30 : Hid (LB w0 wr g0 base ob a g S K c0 js bs p cap (.slice A3 sn cp3) ss T U (2000 + 400 * 0)) := HL2.out.more (by omega)
          have B30 : Hid (BI c0 n T U 400) := HB.out.more (by omega)
          clear HL2 HB
          go_upto_region 19 with fail
          go_loopw [18] (fun u18 wr => ∃ (k : Nat) (T : Nat → AT) (U : List Int), k ≤ n ∧ u18 = .int .i64 k ∧ Hid (LB w0 wr g0 base ob a g S K c0 js bs p cap (.slice A3 sn cp3) ss T U (2000 + 400 * k)) ∧ Hid (BI c0 n T U 400)) (fun u18 _ => n - (intOf u18).toNat)
          case atStart => exact ⟨0, T, U, by omega, rfl, L30, B30⟩
          case round =>
            clear L30 B30 T U
            obtain ⟨k, T, U, hk, rfl, HL2, HB⟩ := hrel
            by_cases hlt3 : k < n
            · have hkj : k < js.length := by rw [HNN.out]; exact hlt3
              have HKJ := Lib.hid hkj
              have HR0 : Hid ((0 : Nat) = 0 ∨ (T k).phase ≠ 10) := .inl rfl
              have HR1 : Hid (((0 : Nat) : Int) ≤ U.getD k 0) := (HB.out.all k hlt3).1
              clear hkj
              go_upto_region 21 with fail
              go_loopw [] (fun wr => ∃ (r : Nat) (T : Nat → AT) (U : List Int), Hid (LB w0 wr g0 base ob a g S K c0 js bs p cap (.slice A3 sn cp3) ss T U (2000 + 400 * k + r)) ∧ Hid (BI c0 n T U 400) ∧ Hid (r = 0 ∨ (T k).phase ≠ 10) ∧ Hid ((r : Int) ≤ U.getD k 0)) (fun wr => (400 - cellN wr ob k).toNat)
              case atStart => exact ⟨0, T, U, HL2, HB, .inl rfl, HR1⟩
              case round =>
                clear HL2 HB HR0 HR1 T U
                obtain ⟨r, T, U, HL2, HB, HR0, HR1⟩ := hrel
                have hUl : k < U.length := by rw [HB.out.len]; exact hlt3
                have HUL := Lib.hid hUl
                obtain ⟨z, hz⟩ : ∃ z, U.getD k 0 = z := ⟨_, rfl⟩
                have hz2 := HB.out.all k hlt3
                have hr1 := HR1.out
                have hcn : Hid (cellN wr ob k = z) := by rw [Hid, cell_n HL2.out.ir hUl]; exact hz
                rw [hz] at hz2 hr1
                have hz0 : 0 ≤ z ∧ z ≤ 400 := ⟨hz2.1, hz2.2.1⟩
                have HOV : Hid ((T k).phase ≠ 10 → z + muG c0 (T k) ≤ mxv) := by rw [← HMX.out]; exact hz2.2.2
                have hm0 := HL2.out.l2.mu0 HKJ.out
                have hr285 : r ≤ 300 := by
                  rcases HR0.out with h | h
                  · omega
                  · have := HOV.out h; omega
                have q1 := HL2.out.ir.get hUl
                rw [hz] at q1
                have HZ := Lib.hid hz
                have hc1 := HL2.out.cell HKJ.out
                have HM0 := Lib.hid hm0
                clear hUl hz hz2 hr1 hm0
                by_cases hxm : z < most
                · have ST := Lib.hid (HL2.out.step HJS.out HKJ.out (by omega))
                  go_upto_region 23 with (first
                    | (go_at_call 16; refine ST.out.mono ?_; rintro e w2 ⟨T2, t, rfl, hL, hM, hO, alt, hm2, htd⟩
                       have NL := Lib.hid hL
                       have HMO := Lib.hid hM
                       have HOO := Lib.hid hO
                       have HM2 := Lib.hid hm2
                       have HTD := Lib.hid htd
                       have q1 := hL.ir.get (j := k) HUL.out
                       rw [HZ.out] at q1
                       have q2 := hL.ir.set k (z + 1)
                       have q3 := hL.ir.free k
                       have hc2 := hL.cell HKJ.out
                       clear hL hM hO ST hm2 htd hc1
                       rcases alt with ⟨h10, rfl⟩ | ⟨h10, rfl | rfl | rfl⟩))
                  · have NB : Hid (BI c0 n T2 (U.set k (z + 1)) 400) := by have h := HB.out.inc hlt3 HMO.out HOO.out h10 HM2.out (Nat.le_refl _); rw [HZ.out] at h; exact h
                    have hz3 : z + 1 ≤ 285 := by
                      have h := (NB.out.all k hlt3).2.2 h10
                      rw [getD_set_self _ HUL.out, HMX.out] at h
                      have := HM2.out; omega
                    have NS : Hid (LB w0 (w2.setRow ob (((U.map (Value.int .i64)).set k (.int .i64 (z + 1))).toArray)) g0 base ob a g S K c0 js bs p cap (.slice A3 sn cp3) ss T2 (U.set k (z + 1)) (2000 + 400 * k + (r + 1))) := by
                      have h := NL.out.store (U.set k (z + 1)); rw [List.map_set] at h; exact h
                    have NR1 : Hid (((r + 1 : Nat) : Int) ≤ (U.set k (z + 1)).getD k 0) := by rw [getD_set_self _ HUL.out, Hid]; have := HR1.out; rw [HZ.out] at this; omega
                    refine ⟨⟨r + 1, T2, _, NS, NB, .inr h10, NR1⟩, ?_⟩
                    have e1 := hcn.out
                    have e2 : cellN (w2.setRow ob (((U.map (Value.int .i64)).set k (.int .i64 (z + 1))).toArray)) ob k = z + 1 := by
                      rw [cell_n NS.out.ir (by rw [List.length_set]; exact HUL.out), getD_set_self _ HUL.out]
                    rw [e1, e2]; omega
                  all_goals (
                    have OV := Lib.hid (NL.out.over HKJ.out h10)
                    rw [HTD.out] at OV
                    have NB2 : Hid (BI c0 n T2 U 400) := HB.out.only HMO.out HOO.out
                    clear q1 q2 q3
                    go_wp2_with (first
                      | (go_at_call 16; refine OV.out.mono ?_; rintro e w3 ⟨rfl, hb⟩
                         have NL3 : Hid (LB w0 w3 g0 base ob a g S K c0 js bs p cap (.slice A3 sn cp3) ss T2 U (2000 + 400 * (k + 1))) := (NL.out.below hb).more (by omega)
                         clear hb NL OV hc2))
                    refine ⟨⟨k + 1, T2, U, by omega, by go_num, NL3, NB2⟩, ?_⟩
                    simp [intOf]; omega)
                · have h10 : (T k).phase = 10 := Classical.byContradiction fun h => by have h1 := HOV.out h; have := HM0.out; omega
                  have alt := HL2.out.l2.qw.told HKJ.out
                  have OV := Lib.hid (HL2.out.over HKJ.out h10)
                  obtain ⟨t, ht⟩ : ∃ t, told (T k) = t := ⟨_, rfl⟩
                  rw [ht] at OV alt
                  have ht3 : t = 1 ∨ t = 2 ∨ t = 3 := by
                    rcases alt with ⟨h, _⟩ | ⟨_, h⟩
                    · exact absurd h10 h
                    · exact h
                  have NL3 : Hid (LB w0 wr g0 base ob a g S K c0 js bs p cap (.slice A3 sn cp3) ss T U (2000 + 400 * (k + 1))) := HL2.out.more (by omega)
                  clear alt ht HL2 h10
                  rcases ht3 with rfl | rfl | rfl
                  all_goals (
                    go_wp2_with (first
                      | (go_at_call 16; refine OV.out.mono ?_; rintro e w3 ⟨rfl, hb⟩
                         have NL4 := Lib.hid (NL3.out.below hb)
                         clear hb NL3 OV hc1 q1))
                    refine ⟨⟨k + 1, T, U, by omega, by go_num, NL4, HB⟩, ?_⟩
                    simp [intOf]; omega)
            · obtain rfl : n = k := by omega
              have HBZ := Lib.hid HL2.out.bel
              go_wp2_with (first
                | (go_at_call 9; refine (LN.out _).mono ?_; rintro e wz ⟨rfl, hb⟩
                   have BZ : Hid (Below g0 w0 wz) := (HL2.out.below hb).bel
                   clear hb))
              go_ret
              exact ⟨rfl, BZ.out⟩

set_option maxRecDepth 100000 in
theorem walk {H : Type} {enc : TypeId × Value → H} {base : Nat} {spare : Nat → Bool} {held : Bool} {d0 d1 d2 : DataW H} {p0 p1 p2 : List MemPlace} {r : Reach} {b0 : Nat} (v0 : Value) (y : Int) (v1 v2 : Value) (w : World)
    (hv0 : Value.okWide Tryz.prog w r b0 23 v0) (t0 : DataW.Trod enc Tryz.prog w base spare held 23 v0 d0 p0) (_hy : (Lit.int .i64 y).wf = true)
    (hv1 : Value.okWide Tryz.prog w r b0 24 v1) (t1 : DataW.Trod enc Tryz.prog w base spare held 24 v1 d1 p1)
    (hv2 : Value.okWide Tryz.prog w r b0 25 v2) (t2 : DataW.Trod enc Tryz.prog w base spare held 25 v2 d2 p2) :
    Calls Tryz.prog 3 #[v0, .int .i64 y, v1, v2] w fun e w' => e = .returned (.bool true) ∧ Below w.heap.size w w' := by
  obtain ⟨c, rfl⟩ := Lay.cfg_of hv0 t0
  obtain ⟨js, h3, h4⟩ := jobs_of hv1 t1
  obtain ⟨ss, h5, h6⟩ := View.words_of hv2 t2
  exact walk_in h3 h4 h5
end Batt28
end Att
end Go.Proofs.YthojgahcpkdemaaGreat

/- PROVED HERE: 'assart/assartlaw28.BoundAttempt' returns true for every input, without a panic, and its arguments read behind the call as they read before (Whatever other attempts do between, an attempt is over within as many steps of its own). Condition: none beyond the row's own. -/
namespace Go.Proofs.YthojgahcpkdemaaGreat
namespace FrBoundAttempt
open Go.ChangeShapes Go.WideShapes Go.ChangeAt Go.RowKit
open Go.ChangeMaps (open_string shut_string)
set_option linter.unusedVariables false

theorem own : ownKnob Tryz.prog.godebug = none := by kernel_rfl
theorem laidOut : laidOutB Tryz.prog = true := by kernel_rfl

set_option maxRecDepth 100000 in
theorem lifted (os : Os) (started : os.Started) (H : Type) (enc : TypeId × Value → H) :
    ReturnsInHanded {} Tryz.checked os 3 .any (Rows.boundAttemptSpec.pre6 enc Tryz.prog Tryz.f3 Rows.boundAttemptRow.domain false) (Rows.boundAttemptSpec.post enc Tryz.prog Tryz.f3 false true false false) := by
  refine returnsInHanded_of_change (C := Tryz.checked) own started (by kernel_rfl) Tryz.func3
    (ChangeSpec.witness6 (enc := enc) (C := Tryz.checked) false ⟨#[], #[.agg #[.int .i64 0, .int .i64 0, .int .i64 0, .int .i64 0, .int .i64 0, .int .i64 0, .int .i64 0, .int .i64 0, .int .i64 0, .int .i64 0, .int .i64 0], .int .i64 0, .slice none 0 0, .slice none 0 0], []⟩ 8 (by kernel_rfl) (by kernel_rfl) (by kernel_rfl) (by kernel_rfl)) ?_
  intro W base args ds gs before hval0 hW hcnd _
  have hval : ∀ (j : Nat) t v, Tryz.f3.params[j]? = some t → args[j]? = some v → Value.okWide Tryz.prog W .any base t v := hval0
  have hW' := hW
  obtain ⟨p, q, hA0, hV, rfl, hfz, hnd⟩ := hW
  have hA : DataW.TrodAll enc Tryz.prog W 0 (fun _ => true) true Tryz.f3.params.toList args.toList ds p := hA0
  rw [Tryz.params3] at hA hval
  obtain ⟨v0, vs0, d0, ds0, p0, q0, hargs, rfl, rfl, h0, r0⟩ := trodAll_cons hA
  obtain ⟨v1, vs1, d1, ds1, p1, q1, rfl, rfl, rfl, h1, r1⟩ := trodAll_cons r0
  obtain ⟨v2, vs2, d2, ds2, p2, q2, rfl, rfl, rfl, h2, r2⟩ := trodAll_cons r1
  obtain ⟨v3, vs3, d3, ds3, p3, q3, rfl, rfl, rfl, h3, r3⟩ := trodAll_cons r2
  obtain ⟨rfl, rfl, rfl⟩ := trodAll_nil r3
  obtain rfl : args = #[v0, v1, v2, v3] := by cases args; simp_all
  obtain ⟨rfl, rfl⟩ := trodVars_none hV
  have k0 := h0
  have lt0 : ∀ x ∈ p0, x.block < W.heap.size := by obtain ⟨m, hm⟩ := k0; exact DataW.trod_lt m _ _ _ hm
  obtain ⟨a1, rfl, rfl, rfl, w1⟩ := open_int Tryz.underlying3 (hval 1 3 v1 rfl rfl) h1
  have k2 := h2
  have lt2 : ∀ x ∈ p2, x.block < W.heap.size := by obtain ⟨m, hm⟩ := k2; exact DataW.trod_lt m _ _ _ hm
  have k3 := h3
  have lt3 : ∀ x ∈ p3, x.block < W.heap.size := by obtain ⟨m, hm⟩ := k3; exact DataW.trod_lt m _ _ _ hm
  clear hA0 hval0
  refine (Att.Batt28.walk v0 a1 v2 v3 W (hval 0 23 v0 rfl rfl) h0 w1 (hval 2 24 v2 rfl rfl) h2 (hval 3 25 v3 rfl rfl) h3).mono fun e W' ⟨he, bel⟩ => ?_
  subst he
  exact ⟨_, rfl, _, _, _, [], _, [], hW', trodAll_mk1 (shut_bool Tryz.underlying4 _), (trodAll_cons_mk (Below.trod laidOut (by kernel_rfl) (of_decide_eq_true (by kernel_rfl)) k0 bel lt0) (trodAll_cons_mk (shut_int Tryz.underlying3 w1) (trodAll_cons_mk (Below.trod laidOut (by kernel_rfl) (of_decide_eq_true (by kernel_rfl)) k2 bel lt2) (trodAll_cons_mk (Below.trod laidOut (by kernel_rfl) (of_decide_eq_true (by kernel_rfl)) k3 bel lt3) trodAll_mk0)))), rfl, bel.frame _, fun h => by cases h⟩

theorem over : Rows.boundAttemptRow.holds Tryz.pinned (OpenSpec.ofChange Rows.boundAttemptSpec) :=
  OpenClaim.holds_of_wide 3 Tryz.f3 rfl rfl rfl rfl rfl rfl rfl ⟨rfl, rfl, rfl, rfl, rfl⟩ rfl rfl rfl rfl rfl (by kernel_rfl) Tryz.func3 (by kernel_rfl)
    (of_decide_eq_true (by kernel_rfl)) (by unfold Func.isWrapper; first | (rw [if_pos (by decide +kernel)]; kernel_rfl) | (rw [if_neg (by decide +kernel)]; exact ⟨rfl, rfl⟩))
    (fun os started H enc _ => lifted os started H enc)

end FrBoundAttempt

theorem BoundAttempt_holds : Rows.BoundAttemptSaid := FrBoundAttempt.over
#print axioms BoundAttempt_holds
end Go.Proofs.YthojgahcpkdemaaGreat
