import Derived.Test.YtnpieopflgkjdaaOf
import Derived.Test.YtnpieopflgkjdaaSome
import Derived.Test.YtnpieopflgkjdaaRef28
namespace Go.Proofs.Ytnpieopflgkjdaa
open Go.RowKit Go.Bas
open Lay RefLay Chk Of
namespace Nums

theorem mild {c : Cfg} (F : Fine c) : Bou.Mild c (places c) := by
  have h := words_in F
  exact ⟨by rw [places_words]; omega, by have := F.stripes; omega, by have := F.workers; omega, F.tries, F.wait⟩
theorem att_eq {c : Cfg} (F : Fine c) : Bou.att c (places c) = Ref28.att c := by
  have h := words_in F
  unfold Bou.att Ref28.att
  rw [places_words, if_neg (by omega)]
  omega
theorem fal_eq {c : Cfg} (F : Fine c) : Bou.fal c (places c) = Ref28.fal c := by
  have h := words_in F
  unfold Bou.fal Ref28.fal
  rw [places_words, if_neg (by omega)]
def one : Cfg := ⟨1, 1, 1, 1, 1, 2, 9, 1, 0, 0, 1⟩
theorem one_fine : Fine one := by constructor <;> decide
theorem one_att : Bou.att one (places one) = 652 := by decide
theorem one_fal : Bou.fal one (places one) = 716 := by decide

set_option maxRecDepth 100000 in
set_option maxHeartbeats 1000000 in
theorem lives_any (w : World) : Calls Try.prog 19 #[] w fun e w' => e = .returned (.bool true) ∧ Below w.heap.size w w' := by
  have m := Lib.hid (mild one_fine)
  have a1 := one_att; have a2 := one_fal
  have a3 : one.tries * (652 + one.wait) + 716 = 1370 := rfl
  have a4 : 2 * (652 : Int) + one.wait + 716 = 2022 := rfl
  go_enter Try.func19, Try.ntmps19
  go_wp2_with (first
    | (refine wpList_store_row rfl 27 _ _ rfl w3.heap.size (lay one (places one)) rfl rfl 27 #[.int .i64 0, .int .i64 0, .int .i64 0, .int .i64 0, .int .i64 0, .int .i64 0, .int .i64 0, .int .i64 0, .int .i64 0, .int .i64 0, .int .i64 0, .int .i64 0, .int .i64 0, .int .i64 0, .int .i64 0, .int .i64 0, .int .i64 0, .int .i64 0, .int .i64 0, .int .i64 0, .int .i64 0, .int .i64 0, .int .i64 0] Ra.out (lay_size _ _) rfl (lay_one _ _) ?_)
    | (refine wpList_load_row_if rfl 27 _ rfl w3.heap.size rfl 27 (lay one (places one)) (0, 0) _ (by first | exact R6.out | exact R5.out | exact R4.out | exact Rb.out) Try.underlying27 rfl (lay_size _ _) ?_)
    | (go_at_call 10; refine (of_of one _ one_fine).mono ?_; rintro e w3 ⟨rfl, hb3⟩
       obtain ⟨wa, hwa⟩ : ∃ wa, w3.alloc (.cells #[.int .i64 0, .int .i64 0, .int .i64 0, .int .i64 0, .int .i64 0, .int .i64 0, .int .i64 0, .int .i64 0, .int .i64 0, .int .i64 0, .int .i64 0, .int .i64 0, .int .i64 0, .int .i64 0, .int .i64 0, .int .i64 0, .int .i64 0, .int .i64 0, .int .i64 0, .int .i64 0, .int .i64 0, .int .i64 0, .int .i64 0] 27) = wa := ⟨_, rfl⟩
       have Ra : Hid (wa.heap[w3.heap.size]? = some (.cells #[.int .i64 0, .int .i64 0, .int .i64 0, .int .i64 0, .int .i64 0, .int .i64 0, .int .i64 0, .int .i64 0, .int .i64 0, .int .i64 0, .int .i64 0, .int .i64 0, .int .i64 0, .int .i64 0, .int .i64 0, .int .i64 0, .int .i64 0, .int .i64 0, .int .i64 0, .int .i64 0, .int .i64 0, .int .i64 0, .int .i64 0] 27 (0, 0))) := by rw [← hwa]; exact new_row _ _ _
       have Rb : Hid ((wa.setRow w3.heap.size (lay one (places one))).heap[w3.heap.size]? = some (.cells (lay one (places one)) 27 (0, 0))) := setRow_same Ra.out
       have Bb : Hid (Below w.heap.size w (wa.setRow w3.heap.size (lay one (places one)))) := by rw [← hwa]; exact setRow_below (hb3.alloc hb3.size _) hb3.size _)
    | (go_at_call 11; refine (Bou.attempt_mild one (places one) _ m.out).mono ?_; rintro e w4 ⟨rfl, hb4⟩
       have R4 : Hid (w4.heap[w3.heap.size]? = some (.cells (lay one (places one)) 27 (0, 0))) := by rw [Hid, hb4.block _ (by have := (Array.getElem?_eq_some_iff.1 Rb.out).1; exact this)]; exact Rb.out
       have B4 : Hid (Below w.heap.size w w4) := Bb.out.trans (hb4.mono Bb.out.size))
    | (go_at_call 12; refine (Bou.fall_mild one (places one) _ m.out).mono ?_; rintro e w5 ⟨rfl, hb5⟩
       have R5 : Hid (w5.heap[w3.heap.size]? = some (.cells (lay one (places one)) 27 (0, 0))) := by rw [Hid, hb5.block _ (by have := (Array.getElem?_eq_some_iff.1 R4.out).1; exact this)]; exact R4.out
       have B5 : Hid (Below w.heap.size w w5) := B4.out.trans (hb5.mono B4.out.size))
    | (go_at_call 13; refine (Bou.rounds_mild one (places one) _ m.out).mono ?_; rintro e w6 ⟨rfl, hb6⟩
       have R6 : Hid (w6.heap[w3.heap.size]? = some (.cells (lay one (places one)) 27 (0, 0))) := by rw [Hid, hb6.block _ (by have := (Array.getElem?_eq_some_iff.1 R5.out).1; exact this)]; exact R5.out
       have B6 : Hid (Below w.heap.size w w6) := B5.out.trans (hb6.mono B5.out.size))
    | (go_at_call 14; refine (Bou.solo_mild one (places one) _ m.out).mono ?_; rintro e w7 ⟨rfl, hb7⟩
       have R7 : Hid (w7.heap[w3.heap.size]? = some (.cells (lay one (places one)) 27 (0, 0))) := by rw [Hid, hb7.block _ (by have := (Array.getElem?_eq_some_iff.1 R6.out).1; exact this)]; exact R6.out
       have B7 : Hid (Below w.heap.size w w7) := B6.out.trans (hb7.mono B6.out.size))
    )
  go_ret
  exact ⟨rfl, B7.out⟩

/-- the layout that is none -/
def zc : Cfg := ⟨0, 0, 0, 0, 0, 0, 0, 0, 0, 0, 0⟩
def za : At := ⟨0, 0, 0, 0, 0, 0, 0, 0, 0, 0, 0, 0⟩
theorem z_mild : Bou.Mild zc za := by constructor <;> decide

set_option maxRecDepth 100000 in
theorem built_ref (c : Cfg) : Try.prog.built 32 [(0, .agg (cfg c))] = some (cfg c) := by kernel_rfl
set_option maxRecDepth 100000 in
theorem built_none : Try.prog.built 27 [] = some (lay zc za) := by kernel_rfl

theorem rounds_eq {c : Cfg} (F : Fine c) : c.tries * (Bou.att c (places c) + c.wait) + Bou.fal c (places c) = c.tries * Ref28.att c + c.tries * c.wait + Ref28.fal c := by
  rw [att_eq F, fal_eq F, Int.mul_add]
theorem solo_eq {c : Cfg} (F : Fine c) : 2 * Bou.att c (places c) + c.wait + Bou.fal c (places c) = Ref28.att c + Ref28.att c + c.wait + Ref28.fal c := by
  rw [att_eq F, fal_eq F]; omega

set_option maxRecDepth 100000 in
set_option maxHeartbeats 2000000 in
theorem walk (c0 : Cfg) (w : World) : Calls Try.prog 3 #[.agg (cfg c0)] w fun e w' => e = .returned (.bool true) ∧ Below w.heap.size w w' := by
  obtain ⟨c, hc⟩ : ∃ c, Some_.some c0 = c := ⟨_, rfl⟩
  have F : Fine c := by rw [← hc]; exact Some_.some_fine c0
  have k1 : ∀ w, Calls Try.prog 11 #[.agg (lay c (places c))] w fun e w' => e = .returned (.int .i64 (Ref28.att c)) ∧ Below w.heap.size w w' := fun w => by rw [← att_eq F]; exact Bou.attempt_mild _ _ _ (mild F)
  have k2 : ∀ w, Calls Try.prog 12 #[.agg (lay c (places c))] w fun e w' => e = .returned (.int .i64 (Ref28.fal c)) ∧ Below w.heap.size w w' := fun w => by rw [← fal_eq F]; exact Bou.fall_mild _ _ _ (mild F)
  have k3 : ∀ w, Calls Try.prog 13 #[.agg (lay c (places c))] w fun e w' => e = .returned (.int .i64 (c.tries * Ref28.att c + c.tries * c.wait + Ref28.fal c)) ∧ Below w.heap.size w w' := fun w => by rw [← rounds_eq F]; exact Bou.rounds_mild _ _ _ (mild F)
  have k4 : ∀ w, Calls Try.prog 14 #[.agg (lay c (places c))] w fun e w' => e = .returned (.int .i64 (Ref28.att c + Ref28.att c + c.wait + Ref28.fal c)) ∧ Below w.heap.size w w' := fun w => by rw [← solo_eq F]; exact Bou.solo_mild _ _ _ (mild F)
  have z1 : ∀ w, Calls Try.prog 11 #[.agg (lay zc za)] w fun e w' => e = .returned (.int .i64 0) ∧ Below w.heap.size w w' := fun w => Bou.attempt_mild _ _ _ z_mild
  have z2 : ∀ w, Calls Try.prog 12 #[.agg (lay zc za)] w fun e w' => e = .returned (.int .i64 0) ∧ Below w.heap.size w w' := fun w => Bou.fall_mild _ _ _ z_mild
  have z3 : ∀ w, Calls Try.prog 13 #[.agg (lay zc za)] w fun e w' => e = .returned (.int .i64 0) ∧ Below w.heap.size w w' := fun w => Bou.rounds_mild _ _ _ z_mild
  have z4 : ∀ w, Calls Try.prog 14 #[.agg (lay zc za)] w fun e w' => e = .returned (.int .i64 0) ∧ Below w.heap.size w w' := fun w => Bou.solo_mild _ _ _ z_mild
  have K1 := Lib.hid k1; have K2 := Lib.hid k2; have K3 := Lib.hid k3; have K4 := Lib.hid k4
  have Z1 := Lib.hid z1; have Z2 := Lib.hid z2; have Z3 := Lib.hid z3; have Z4 := Lib.hid z4
  have FH := Lib.hid F; have HC := Lib.hid hc
  clear k1 k2 k3 k4 z1 z2 z3 z4 hc F
  obtain ⟨g, hg⟩ : ∃ g, w.heap.size = g := ⟨_, rfl⟩
  obtain ⟨w1, hw1⟩ : ∃ w1, w.alloc (.cells (cfg c0) 23) = w1 := ⟨_, rfl⟩
  have R1 : Hid (w1.heap[g]? = some (.cells (cfg c0) 23 (0, 0))) := by rw [← hw1, ← hg]; exact new_row _ _ _
  have B1 : Hid (Below g w w1) := by rw [← hw1, ← hg]; exact (Below.refl _ _).alloc (Nat.le_refl _) _
  have hs1 : w1.heap.size = g + 1 := by rw [← hw1, ← hg]; simp
  rw [hg]
  go_enter Try.func3, Try.ntmps3
  go_upto_region 2 with (first
    | (refine wpList_load_row rfl 23 _ rfl g rfl 23 (cfg c0) (0, 0) _ R1.out Try.underlying23 rfl (cfg_size _) ?_)
    | (refine wpList_store_row rfl 23 _ _ rfl g (cfg c) rfl rfl 23 (cfg c0) R2.out (cfg_size _) rfl (cfg_one _) ?_)
    | (go_at_call 9; refine (Some_.some_of c0 _).mono ?_; rintro e w2 ⟨rfl, hb2⟩
       rw [HC.out]
       have R2 : Hid (w2.heap[g]? = some (.cells (cfg c0) 23 (0, 0))) := by rw [Hid, hb2.block _ (by omega)]; exact R1.out))
  obtain ⟨w3, hw3⟩ : ∃ w3, w2.setRow g (cfg c) = w3 := ⟨_, rfl⟩
  have R3 : Hid (w3.heap[g]? = some (.cells (cfg c) 23 (0, 0))) := by rw [← hw3]; exact setRow_same R2.out
  have B3 : Hid (Below g w w3) := by rw [← hw3]; exact setRow_below (B1.out.trans (hb2.mono (by omega))) (Nat.le_refl _) _
  have hs3 : g + 1 ≤ w3.heap.size := by rw [← hw3, setRow_size, ← hs1]; exact hb2.size
  rw [hw3]
  clear hw3 hb2 R2 hw1 hs1 R1 B1
  go_upto_region 3 with (first
    | (refine wpList_load_row rfl 23 _ rfl g rfl 23 (cfg c) (0, 0) _ R3.out Try.underlying23 rfl (cfg_size _) ?_)
    | (refine wpList_store_row rfl 27 _ _ rfl w4.heap.size (lay c (places c)) rfl rfl 27 #[.int .i64 0, .int .i64 0, .int .i64 0, .int .i64 0, .int .i64 0, .int .i64 0, .int .i64 0, .int .i64 0, .int .i64 0, .int .i64 0, .int .i64 0, .int .i64 0, .int .i64 0, .int .i64 0, .int .i64 0, .int .i64 0, .int .i64 0, .int .i64 0, .int .i64 0, .int .i64 0, .int .i64 0, .int .i64 0, .int .i64 0] R5.out (lay_size _ _) rfl (lay_one _ _) ?_)
    | (go_at_call 10; refine (of_of c _ FH.out).mono ?_; rintro e w4 ⟨rfl, hb4⟩
       obtain ⟨w5, hw5⟩ : ∃ w5, w4.alloc (.cells #[.int .i64 0, .int .i64 0, .int .i64 0, .int .i64 0, .int .i64 0, .int .i64 0, .int .i64 0, .int .i64 0, .int .i64 0, .int .i64 0, .int .i64 0, .int .i64 0, .int .i64 0, .int .i64 0, .int .i64 0, .int .i64 0, .int .i64 0, .int .i64 0, .int .i64 0, .int .i64 0, .int .i64 0, .int .i64 0, .int .i64 0] 27) = w5 := ⟨_, rfl⟩
       have R5 : Hid (w5.heap[w4.heap.size]? = some (.cells #[.int .i64 0, .int .i64 0, .int .i64 0, .int .i64 0, .int .i64 0, .int .i64 0, .int .i64 0, .int .i64 0, .int .i64 0, .int .i64 0, .int .i64 0, .int .i64 0, .int .i64 0, .int .i64 0, .int .i64 0, .int .i64 0, .int .i64 0, .int .i64 0, .int .i64 0, .int .i64 0, .int .i64 0, .int .i64 0, .int .i64 0] 27 (0, 0))) := by rw [← hw5]; exact new_row _ _ _))
  obtain ⟨l, hl⟩ : ∃ l, w4.heap.size = l := ⟨_, rfl⟩
  obtain ⟨w6, hw6⟩ : ∃ w6, w5.setRow w4.heap.size (lay c (places c)) = w6 := ⟨_, rfl⟩
  have hgl : g + 1 ≤ l := by rw [← hl]; exact Nat.le_trans hs3 hb4.size
  have hs6 : w6.heap.size = l + 1 := by rw [← hw6, setRow_size, ← hw5, ← hl]; simp
  have R6 : Hid (w6.heap[g]? = some (.cells (cfg c) 23 (0, 0))) := by rw [← hw6, Hid, setRow_other _ _ _ _ (by omega), ← hw5, alloc_heap _ _ _ (by omega), hb4.block _ (by omega)]; exact R3.out
  have L6 : Hid (w6.heap[l]? = some (.cells (lay c (places c)) 27 (0, 0))) := by rw [← hw6, ← hl]; exact setRow_same R5.out
  have B6 : Hid (Below g w w6) := by rw [← hw6]; exact setRow_below (by rw [← hw5]; exact (B3.out.trans (hb4.mono (by omega))).alloc (by omega) _) (by omega) _
  rw [hw6, hl]
  clear hw6 hw5 R5 hb4 hl R3 B3 hs3
  obtain ⟨w7, hw7⟩ : ∃ w7, w6.alloc (.cells #[.int .i64 0, .int .i64 0, .int .i64 0, .int .i64 0, .int .i64 0, .int .i64 0, .int .i64 0, .int .i64 0, .int .i64 0, .int .i64 0, .int .i64 0] 32) = w7 := ⟨_, rfl⟩
  have R7 : Hid (w7.heap[l + 1]? = some (.cells #[.int .i64 0, .int .i64 0, .int .i64 0, .int .i64 0, .int .i64 0, .int .i64 0, .int .i64 0, .int .i64 0, .int .i64 0, .int .i64 0, .int .i64 0] 32 (0, 0))) := by rw [← hw7, ← hs6]; exact new_row _ _ _
  go_upto_region 4 with (first
    | (refine wpList_load_row rfl 23 _ rfl g rfl 23 (cfg c) (0, 0) _ R6.out Try.underlying23 rfl (cfg_size _) ?_)
    | (refine wpList_built rfl 32 _ rfl [(0, .agg (cfg c))] rfl (cfg c) (built_ref c) ?_)
    | (refine wpList_store_row rfl 32 _ _ rfl (l + 1) (cfg c) rfl rfl 32 #[.int .i64 0, .int .i64 0, .int .i64 0, .int .i64 0, .int .i64 0, .int .i64 0, .int .i64 0, .int .i64 0, .int .i64 0, .int .i64 0, .int .i64 0] R7.out (cfg2_size _) rfl (cfg_one _) ?_))
  obtain ⟨w8, hw8⟩ : ∃ w8, w7.setRow (l + 1) (cfg c) = w8 := ⟨_, rfl⟩
  have hs8 : w8.heap.size = l + 2 := by rw [← hw8, setRow_size, ← hw7]; simp; omega
  have R8 : Hid (w8.heap[l + 1]? = some (.cells (cfg c) 32 (0, 0))) := by rw [← hw8]; exact setRow_same R7.out
  have L8 : Hid (w8.heap[l]? = some (.cells (lay c (places c)) 27 (0, 0))) := by rw [← hw8, Hid, setRow_other _ _ _ _ (by omega), ← hw7, alloc_heap _ _ _ (by omega)]; exact L6.out
  have B8 : Hid (Below g w w8) := by rw [← hw8]; exact setRow_below (by rw [← hw7]; exact B6.out.alloc (by omega) _) (by omega) _
  rw [hw8]
  clear hw8 hw7 R7 R6 L6 B6 hs6
  obtain ⟨w9, hw9⟩ : ∃ w9, w8.alloc (.cells #[.int .i64 0, .int .i64 0, .int .i64 0, .int .i64 0, .int .i64 0, .int .i64 0, .int .i64 0, .int .i64 0, .int .i64 0, .int .i64 0, .int .i64 0, .int .i64 0, .int .i64 0, .int .i64 0, .int .i64 0, .int .i64 0, .int .i64 0, .int .i64 0, .int .i64 0, .int .i64 0, .int .i64 0, .int .i64 0, .int .i64 0] 27) = w9 := ⟨_, rfl⟩
  have R9 : Hid (w9.heap[l + 2]? = some (.cells #[.int .i64 0, .int .i64 0, .int .i64 0, .int .i64 0, .int .i64 0, .int .i64 0, .int .i64 0, .int .i64 0, .int .i64 0, .int .i64 0, .int .i64 0, .int .i64 0, .int .i64 0, .int .i64 0, .int .i64 0, .int .i64 0, .int .i64 0, .int .i64 0, .int .i64 0, .int .i64 0, .int .i64 0, .int .i64 0, .int .i64 0] 27 (0, 0))) := by rw [← hw9, ← hs8]; exact new_row _ _ _
  go_upto_region 5 with (first
    | (refine wpList_built rfl 27 _ rfl [] rfl (lay zc za) built_none ?_)
    | (refine wpList_store_row rfl 27 _ _ rfl (l + 2) (lay zc za) rfl rfl 27 #[.int .i64 0, .int .i64 0, .int .i64 0, .int .i64 0, .int .i64 0, .int .i64 0, .int .i64 0, .int .i64 0, .int .i64 0, .int .i64 0, .int .i64 0, .int .i64 0, .int .i64 0, .int .i64 0, .int .i64 0, .int .i64 0, .int .i64 0, .int .i64 0, .int .i64 0, .int .i64 0, .int .i64 0, .int .i64 0, .int .i64 0] R9.out (lay_size _ _) rfl (lay_one _ _) ?_))
  obtain ⟨w10, hw10⟩ : ∃ w10, w9.setRow (l + 2) (lay zc za) = w10 := ⟨_, rfl⟩
  have hs10 : w10.heap.size = l + 3 := by rw [← hw10, setRow_size, ← hw9]; simp; omega
  have N10 : Hid (w10.heap[l + 2]? = some (.cells (lay zc za) 27 (0, 0))) := by rw [← hw10]; exact setRow_same R9.out
  have R10 : Hid (w10.heap[l + 1]? = some (.cells (cfg c) 32 (0, 0))) := by rw [← hw10, Hid, setRow_other _ _ _ _ (by omega), ← hw9, alloc_heap _ _ _ (by omega)]; exact R8.out
  have L10 : Hid (w10.heap[l]? = some (.cells (lay c (places c)) 27 (0, 0))) := by rw [← hw10, Hid, setRow_other _ _ _ _ (by omega), ← hw9, alloc_heap _ _ _ (by omega)]; exact L8.out
  have B10 : Hid (Below g w w10) := by rw [← hw10]; exact setRow_below (by rw [← hw9]; exact B8.out.alloc (by omega) _) (by omega) _
  rw [hw10]
  clear hw10 hw9 R9 R8 L8 B8 hs8
  refine wp_region_mono (l + 3) (by kernel_rfl) (by kernel_rfl) ?_
  repeat (any_goals (first | (refine wpQuiet_load_row rfl 27 _ rfl (l + 2) rfl 27 (lay zc za) (0, 0) _ (ext_row N10.out (by omega)) Try.underlying27 rfl (lay_size _ _) ?_; go_simp) | go_big_quiet_step ((first | (go_at_call 11; exact Calls.ext (by omega) (Z1.out _)) | (go_at_call 12; exact Calls.ext (by omega) (Z2.out _)) | (go_at_call 13; exact Calls.ext (by omega) (Z3.out _)) | (go_at_call 14; exact Calls.ext (by omega) (Z4.out _))))))
  refine wpQuiet_nil ?_
  rintro ⟨w11, hb11⟩
  have hs11 : l + 3 ≤ w11.heap.size := by have := hb11.size; omega
  have R11 : Hid (w11.heap[l + 1]? = some (.cells (cfg c) 32 (0, 0))) := by rw [Hid, hb11.block _ (by omega)]; exact R10.out
  have L11 : Hid (w11.heap[l]? = some (.cells (lay c (places c)) 27 (0, 0))) := by rw [Hid, hb11.block _ (by omega)]; exact L10.out
  have B11 : Hid (Below g w w11) := B10.out.trans (hb11.mono (by omega))
  clear R10 L10 B10 N10 hs10
  go_upto_region 7 with fail
  refine wp_region_mono (l + 3) (by kernel_rfl) (by kernel_rfl) ?_
  repeat (any_goals (first | (refine wpQuiet_load_row rfl 27 _ rfl l rfl 27 (lay c (places c)) (0, 0) _ (ext_row L11.out (by omega)) Try.underlying27 rfl (lay_size _ _) ?_; go_simp) | (refine wpQuiet_load_row rfl 32 _ rfl (l + 1) rfl 32 (cfg c) (0, 0) _ (ext_row R11.out (by omega)) Try.underlying32 rfl (cfg2_size _) ?_; go_simp) | go_big_quiet_step ((first | (go_at_call 11; exact Calls.ext hs11 (K1.out _)) | (go_at_call 12; exact Calls.ext hs11 (K2.out _)) | (go_at_call 13; exact Calls.ext hs11 (K3.out _)) | (go_at_call 14; exact Calls.ext hs11 (K4.out _)) | (go_at_call 15; exact Calls.ext hs11 (Ref28.att_of c _ FH.out)) | (go_at_call 16; exact Calls.ext hs11 (Ref28.fal_of c _ FH.out)) | (go_at_call 17; exact Calls.ext hs11 (Ref28.rounds_of c _ FH.out)) | (go_at_call 18; exact Calls.ext hs11 (Ref28.solo_of c _ FH.out)) | (go_at_call 19; exact Calls.ext hs11 (lives_any _))))))
  refine wpQuiet_nil ?_
  rintro ⟨w12, hb12⟩
  go_wp2
  go_ret
  exact ⟨rfl, B11.out.trans (hb12.mono (by omega))⟩

end Nums
end Go.Proofs.Ytnpieopflgkjdaa
