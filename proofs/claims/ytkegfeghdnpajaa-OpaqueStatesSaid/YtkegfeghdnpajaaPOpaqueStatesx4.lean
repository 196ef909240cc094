-- PRINTED BY print.sh 35421559b90ae4d0a3588c463048766b98c2df88dd9212a6774a882060cdf62d: not written by this session
import Derived.Test.YtkegfeghdnpajaaPOpaqueStatesx0
import Derived.Test.YtkegfeghdnpajaaPOpaqueStatesx1
import Derived.Test.YtkegfeghdnpajaaPOpaqueStatesx3
namespace Go.Proofs.Ytkegfeghdnpajaa.POpaqueStates
open Go.RowKit Go.Proofs.YtkegfeghdnpajaaW.PrintWords Go.Proofs.YtkegfeghdnpajaaW.PrintLast Go.Proofs.YtkegfeghdnpajaaW.PrintMore
attribute [local go_sem] max2_int min2_int max_two min_two max_three min_three max_four min_four   -- for this text's walks alone
set_option linter.unusedVariables false
set_option linter.unusedSimpArgs false

/-! ### assartref34_next: function 90 -/
mutual
def assartref34_next.l0 : Nat → List (S91) → Int → Bool → Int → Bool → Int → Option (Int × Bool)
  | 0, _, _, _, _, _, _ => none
  | k + 1, x0, x1, x2, x8, x9, x10 => if x10 < (x0.length : Int) then (if 0 ≤ x10 then ((assartref34_raised.f ((rd_T91 x0 x10).f0) ((rd_T91 x0 x10).f1) ((rd_T91 x0 x10).f2) ((rd_T91 x0 x10).f3) ((rd_T91 x0 x10).f4) ((rd_T91 x0 x10).f5) ((rd_T91 x0 x10).f6) ((rd_T91 x0 x10).f7)).bind fun t137 => (if t137 = true then (if x2 = true then (if ((rd_T91 x0 x10).f2) > x1 then (if x9 = true then (assartref34_next.j1 k x0 x1 x2 x8 x9 x10 (decide (((rd_T91 x0 x10).f2) < x8)) ((rd_T91 x0 x10).f0) ((rd_T91 x0 x10).f1) ((rd_T91 x0 x10).f2) ((rd_T91 x0 x10).f3) ((rd_T91 x0 x10).f4) ((rd_T91 x0 x10).f5) ((rd_T91 x0 x10).f6) ((rd_T91 x0 x10).f7)) else (assartref34_next.j1 k x0 x1 x2 x8 x9 x10 true ((rd_T91 x0 x10).f0) ((rd_T91 x0 x10).f1) ((rd_T91 x0 x10).f2) ((rd_T91 x0 x10).f3) ((rd_T91 x0 x10).f4) ((rd_T91 x0 x10).f5) ((rd_T91 x0 x10).f6) ((rd_T91 x0 x10).f7))) else (assartref34_next.j1 k x0 x1 x2 x8 x9 x10 false ((rd_T91 x0 x10).f0) ((rd_T91 x0 x10).f1) ((rd_T91 x0 x10).f2) ((rd_T91 x0 x10).f3) ((rd_T91 x0 x10).f4) ((rd_T91 x0 x10).f5) ((rd_T91 x0 x10).f6) ((rd_T91 x0 x10).f7))) else (if x9 = true then (assartref34_next.j1 k x0 x1 x2 x8 x9 x10 (decide (((rd_T91 x0 x10).f2) < x8)) ((rd_T91 x0 x10).f0) ((rd_T91 x0 x10).f1) ((rd_T91 x0 x10).f2) ((rd_T91 x0 x10).f3) ((rd_T91 x0 x10).f4) ((rd_T91 x0 x10).f5) ((rd_T91 x0 x10).f6) ((rd_T91 x0 x10).f7)) else (assartref34_next.j1 k x0 x1 x2 x8 x9 x10 true ((rd_T91 x0 x10).f0) ((rd_T91 x0 x10).f1) ((rd_T91 x0 x10).f2) ((rd_T91 x0 x10).f3) ((rd_T91 x0 x10).f4) ((rd_T91 x0 x10).f5) ((rd_T91 x0 x10).f6) ((rd_T91 x0 x10).f7)))) else (assartref34_next.j1 k x0 x1 x2 x8 x9 x10 false ((rd_T91 x0 x10).f0) ((rd_T91 x0 x10).f1) ((rd_T91 x0 x10).f2) ((rd_T91 x0 x10).f3) ((rd_T91 x0 x10).f4) ((rd_T91 x0 x10).f5) ((rd_T91 x0 x10).f6) ((rd_T91 x0 x10).f7)))) else (none)) else (some (x8, x9))
def assartref34_next.j1 : Nat → List (S91) → Int → Bool → Int → Bool → Int → Bool → Int → Int → Int → Int → Bool → Bool → List (S93) → List (S93) → Option (Int × Bool)
  | 0, _, _, _, _, _, _, _, _, _, _, _, _, _, _, _ => none
  | k + 1, x0, x1, x2, x8, x9, x10, x43, x137000, x137001, x137002, x137003, x137004, x137005, x137006, x137007 => if x43 = true then ((assartref34_stores.f x137000 x137001 x137002 x137003 x137004 x137005 x137006 x137007).bind fun t138 => (if t138 = true then (if x2 = true then (if x137003 > x1 then (if x137003 < x137002 then (assartref34_next.l0 k x0 x1 x2 x137003 true (wrap64 (x10 + 1))) else (assartref34_next.l0 k x0 x1 x2 x137002 true (wrap64 (x10 + 1)))) else (assartref34_next.l0 k x0 x1 x2 x137002 true (wrap64 (x10 + 1)))) else (if x137003 < x137002 then (assartref34_next.l0 k x0 x1 x2 x137003 true (wrap64 (x10 + 1))) else (assartref34_next.l0 k x0 x1 x2 x137002 true (wrap64 (x10 + 1))))) else (assartref34_next.l0 k x0 x1 x2 x137002 true (wrap64 (x10 + 1))))) else ((assartref34_stores.f x137000 x137001 x137002 x137003 x137004 x137005 x137006 x137007).bind fun t139 => (if t139 = true then (if x2 = true then (if x137003 > x1 then (if x9 = true then (if x137003 < x8 then (assartref34_next.l0 k x0 x1 x2 x137003 true (wrap64 (x10 + 1))) else (assartref34_next.l0 k x0 x1 x2 x8 x9 (wrap64 (x10 + 1)))) else (assartref34_next.l0 k x0 x1 x2 x137003 true (wrap64 (x10 + 1)))) else (assartref34_next.l0 k x0 x1 x2 x8 x9 (wrap64 (x10 + 1)))) else (if x9 = true then (if x137003 < x8 then (assartref34_next.l0 k x0 x1 x2 x137003 true (wrap64 (x10 + 1))) else (assartref34_next.l0 k x0 x1 x2 x8 x9 (wrap64 (x10 + 1)))) else (assartref34_next.l0 k x0 x1 x2 x137003 true (wrap64 (x10 + 1))))) else (assartref34_next.l0 k x0 x1 x2 x8 x9 (wrap64 (x10 + 1)))))
end
def assartref34_next.f (k : Nat) (l0 : List (S91)) (a1 : Int) (a2 : Bool) : Option (Int × Bool) := assartref34_next.l0 k l0 a1 a2 0 false 0
theorem assartref34_next.mono_l : ∀ k, (∀ y0 y1 y2 y3 y4 y5, LeO (assartref34_next.l0 k y0 y1 y2 y3 y4 y5) (assartref34_next.l0 (k + 1) y0 y1 y2 y3 y4 y5)) ∧ (∀ y0 y1 y2 y3 y4 y5 y6 y7 y8 y9 y10 y11 y12 y13 y14, LeO (assartref34_next.j1 k y0 y1 y2 y3 y4 y5 y6 y7 y8 y9 y10 y11 y12 y13 y14) (assartref34_next.j1 (k + 1) y0 y1 y2 y3 y4 y5 y6 y7 y8 y9 y10 y11 y12 y13 y14))
  | 0 => ⟨fun _ _ _ _ _ _ r h => by simp [assartref34_next.l0] at h, fun _ _ _ _ _ _ _ _ _ _ _ _ _ _ _ r h => by simp [assartref34_next.j1] at h⟩
  | k + 1 => by
    obtain ⟨ih0, ih1⟩ := assartref34_next.mono_l k
    refine ⟨?_, ?_⟩
    · intro y0 y1 y2 y3 y4 y5
      unfold assartref34_next.l0
      repeat' first
      | (with_reducible exact ih0 _ _ _ _ _ _)
      | (with_reducible exact ih1 _ _ _ _ _ _ _ _ _ _ _ _ _ _ _)
      | (with_reducible exact LeO.refl _)
      | (with_reducible exact LeO.none _)
      | (with_reducible refine LeO.ite ?_ ?_)
      | (with_reducible refine LeO.bind ?_ (fun _ => ?_))
      | exact ih0 _ _ _ _ _ _
      | exact ih1 _ _ _ _ _ _ _ _ _ _ _ _ _ _ _
      | exact LeO.none _
      | refine LeO.ite ?_ ?_
      | refine LeO.bind ?_ (fun _ => ?_)
    · intro y0 y1 y2 y3 y4 y5 y6 y7 y8 y9 y10 y11 y12 y13 y14
      unfold assartref34_next.j1
      repeat' first
      | (with_reducible exact ih0 _ _ _ _ _ _)
      | (with_reducible exact ih1 _ _ _ _ _ _ _ _ _ _ _ _ _ _ _)
      | (with_reducible exact LeO.refl _)
      | (with_reducible exact LeO.none _)
      | (with_reducible refine LeO.ite ?_ ?_)
      | (with_reducible refine LeO.bind ?_ (fun _ => ?_))
      | exact ih0 _ _ _ _ _ _
      | exact ih1 _ _ _ _ _ _ _ _ _ _ _ _ _ _ _
      | exact LeO.none _
      | refine LeO.ite ?_ ?_
      | refine LeO.bind ?_ (fun _ => ?_)
theorem assartref34_next.mono : ∀ a0 a1 a2 k, LeO (assartref34_next.f k a0 a1 a2) (assartref34_next.f (k + 1) a0 a1 a2) := by
  intro a0 a1 a2 k
  obtain ⟨ih0, ih1⟩ := assartref34_next.mono_l k
  unfold assartref34_next.f
  repeat' first
      | (with_reducible exact ih0 _ _ _ _ _ _)
      | (with_reducible exact ih1 _ _ _ _ _ _ _ _ _ _ _ _ _ _ _)
      | (with_reducible exact LeO.refl _)
      | (with_reducible exact LeO.none _)
      | (with_reducible refine LeO.ite ?_ ?_)
      | (with_reducible refine LeO.bind ?_ (fun _ => ?_))
      | exact ih0 _ _ _ _ _ _
      | exact ih1 _ _ _ _ _ _ _ _ _ _ _ _ _ _ _
      | exact LeO.none _
      | refine LeO.ite ?_ ?_
      | refine LeO.bind ?_ (fun _ => ?_)
set_option maxHeartbeats 8000000 in
set_option maxRecDepth 100000 in
theorem assartref34_next.calls (k : Nat) (A0 : Option Addr) (c0 : Nat) (l0 : List (S91)) (a1 : Int) (a2 : Bool) (r1 : Int) (r2 : Bool) (w : World) (hr0 : Kd.C k91 w A0 l0.length l0) (hc0 : l0.length ≤ c0) (h : assartref34_next.f k l0 a1 a2 = some (r1, r2)) :
    Calls Try.prog 90 #[.slice A0 l0.length c0, .int .i64 a1, .bool a2] w fun e w' => e = .returned (.tuple #[.int .i64 r1, .bool r2]) ∧ Below w.heap.size w w' := by
  have hu91 := Try.underlying91
  have HR0 := Aside0.mk hr0
  have HC0 := Aside0.mk hc0
  clear hr0 hc0
  have HB := Aside0.mk (Below.refl w.heap.size w)
  have H : (assartref34_next.l0 k l0 a1 a2 0 false 0) = some (r1, r2) := h
  clear h
  have H' := Aside0.mk H
  clear H
  go_enter Try.func90, Try.ntmps90
  go_wp2
  go_loopg [8, 9, 10] k (fun kq v8 v9 v10 w' => ∃ (x8_1 : Int) (x9_1 : Bool) (x10_1 : Int), v8 = .int .i64 x8_1 ∧ v9 = .bool x9_1 ∧ v10 = .int .i64 x10_1 ∧ Aside0 (assartref34_next.l0 kq l0 a1 a2 x8_1 x9_1 x10_1 = some (r1, r2)) ∧ Aside0 (kq ≤ k) ∧ Aside0 (Below w.heap.size w w'))
  case atStart => exact ⟨(0), (false), (0), (by first | rfl | (simp; done) | (simp [*]; done)), (by first | rfl | (simp; done) | (simp [*]; done)), (by first | rfl | (simp; done) | (simp [*]; done)), H', ⟨Nat.le_refl _⟩, ⟨by repeat (first | (with_reducible first | exact HB.out | apply below_alloc | apply pw_below_drewN | apply below_drew1) | exact HB.out)⟩⟩
  case round =>
    clear H'
    try clear p2
    obtain ⟨x8_1, x9_1, x10_1, rfl, rfl, rfl, HA, HK1, HB⟩ := hrel
    cases gk with
    | zero => exact absurd HA.out (by simp [assartref34_next.l0])
    | succ k1 =>
      have H := HA.out
      clear HA
      simp only [assartref34_next.l0] at H
      by_cases c4 : x10_1 < (l0.length : Int)
      · rw [if_pos c4] at H
        have c4b0 : decide (x10_1 < (l0.length : Int)) = true := decide_eq_true c4
        clear c4
        by_cases c5 : 0 ≤ x10_1
        · rw [if_pos c5] at H
          have c5b0 : decide (0 ≤ x10_1) = true := decide_eq_true c5
          clear c5
          have HC6 := Aside0.mk H
          clear H
          have p135 : 0 ≤ (x10_1 : Int) := of_decide_eq_true (by first | (with_reducible assumption) | assumption)
          have q135 : x10_1 < (l0.length : Int) := of_decide_eq_true (by first | (with_reducible assumption) | assumption)
          obtain ⟨ad135, A135_6, c135_6, A135_7, c135_7, e135, hx135_0, hx135_1, hx135_2, hx135_3, hx135_4, hx135_5, hx135_6, hx135_7, hl135_6, hi135_6, hl135_7, hi135_7⟩ := at_T91 HR0.out x10_1 p135 q135
          cases e135
          replace hx135_0 := (HB.out.cell (World.block_lt_of_cell? w _ hx135_0)).trans hx135_0
          replace hx135_1 := (HB.out.cell (World.block_lt_of_cell? w _ hx135_1)).trans hx135_1
          replace hx135_2 := (HB.out.cell (World.block_lt_of_cell? w _ hx135_2)).trans hx135_2
          replace hx135_3 := (HB.out.cell (World.block_lt_of_cell? w _ hx135_3)).trans hx135_3
          replace hx135_4 := (HB.out.cell (World.block_lt_of_cell? w _ hx135_4)).trans hx135_4
          replace hx135_5 := (HB.out.cell (World.block_lt_of_cell? w _ hx135_5)).trans hx135_5
          replace hx135_6 := (HB.out.cell (World.block_lt_of_cell? w _ hx135_6)).trans hx135_6
          replace hx135_7 := (HB.out.cell (World.block_lt_of_cell? w _ hx135_7)).trans hx135_7
          have HR135_6 := Aside0.mk hi135_6
          have HC135_6 := Aside0.mk hl135_6
          clear hi135_6 hl135_6
          have HR135_7 := Aside0.mk hi135_7
          have HC135_7 := Aside0.mk hl135_7
          clear hi135_7 hl135_7
          replace p135 := eq_true p135
          replace q135 := eq_true q135
          go_upto_region 6 with (first | ((with_reducible refine gate_dst (N := 11) rfl ?_); refine box_event ?hg (N := 11) ?hd (cs := #[.int .i64 0, .int .i64 0, .int .i64 0, .int .i64 0, .bool false, .bool false, .slice none 0 0, .slice none 0 0]) (t := 91) ?hr ?_; (case hd => rfl); (case hg => rfl); (case hr => first | (go_simp; done) | (go_simp; rfl)); intro gb136 hg w7 hbox hb; have n0_ := Aside0.mk (below_step (by repeat (first | (with_reducible first | exact HB.out | apply below_alloc | apply pw_below_drewN | apply below_drew1) | exact HB.out)) hb); have n1_ := Aside0.mk (hbox); have n2_ := Aside0.mk ((by rw [hg]; exact (below_size (by repeat (first | (with_reducible first | exact HB.out | apply below_alloc | apply pw_below_drewN | apply below_drew1) | exact HB.out))) : w.heap.size ≤ gb136)); have n3_ := Aside0.mk ((by rw [hg]; exact (below_size (by repeat (first | (with_reducible first | exact HB.out | apply below_alloc | apply pw_below_drewN | apply below_drew1) | exact HB.out))) : w.heap.size ≤ gb136)); clear HB; have HB := n0_; have BK136 := n1_; have GW136 := n2_; have GE136 := n3_; clear n0_ n1_ n2_ n3_; clear hb hbox hg; have hcz8_0 : w7.cell? ⟨gb136, 0, none⟩ = some (.int .i64 0) := (blk_cell BK136.out 0).trans rfl; have hcz8_1 : w7.cell? ⟨gb136, 1, none⟩ = some (.int .i64 0) := (blk_cell BK136.out 1).trans rfl; have hcz8_2 : w7.cell? ⟨gb136, 2, none⟩ = some (.int .i64 0) := (blk_cell BK136.out 2).trans rfl; have hcz8_3 : w7.cell? ⟨gb136, 3, none⟩ = some (.int .i64 0) := (blk_cell BK136.out 3).trans rfl; have hcz8_4 : w7.cell? ⟨gb136, 4, none⟩ = some (.bool false) := (blk_cell BK136.out 4).trans rfl; have hcz8_5 : w7.cell? ⟨gb136, 5, none⟩ = some (.bool false) := (blk_cell BK136.out 5).trans rfl; have hcz8_6 : w7.cell? ⟨gb136, 6, none⟩ = some (.slice none 0 0) := (blk_cell BK136.out 6).trans rfl; have hcz8_7 : w7.cell? ⟨gb136, 7, none⟩ = some (.slice none 0 0) := (blk_cell BK136.out 7).trans rfl; have hfz8_0 := blk_frozen BK136.out 0; have hfz8_1 := blk_frozen BK136.out 1; have hfz8_2 := blk_frozen BK136.out 2; have hfz8_3 := blk_frozen BK136.out 3; have hfz8_4 := blk_frozen BK136.out 4; have hfz8_5 := blk_frozen BK136.out 5; have hfz8_6 := blk_frozen BK136.out 6; have hfz8_7 := blk_frozen BK136.out 7))
          (try simp only [Act.put, List.setIfInBounds_toArray, List.set_cons_zero, List.set_cons_succ])
          go_cut [43] (fun v43 wc => ∃ (kq : Nat) (x43_5 : Bool), v43 = .bool x43_5 ∧ Aside0 (assartref34_next.j1 kq l0 a1 a2 x8_1 x9_1 x10_1 x43_5 ((rd_T91 l0 x10_1).f0) ((rd_T91 l0 x10_1).f1) ((rd_T91 l0 x10_1).f2) ((rd_T91 l0 x10_1).f3) ((rd_T91 l0 x10_1).f4) ((rd_T91 l0 x10_1).f5) ((rd_T91 l0 x10_1).f6) ((rd_T91 l0 x10_1).f7) = some (r1, r2)) ∧ Aside0 (kq ≤ k1) ∧ Aside0 (wc.heap[gb136]? = some (.cells #[.int .i64 ((rd_T91 l0 x10_1).f0), .int .i64 ((rd_T91 l0 x10_1).f1), .int .i64 ((rd_T91 l0 x10_1).f2), .int .i64 ((rd_T91 l0 x10_1).f3), .bool ((rd_T91 l0 x10_1).f4), .bool ((rd_T91 l0 x10_1).f5), (.slice A135_6 ((rd_T91 l0 x10_1).f6).length c135_6), (.slice A135_7 ((rd_T91 l0 x10_1).f7).length c135_7)] 91 (0, 0))) ∧ Aside0 (Below w.heap.size w wc))
          case first =>
            have H := HC6.out
            clear HC6
            replace H := Option.bind_eq_some_iff.mp H
            obtain ⟨t137, A90, H⟩ := H
            replace H : (if t137 = true then (if a2 = true then (if ((rd_T91 l0 x10_1).f2) > a1 then (if x9_1 = true then (assartref34_next.j1 k1 l0 a1 a2 x8_1 x9_1 x10_1 (decide (((rd_T91 l0 x10_1).f2) < x8_1)) ((rd_T91 l0 x10_1).f0) ((rd_T91 l0 x10_1).f1) ((rd_T91 l0 x10_1).f2) ((rd_T91 l0 x10_1).f3) ((rd_T91 l0 x10_1).f4) ((rd_T91 l0 x10_1).f5) ((rd_T91 l0 x10_1).f6) ((rd_T91 l0 x10_1).f7)) else (assartref34_next.j1 k1 l0 a1 a2 x8_1 x9_1 x10_1 true ((rd_T91 l0 x10_1).f0) ((rd_T91 l0 x10_1).f1) ((rd_T91 l0 x10_1).f2) ((rd_T91 l0 x10_1).f3) ((rd_T91 l0 x10_1).f4) ((rd_T91 l0 x10_1).f5) ((rd_T91 l0 x10_1).f6) ((rd_T91 l0 x10_1).f7))) else (assartref34_next.j1 k1 l0 a1 a2 x8_1 x9_1 x10_1 false ((rd_T91 l0 x10_1).f0) ((rd_T91 l0 x10_1).f1) ((rd_T91 l0 x10_1).f2) ((rd_T91 l0 x10_1).f3) ((rd_T91 l0 x10_1).f4) ((rd_T91 l0 x10_1).f5) ((rd_T91 l0 x10_1).f6) ((rd_T91 l0 x10_1).f7))) else (if x9_1 = true then (assartref34_next.j1 k1 l0 a1 a2 x8_1 x9_1 x10_1 (decide (((rd_T91 l0 x10_1).f2) < x8_1)) ((rd_T91 l0 x10_1).f0) ((rd_T91 l0 x10_1).f1) ((rd_T91 l0 x10_1).f2) ((rd_T91 l0 x10_1).f3) ((rd_T91 l0 x10_1).f4) ((rd_T91 l0 x10_1).f5) ((rd_T91 l0 x10_1).f6) ((rd_T91 l0 x10_1).f7)) else (assartref34_next.j1 k1 l0 a1 a2 x8_1 x9_1 x10_1 true ((rd_T91 l0 x10_1).f0) ((rd_T91 l0 x10_1).f1) ((rd_T91 l0 x10_1).f2) ((rd_T91 l0 x10_1).f3) ((rd_T91 l0 x10_1).f4) ((rd_T91 l0 x10_1).f5) ((rd_T91 l0 x10_1).f6) ((rd_T91 l0 x10_1).f7)))) else (assartref34_next.j1 k1 l0 a1 a2 x8_1 x9_1 x10_1 false ((rd_T91 l0 x10_1).f0) ((rd_T91 l0 x10_1).f1) ((rd_T91 l0 x10_1).f2) ((rd_T91 l0 x10_1).f3) ((rd_T91 l0 x10_1).f4) ((rd_T91 l0 x10_1).f5) ((rd_T91 l0 x10_1).f6) ((rd_T91 l0 x10_1).f7))) = some (r1, r2) := H
            have A9 := Aside0.mk A90
            clear A90
            by_cases c10 : t137 = true
            · subst c10
              have H1 : (if a2 = true then (if ((rd_T91 l0 x10_1).f2) > a1 then (if x9_1 = true then (assartref34_next.j1 k1 l0 a1 a2 x8_1 x9_1 x10_1 (decide (((rd_T91 l0 x10_1).f2) < x8_1)) ((rd_T91 l0 x10_1).f0) ((rd_T91 l0 x10_1).f1) ((rd_T91 l0 x10_1).f2) ((rd_T91 l0 x10_1).f3) ((rd_T91 l0 x10_1).f4) ((rd_T91 l0 x10_1).f5) ((rd_T91 l0 x10_1).f6) ((rd_T91 l0 x10_1).f7)) else (assartref34_next.j1 k1 l0 a1 a2 x8_1 x9_1 x10_1 true ((rd_T91 l0 x10_1).f0) ((rd_T91 l0 x10_1).f1) ((rd_T91 l0 x10_1).f2) ((rd_T91 l0 x10_1).f3) ((rd_T91 l0 x10_1).f4) ((rd_T91 l0 x10_1).f5) ((rd_T91 l0 x10_1).f6) ((rd_T91 l0 x10_1).f7))) else (assartref34_next.j1 k1 l0 a1 a2 x8_1 x9_1 x10_1 false ((rd_T91 l0 x10_1).f0) ((rd_T91 l0 x10_1).f1) ((rd_T91 l0 x10_1).f2) ((rd_T91 l0 x10_1).f3) ((rd_T91 l0 x10_1).f4) ((rd_T91 l0 x10_1).f5) ((rd_T91 l0 x10_1).f6) ((rd_T91 l0 x10_1).f7))) else (if x9_1 = true then (assartref34_next.j1 k1 l0 a1 a2 x8_1 x9_1 x10_1 (decide (((rd_T91 l0 x10_1).f2) < x8_1)) ((rd_T91 l0 x10_1).f0) ((rd_T91 l0 x10_1).f1) ((rd_T91 l0 x10_1).f2) ((rd_T91 l0 x10_1).f3) ((rd_T91 l0 x10_1).f4) ((rd_T91 l0 x10_1).f5) ((rd_T91 l0 x10_1).f6) ((rd_T91 l0 x10_1).f7)) else (assartref34_next.j1 k1 l0 a1 a2 x8_1 x9_1 x10_1 true ((rd_T91 l0 x10_1).f0) ((rd_T91 l0 x10_1).f1) ((rd_T91 l0 x10_1).f2) ((rd_T91 l0 x10_1).f3) ((rd_T91 l0 x10_1).f4) ((rd_T91 l0 x10_1).f5) ((rd_T91 l0 x10_1).f6) ((rd_T91 l0 x10_1).f7)))) = some (r1, r2) := by rw [if_pos rfl] at H; exact H
              clear H
              have H := H1
              clear H1
              by_cases c11 : a2 = true
              · subst c11
                have H1 : (if ((rd_T91 l0 x10_1).f2) > a1 then (if x9_1 = true then (assartref34_next.j1 k1 l0 a1 true x8_1 x9_1 x10_1 (decide (((rd_T91 l0 x10_1).f2) < x8_1)) ((rd_T91 l0 x10_1).f0) ((rd_T91 l0 x10_1).f1) ((rd_T91 l0 x10_1).f2) ((rd_T91 l0 x10_1).f3) ((rd_T91 l0 x10_1).f4) ((rd_T91 l0 x10_1).f5) ((rd_T91 l0 x10_1).f6) ((rd_T91 l0 x10_1).f7)) else (assartref34_next.j1 k1 l0 a1 true x8_1 x9_1 x10_1 true ((rd_T91 l0 x10_1).f0) ((rd_T91 l0 x10_1).f1) ((rd_T91 l0 x10_1).f2) ((rd_T91 l0 x10_1).f3) ((rd_T91 l0 x10_1).f4) ((rd_T91 l0 x10_1).f5) ((rd_T91 l0 x10_1).f6) ((rd_T91 l0 x10_1).f7))) else (assartref34_next.j1 k1 l0 a1 true x8_1 x9_1 x10_1 false ((rd_T91 l0 x10_1).f0) ((rd_T91 l0 x10_1).f1) ((rd_T91 l0 x10_1).f2) ((rd_T91 l0 x10_1).f3) ((rd_T91 l0 x10_1).f4) ((rd_T91 l0 x10_1).f5) ((rd_T91 l0 x10_1).f6) ((rd_T91 l0 x10_1).f7))) = some (r1, r2) := by rw [if_pos rfl] at H; exact H
                clear H
                have H := H1
                clear H1
                by_cases c12 : ((rd_T91 l0 x10_1).f2) > a1
                · rw [if_pos c12] at H
                  have c12b0 : decide (a1 < ((rd_T91 l0 x10_1).f2)) = true := decide_eq_true c12
                  clear c12
                  (first | rw [c12b0] | (simp only [i64_w, i32_w]; rw [c12b0]) | skip)
                  by_cases c13 : x9_1 = true
                  · subst c13
                    have H1 : (assartref34_next.j1 k1 l0 a1 true x8_1 true x10_1 (decide (((rd_T91 l0 x10_1).f2) < x8_1)) ((rd_T91 l0 x10_1).f0) ((rd_T91 l0 x10_1).f1) ((rd_T91 l0 x10_1).f2) ((rd_T91 l0 x10_1).f3) ((rd_T91 l0 x10_1).f4) ((rd_T91 l0 x10_1).f5) ((rd_T91 l0 x10_1).f6) ((rd_T91 l0 x10_1).f7)) = some (r1, r2) := by rw [if_pos rfl] at H; exact H
                    clear H
                    have H := H1
                    clear H1
                    have H' := Aside0.mk H
                    clear H
                    have hcz14_0 : w7.cell? ⟨gb136, 0, none⟩ = some (.int .i64 0) := (blk_cell BK136.out 0).trans rfl
                    have hcz14_1 : w7.cell? ⟨gb136, 1, none⟩ = some (.int .i64 0) := (blk_cell BK136.out 1).trans rfl
                    have hcz14_2 : w7.cell? ⟨gb136, 2, none⟩ = some (.int .i64 0) := (blk_cell BK136.out 2).trans rfl
                    have hcz14_3 : w7.cell? ⟨gb136, 3, none⟩ = some (.int .i64 0) := (blk_cell BK136.out 3).trans rfl
                    have hcz14_4 : w7.cell? ⟨gb136, 4, none⟩ = some (.bool false) := (blk_cell BK136.out 4).trans rfl
                    have hcz14_5 : w7.cell? ⟨gb136, 5, none⟩ = some (.bool false) := (blk_cell BK136.out 5).trans rfl
                    have hcz14_6 : w7.cell? ⟨gb136, 6, none⟩ = some (.slice none 0 0) := (blk_cell BK136.out 6).trans rfl
                    have hcz14_7 : w7.cell? ⟨gb136, 7, none⟩ = some (.slice none 0 0) := (blk_cell BK136.out 7).trans rfl
                    have hfz14_0 := blk_frozen BK136.out 0
                    have hfz14_1 := blk_frozen BK136.out 1
                    have hfz14_2 := blk_frozen BK136.out 2
                    have hfz14_3 := blk_frozen BK136.out 3
                    have hfz14_4 := blk_frozen BK136.out 4
                    have hfz14_5 := blk_frozen BK136.out 5
                    have hfz14_6 := blk_frozen BK136.out 6
                    have hfz14_7 := blk_frozen BK136.out 7
                    go_wp2_with (first | ((with_reducible refine gate_callee (f := 91) rfl ?_); refine goesL_ (some 23) rfl rfl Try.func91 (by kernel_rfl) rfl #[.agg #[.int .i64 ((rd_T91 l0 x10_1).f0), .int .i64 ((rd_T91 l0 x10_1).f1), .int .i64 ((rd_T91 l0 x10_1).f2), .int .i64 ((rd_T91 l0 x10_1).f3), .bool ((rd_T91 l0 x10_1).f4), .bool ((rd_T91 l0 x10_1).f5), .slice A135_6 ((rd_T91 l0 x10_1).f6).length c135_6, .slice A135_7 ((rd_T91 l0 x10_1).f7).length c135_7]] rfl (by (try simp only [List.map_toArray, List.map_cons, List.map_nil]); first | done | rfl | (simp only [List.length_drop, List.length_take]; rfl)) ?_; (with_reducible refine (assartref34_raised.calls ((rd_T91 l0 x10_1).f0) ((rd_T91 l0 x10_1).f1) ((rd_T91 l0 x10_1).f2) ((rd_T91 l0 x10_1).f3) ((rd_T91 l0 x10_1).f4) ((rd_T91 l0 x10_1).f5) _ _ ((rd_T91 l0 x10_1).f6) _ _ ((rd_T91 l0 x10_1).f7) true _ ?side1 ?side2 ?side3 ?side4 A9.out).mono ?_); (case side1 => exact Kd.C_below HR135_6.out (by repeat (first | (with_reducible first | exact HB.out | apply below_alloc | apply pw_below_drewN | apply below_drew1 | refine below_set ?_ GE136.out) | exact HB.out))); (case side2 => exact HC135_6.out); (case side3 => exact Kd.C_below HR135_7.out (by repeat (first | (with_reducible first | exact HB.out | apply below_alloc | apply pw_below_drewN | apply below_drew1 | refine below_set ?_ GE136.out) | exact HB.out))); (case side4 => exact HC135_7.out); rintro e w15 ⟨rfl, hb⟩; refine ⟨_, rfl, ?_⟩; have n0_ := Aside0.mk (blk_below (g := gb136) (o := .cells #[.int .i64 ((rd_T91 l0 x10_1).f0), .int .i64 ((rd_T91 l0 x10_1).f1), .int .i64 ((rd_T91 l0 x10_1).f2), .int .i64 ((rd_T91 l0 x10_1).f3), .bool ((rd_T91 l0 x10_1).f4), .bool ((rd_T91 l0 x10_1).f5), .slice A135_6 ((rd_T91 l0 x10_1).f6).length c135_6, .slice A135_7 ((rd_T91 l0 x10_1).f7).length c135_7] 91 (0, 0)) (by (with_reducible repeat (first | refine blk_drewN ?_ _ | refine blk_drew ?_ | refine blk_alloc ?_ _)); refine blk_put (cs := #[.int .i64 ((rd_T91 l0 x10_1).f0), .int .i64 ((rd_T91 l0 x10_1).f1), .int .i64 ((rd_T91 l0 x10_1).f2), .int .i64 ((rd_T91 l0 x10_1).f3), .bool ((rd_T91 l0 x10_1).f4), .bool ((rd_T91 l0 x10_1).f5), .slice A135_6 ((rd_T91 l0 x10_1).f6).length c135_6, .slice none 0 0]) ?_ 7 _ rfl; (with_reducible repeat (first | refine blk_drewN ?_ _ | refine blk_drew ?_ | refine blk_alloc ?_ _)); refine blk_put (cs := #[.int .i64 ((rd_T91 l0 x10_1).f0), .int .i64 ((rd_T91 l0 x10_1).f1), .int .i64 ((rd_T91 l0 x10_1).f2), .int .i64 ((rd_T91 l0 x10_1).f3), .bool ((rd_T91 l0 x10_1).f4), .bool ((rd_T91 l0 x10_1).f5), .slice none 0 0, .slice none 0 0]) ?_ 6 _ rfl; (with_reducible repeat (first | refine blk_drewN ?_ _ | refine blk_drew ?_ | refine blk_alloc ?_ _)); refine blk_put (cs := #[.int .i64 ((rd_T91 l0 x10_1).f0), .int .i64 ((rd_T91 l0 x10_1).f1), .int .i64 ((rd_T91 l0 x10_1).f2), .int .i64 ((rd_T91 l0 x10_1).f3), .bool ((rd_T91 l0 x10_1).f4), .bool false, .slice none 0 0, .slice none 0 0]) ?_ 5 _ rfl; (with_reducible repeat (first | refine blk_drewN ?_ _ | refine blk_drew ?_ | refine blk_alloc ?_ _)); refine blk_put (cs := #[.int .i64 ((rd_T91 l0 x10_1).f0), .int .i64 ((rd_T91 l0 x10_1).f1), .int .i64 ((rd_T91 l0 x10_1).f2), .int .i64 ((rd_T91 l0 x10_1).f3), .bool false, .bool false, .slice none 0 0, .slice none 0 0]) ?_ 4 _ rfl; (with_reducible repeat (first | refine blk_drewN ?_ _ | refine blk_drew ?_ | refine blk_alloc ?_ _)); refine blk_put (cs := #[.int .i64 ((rd_T91 l0 x10_1).f0), .int .i64 ((rd_T91 l0 x10_1).f1), .int .i64 ((rd_T91 l0 x10_1).f2), .int .i64 0, .bool false, .bool false, .slice none 0 0, .slice none 0 0]) ?_ 3 _ rfl; (with_reducible repeat (first | refine blk_drewN ?_ _ | refine blk_drew ?_ | refine blk_alloc ?_ _)); refine blk_put (cs := #[.int .i64 ((rd_T91 l0 x10_1).f0), .int .i64 ((rd_T91 l0 x10_1).f1), .int .i64 0, .int .i64 0, .bool false, .bool false, .slice none 0 0, .slice none 0 0]) ?_ 2 _ rfl; (with_reducible repeat (first | refine blk_drewN ?_ _ | refine blk_drew ?_ | refine blk_alloc ?_ _)); refine blk_put (cs := #[.int .i64 ((rd_T91 l0 x10_1).f0), .int .i64 0, .int .i64 0, .int .i64 0, .bool false, .bool false, .slice none 0 0, .slice none 0 0]) ?_ 1 _ rfl; (with_reducible repeat (first | refine blk_drewN ?_ _ | refine blk_drew ?_ | refine blk_alloc ?_ _)); refine blk_put (cs := #[.int .i64 0, .int .i64 0, .int .i64 0, .int .i64 0, .bool false, .bool false, .slice none 0 0, .slice none 0 0]) ?_ 0 _ rfl; (with_reducible repeat (first | refine blk_drewN ?_ _ | refine blk_drew ?_ | refine blk_alloc ?_ _)); exact BK136.out) hb); have n1_ := Aside0.mk (below_step (by repeat (first | (with_reducible first | exact HB.out | apply below_alloc | apply pw_below_drewN | apply below_drew1 | refine below_set ?_ GE136.out) | exact HB.out)) hb); clear BK136; clear HB; have BK136 := n0_; have HB := n1_; clear n0_ n1_; (try clear hb); (try clear hb2); (try clear hk); (try clear hi); have hcz16_0 : w15.cell? ⟨gb136, 0, none⟩ = some (.int .i64 ((rd_T91 l0 x10_1).f0)) := (blk_cell BK136.out 0).trans rfl; have hcz16_1 : w15.cell? ⟨gb136, 1, none⟩ = some (.int .i64 ((rd_T91 l0 x10_1).f1)) := (blk_cell BK136.out 1).trans rfl; have hcz16_2 : w15.cell? ⟨gb136, 2, none⟩ = some (.int .i64 ((rd_T91 l0 x10_1).f2)) := (blk_cell BK136.out 2).trans rfl; have hcz16_3 : w15.cell? ⟨gb136, 3, none⟩ = some (.int .i64 ((rd_T91 l0 x10_1).f3)) := (blk_cell BK136.out 3).trans rfl; have hcz16_4 : w15.cell? ⟨gb136, 4, none⟩ = some (.bool ((rd_T91 l0 x10_1).f4)) := (blk_cell BK136.out 4).trans rfl; have hcz16_5 : w15.cell? ⟨gb136, 5, none⟩ = some (.bool ((rd_T91 l0 x10_1).f5)) := (blk_cell BK136.out 5).trans rfl; have hcz16_6 : w15.cell? ⟨gb136, 6, none⟩ = some (.slice A135_6 ((rd_T91 l0 x10_1).f6).length c135_6) := (blk_cell BK136.out 6).trans rfl; have hcz16_7 : w15.cell? ⟨gb136, 7, none⟩ = some (.slice A135_7 ((rd_T91 l0 x10_1).f7).length c135_7) := (blk_cell BK136.out 7).trans rfl; have hfz16_0 := blk_frozen BK136.out 0; have hfz16_1 := blk_frozen BK136.out 1; have hfz16_2 := blk_frozen BK136.out 2; have hfz16_3 := blk_frozen BK136.out 3; have hfz16_4 := blk_frozen BK136.out 4; have hfz16_5 := blk_frozen BK136.out 5; have hfz16_6 := blk_frozen BK136.out 6; have hfz16_7 := blk_frozen BK136.out 7))
                    go_meet
                    case rel => exact ⟨_, (decide (((rd_T91 l0 x10_1).f2) < x8_1)), (by first | rfl | (simp; done) | (simp [*]; done)), H', ⟨by have := HK1.out; first | omega | exact Nat.le_refl _⟩, ⟨by (with_reducible repeat (first | refine blk_drewN ?_ _ | refine blk_drew ?_ | refine blk_alloc ?_ _)); exact BK136.out⟩, ⟨by repeat (first | (with_reducible first | exact HB.out | apply below_alloc | apply pw_below_drewN | apply below_drew1 | refine below_set ?_ GE136.out) | exact HB.out)⟩⟩
                  · replace c13 := Bool.eq_false_iff.mpr c13
                    subst c13
                    have H1 : (assartref34_next.j1 k1 l0 a1 true x8_1 false x10_1 true ((rd_T91 l0 x10_1).f0) ((rd_T91 l0 x10_1).f1) ((rd_T91 l0 x10_1).f2) ((rd_T91 l0 x10_1).f3) ((rd_T91 l0 x10_1).f4) ((rd_T91 l0 x10_1).f5) ((rd_T91 l0 x10_1).f6) ((rd_T91 l0 x10_1).f7)) = some (r1, r2) := by rw [if_neg (show ¬ (false = true) by decide)] at H; exact H
                    clear H
                    have H := H1
                    clear H1
                    have H' := Aside0.mk H
                    clear H
                    have hcz17_0 : w7.cell? ⟨gb136, 0, none⟩ = some (.int .i64 0) := (blk_cell BK136.out 0).trans rfl
                    have hcz17_1 : w7.cell? ⟨gb136, 1, none⟩ = some (.int .i64 0) := (blk_cell BK136.out 1).trans rfl
                    have hcz17_2 : w7.cell? ⟨gb136, 2, none⟩ = some (.int .i64 0) := (blk_cell BK136.out 2).trans rfl
                    have hcz17_3 : w7.cell? ⟨gb136, 3, none⟩ = some (.int .i64 0) := (blk_cell BK136.out 3).trans rfl
                    have hcz17_4 : w7.cell? ⟨gb136, 4, none⟩ = some (.bool false) := (blk_cell BK136.out 4).trans rfl
                    have hcz17_5 : w7.cell? ⟨gb136, 5, none⟩ = some (.bool false) := (blk_cell BK136.out 5).trans rfl
                    have hcz17_6 : w7.cell? ⟨gb136, 6, none⟩ = some (.slice none 0 0) := (blk_cell BK136.out 6).trans rfl
                    have hcz17_7 : w7.cell? ⟨gb136, 7, none⟩ = some (.slice none 0 0) := (blk_cell BK136.out 7).trans rfl
                    have hfz17_0 := blk_frozen BK136.out 0
                    have hfz17_1 := blk_frozen BK136.out 1
                    have hfz17_2 := blk_frozen BK136.out 2
                    have hfz17_3 := blk_frozen BK136.out 3
                    have hfz17_4 := blk_frozen BK136.out 4
                    have hfz17_5 := blk_frozen BK136.out 5
                    have hfz17_6 := blk_frozen BK136.out 6
                    have hfz17_7 := blk_frozen BK136.out 7
                    go_wp2_with (first | ((with_reducible refine gate_callee (f := 91) rfl ?_); refine goesL_ (some 23) rfl rfl Try.func91 (by kernel_rfl) rfl #[.agg #[.int .i64 ((rd_T91 l0 x10_1).f0), .int .i64 ((rd_T91 l0 x10_1).f1), .int .i64 ((rd_T91 l0 x10_1).f2), .int .i64 ((rd_T91 l0 x10_1).f3), .bool ((rd_T91 l0 x10_1).f4), .bool ((rd_T91 l0 x10_1).f5), .slice A135_6 ((rd_T91 l0 x10_1).f6).length c135_6, .slice A135_7 ((rd_T91 l0 x10_1).f7).length c135_7]] rfl (by (try simp only [List.map_toArray, List.map_cons, List.map_nil]); first | done | rfl | (simp only [List.length_drop, List.length_take]; rfl)) ?_; (with_reducible refine (assartref34_raised.calls ((rd_T91 l0 x10_1).f0) ((rd_T91 l0 x10_1).f1) ((rd_T91 l0 x10_1).f2) ((rd_T91 l0 x10_1).f3) ((rd_T91 l0 x10_1).f4) ((rd_T91 l0 x10_1).f5) _ _ ((rd_T91 l0 x10_1).f6) _ _ ((rd_T91 l0 x10_1).f7) true _ ?side1 ?side2 ?side3 ?side4 A9.out).mono ?_); (case side1 => exact Kd.C_below HR135_6.out (by repeat (first | (with_reducible first | exact HB.out | apply below_alloc | apply pw_below_drewN | apply below_drew1 | refine below_set ?_ GE136.out) | exact HB.out))); (case side2 => exact HC135_6.out); (case side3 => exact Kd.C_below HR135_7.out (by repeat (first | (with_reducible first | exact HB.out | apply below_alloc | apply pw_below_drewN | apply below_drew1 | refine below_set ?_ GE136.out) | exact HB.out))); (case side4 => exact HC135_7.out); rintro e w18 ⟨rfl, hb⟩; refine ⟨_, rfl, ?_⟩; have n0_ := Aside0.mk (blk_below (g := gb136) (o := .cells #[.int .i64 ((rd_T91 l0 x10_1).f0), .int .i64 ((rd_T91 l0 x10_1).f1), .int .i64 ((rd_T91 l0 x10_1).f2), .int .i64 ((rd_T91 l0 x10_1).f3), .bool ((rd_T91 l0 x10_1).f4), .bool ((rd_T91 l0 x10_1).f5), .slice A135_6 ((rd_T91 l0 x10_1).f6).length c135_6, .slice A135_7 ((rd_T91 l0 x10_1).f7).length c135_7] 91 (0, 0)) (by (with_reducible repeat (first | refine blk_drewN ?_ _ | refine blk_drew ?_ | refine blk_alloc ?_ _)); refine blk_put (cs := #[.int .i64 ((rd_T91 l0 x10_1).f0), .int .i64 ((rd_T91 l0 x10_1).f1), .int .i64 ((rd_T91 l0 x10_1).f2), .int .i64 ((rd_T91 l0 x10_1).f3), .bool ((rd_T91 l0 x10_1).f4), .bool ((rd_T91 l0 x10_1).f5), .slice A135_6 ((rd_T91 l0 x10_1).f6).length c135_6, .slice none 0 0]) ?_ 7 _ rfl; (with_reducible repeat (first | refine blk_drewN ?_ _ | refine blk_drew ?_ | refine blk_alloc ?_ _)); refine blk_put (cs := #[.int .i64 ((rd_T91 l0 x10_1).f0), .int .i64 ((rd_T91 l0 x10_1).f1), .int .i64 ((rd_T91 l0 x10_1).f2), .int .i64 ((rd_T91 l0 x10_1).f3), .bool ((rd_T91 l0 x10_1).f4), .bool ((rd_T91 l0 x10_1).f5), .slice none 0 0, .slice none 0 0]) ?_ 6 _ rfl; (with_reducible repeat (first | refine blk_drewN ?_ _ | refine blk_drew ?_ | refine blk_alloc ?_ _)); refine blk_put (cs := #[.int .i64 ((rd_T91 l0 x10_1).f0), .int .i64 ((rd_T91 l0 x10_1).f1), .int .i64 ((rd_T91 l0 x10_1).f2), .int .i64 ((rd_T91 l0 x10_1).f3), .bool ((rd_T91 l0 x10_1).f4), .bool false, .slice none 0 0, .slice none 0 0]) ?_ 5 _ rfl; (with_reducible repeat (first | refine blk_drewN ?_ _ | refine blk_drew ?_ | refine blk_alloc ?_ _)); refine blk_put (cs := #[.int .i64 ((rd_T91 l0 x10_1).f0), .int .i64 ((rd_T91 l0 x10_1).f1), .int .i64 ((rd_T91 l0 x10_1).f2), .int .i64 ((rd_T91 l0 x10_1).f3), .bool false, .bool false, .slice none 0 0, .slice none 0 0]) ?_ 4 _ rfl; (with_reducible repeat (first | refine blk_drewN ?_ _ | refine blk_drew ?_ | refine blk_alloc ?_ _)); refine blk_put (cs := #[.int .i64 ((rd_T91 l0 x10_1).f0), .int .i64 ((rd_T91 l0 x10_1).f1), .int .i64 ((rd_T91 l0 x10_1).f2), .int .i64 0, .bool false, .bool false, .slice none 0 0, .slice none 0 0]) ?_ 3 _ rfl; (with_reducible repeat (first | refine blk_drewN ?_ _ | refine blk_drew ?_ | refine blk_alloc ?_ _)); refine blk_put (cs := #[.int .i64 ((rd_T91 l0 x10_1).f0), .int .i64 ((rd_T91 l0 x10_1).f1), .int .i64 0, .int .i64 0, .bool false, .bool false, .slice none 0 0, .slice none 0 0]) ?_ 2 _ rfl; (with_reducible repeat (first | refine blk_drewN ?_ _ | refine blk_drew ?_ | refine blk_alloc ?_ _)); refine blk_put (cs := #[.int .i64 ((rd_T91 l0 x10_1).f0), .int .i64 0, .int .i64 0, .int .i64 0, .bool false, .bool false, .slice none 0 0, .slice none 0 0]) ?_ 1 _ rfl; (with_reducible repeat (first | refine blk_drewN ?_ _ | refine blk_drew ?_ | refine blk_alloc ?_ _)); refine blk_put (cs := #[.int .i64 0, .int .i64 0, .int .i64 0, .int .i64 0, .bool false, .bool false, .slice none 0 0, .slice none 0 0]) ?_ 0 _ rfl; (with_reducible repeat (first | refine blk_drewN ?_ _ | refine blk_drew ?_ | refine blk_alloc ?_ _)); exact BK136.out) hb); have n1_ := Aside0.mk (below_step (by repeat (first | (with_reducible first | exact HB.out | apply below_alloc | apply pw_below_drewN | apply below_drew1 | refine below_set ?_ GE136.out) | exact HB.out)) hb); clear BK136; clear HB; have BK136 := n0_; have HB := n1_; clear n0_ n1_; (try clear hb); (try clear hb2); (try clear hk); (try clear hi); have hcz19_0 : w18.cell? ⟨gb136, 0, none⟩ = some (.int .i64 ((rd_T91 l0 x10_1).f0)) := (blk_cell BK136.out 0).trans rfl; have hcz19_1 : w18.cell? ⟨gb136, 1, none⟩ = some (.int .i64 ((rd_T91 l0 x10_1).f1)) := (blk_cell BK136.out 1).trans rfl; have hcz19_2 : w18.cell? ⟨gb136, 2, none⟩ = some (.int .i64 ((rd_T91 l0 x10_1).f2)) := (blk_cell BK136.out 2).trans rfl; have hcz19_3 : w18.cell? ⟨gb136, 3, none⟩ = some (.int .i64 ((rd_T91 l0 x10_1).f3)) := (blk_cell BK136.out 3).trans rfl; have hcz19_4 : w18.cell? ⟨gb136, 4, none⟩ = some (.bool ((rd_T91 l0 x10_1).f4)) := (blk_cell BK136.out 4).trans rfl; have hcz19_5 : w18.cell? ⟨gb136, 5, none⟩ = some (.bool ((rd_T91 l0 x10_1).f5)) := (blk_cell BK136.out 5).trans rfl; have hcz19_6 : w18.cell? ⟨gb136, 6, none⟩ = some (.slice A135_6 ((rd_T91 l0 x10_1).f6).length c135_6) := (blk_cell BK136.out 6).trans rfl; have hcz19_7 : w18.cell? ⟨gb136, 7, none⟩ = some (.slice A135_7 ((rd_T91 l0 x10_1).f7).length c135_7) := (blk_cell BK136.out 7).trans rfl; have hfz19_0 := blk_frozen BK136.out 0; have hfz19_1 := blk_frozen BK136.out 1; have hfz19_2 := blk_frozen BK136.out 2; have hfz19_3 := blk_frozen BK136.out 3; have hfz19_4 := blk_frozen BK136.out 4; have hfz19_5 := blk_frozen BK136.out 5; have hfz19_6 := blk_frozen BK136.out 6; have hfz19_7 := blk_frozen BK136.out 7))
                    go_meet
                    case rel => exact ⟨_, (true), (by first | rfl | (simp; done) | (simp [*]; done)), H', ⟨by have := HK1.out; first | omega | exact Nat.le_refl _⟩, ⟨by (with_reducible repeat (first | refine blk_drewN ?_ _ | refine blk_drew ?_ | refine blk_alloc ?_ _)); exact BK136.out⟩, ⟨by repeat (first | (with_reducible first | exact HB.out | apply below_alloc | apply pw_below_drewN | apply below_drew1 | refine below_set ?_ GE136.out) | exact HB.out)⟩⟩
                · rw [if_neg c12] at H
                  have c12b0 : decide (a1 < ((rd_T91 l0 x10_1).f2)) = false := decide_eq_false c12
                  clear c12
                  (first | rw [c12b0] | (simp only [i64_w, i32_w]; rw [c12b0]) | skip)
                  have H' := Aside0.mk H
                  clear H
                  have hcz20_0 : w7.cell? ⟨gb136, 0, none⟩ = some (.int .i64 0) := (blk_cell BK136.out 0).trans rfl
                  have hcz20_1 : w7.cell? ⟨gb136, 1, none⟩ = some (.int .i64 0) := (blk_cell BK136.out 1).trans rfl
                  have hcz20_2 : w7.cell? ⟨gb136, 2, none⟩ = some (.int .i64 0) := (blk_cell BK136.out 2).trans rfl
                  have hcz20_3 : w7.cell? ⟨gb136, 3, none⟩ = some (.int .i64 0) := (blk_cell BK136.out 3).trans rfl
                  have hcz20_4 : w7.cell? ⟨gb136, 4, none⟩ = some (.bool false) := (blk_cell BK136.out 4).trans rfl
                  have hcz20_5 : w7.cell? ⟨gb136, 5, none⟩ = some (.bool false) := (blk_cell BK136.out 5).trans rfl
                  have hcz20_6 : w7.cell? ⟨gb136, 6, none⟩ = some (.slice none 0 0) := (blk_cell BK136.out 6).trans rfl
                  have hcz20_7 : w7.cell? ⟨gb136, 7, none⟩ = some (.slice none 0 0) := (blk_cell BK136.out 7).trans rfl
                  have hfz20_0 := blk_frozen BK136.out 0
                  have hfz20_1 := blk_frozen BK136.out 1
                  have hfz20_2 := blk_frozen BK136.out 2
                  have hfz20_3 := blk_frozen BK136.out 3
                  have hfz20_4 := blk_frozen BK136.out 4
                  have hfz20_5 := blk_frozen BK136.out 5
                  have hfz20_6 := blk_frozen BK136.out 6
                  have hfz20_7 := blk_frozen BK136.out 7
                  go_wp2_with (first | ((with_reducible refine gate_callee (f := 91) rfl ?_); refine goesL_ (some 23) rfl rfl Try.func91 (by kernel_rfl) rfl #[.agg #[.int .i64 ((rd_T91 l0 x10_1).f0), .int .i64 ((rd_T91 l0 x10_1).f1), .int .i64 ((rd_T91 l0 x10_1).f2), .int .i64 ((rd_T91 l0 x10_1).f3), .bool ((rd_T91 l0 x10_1).f4), .bool ((rd_T91 l0 x10_1).f5), .slice A135_6 ((rd_T91 l0 x10_1).f6).length c135_6, .slice A135_7 ((rd_T91 l0 x10_1).f7).length c135_7]] rfl (by (try simp only [List.map_toArray, List.map_cons, List.map_nil]); first | done | rfl | (simp only [List.length_drop, List.length_take]; rfl)) ?_; (with_reducible refine (assartref34_raised.calls ((rd_T91 l0 x10_1).f0) ((rd_T91 l0 x10_1).f1) ((rd_T91 l0 x10_1).f2) ((rd_T91 l0 x10_1).f3) ((rd_T91 l0 x10_1).f4) ((rd_T91 l0 x10_1).f5) _ _ ((rd_T91 l0 x10_1).f6) _ _ ((rd_T91 l0 x10_1).f7) true _ ?side1 ?side2 ?side3 ?side4 A9.out).mono ?_); (case side1 => exact Kd.C_below HR135_6.out (by repeat (first | (with_reducible first | exact HB.out | apply below_alloc | apply pw_below_drewN | apply below_drew1 | refine below_set ?_ GE136.out) | exact HB.out))); (case side2 => exact HC135_6.out); (case side3 => exact Kd.C_below HR135_7.out (by repeat (first | (with_reducible first | exact HB.out | apply below_alloc | apply pw_below_drewN | apply below_drew1 | refine below_set ?_ GE136.out) | exact HB.out))); (case side4 => exact HC135_7.out); rintro e w21 ⟨rfl, hb⟩; refine ⟨_, rfl, ?_⟩; have n0_ := Aside0.mk (blk_below (g := gb136) (o := .cells #[.int .i64 ((rd_T91 l0 x10_1).f0), .int .i64 ((rd_T91 l0 x10_1).f1), .int .i64 ((rd_T91 l0 x10_1).f2), .int .i64 ((rd_T91 l0 x10_1).f3), .bool ((rd_T91 l0 x10_1).f4), .bool ((rd_T91 l0 x10_1).f5), .slice A135_6 ((rd_T91 l0 x10_1).f6).length c135_6, .slice A135_7 ((rd_T91 l0 x10_1).f7).length c135_7] 91 (0, 0)) (by (with_reducible repeat (first | refine blk_drewN ?_ _ | refine blk_drew ?_ | refine blk_alloc ?_ _)); refine blk_put (cs := #[.int .i64 ((rd_T91 l0 x10_1).f0), .int .i64 ((rd_T91 l0 x10_1).f1), .int .i64 ((rd_T91 l0 x10_1).f2), .int .i64 ((rd_T91 l0 x10_1).f3), .bool ((rd_T91 l0 x10_1).f4), .bool ((rd_T91 l0 x10_1).f5), .slice A135_6 ((rd_T91 l0 x10_1).f6).length c135_6, .slice none 0 0]) ?_ 7 _ rfl; (with_reducible repeat (first | refine blk_drewN ?_ _ | refine blk_drew ?_ | refine blk_alloc ?_ _)); refine blk_put (cs := #[.int .i64 ((rd_T91 l0 x10_1).f0), .int .i64 ((rd_T91 l0 x10_1).f1), .int .i64 ((rd_T91 l0 x10_1).f2), .int .i64 ((rd_T91 l0 x10_1).f3), .bool ((rd_T91 l0 x10_1).f4), .bool ((rd_T91 l0 x10_1).f5), .slice none 0 0, .slice none 0 0]) ?_ 6 _ rfl; (with_reducible repeat (first | refine blk_drewN ?_ _ | refine blk_drew ?_ | refine blk_alloc ?_ _)); refine blk_put (cs := #[.int .i64 ((rd_T91 l0 x10_1).f0), .int .i64 ((rd_T91 l0 x10_1).f1), .int .i64 ((rd_T91 l0 x10_1).f2), .int .i64 ((rd_T91 l0 x10_1).f3), .bool ((rd_T91 l0 x10_1).f4), .bool false, .slice none 0 0, .slice none 0 0]) ?_ 5 _ rfl; (with_reducible repeat (first | refine blk_drewN ?_ _ | refine blk_drew ?_ | refine blk_alloc ?_ _)); refine blk_put (cs := #[.int .i64 ((rd_T91 l0 x10_1).f0), .int .i64 ((rd_T91 l0 x10_1).f1), .int .i64 ((rd_T91 l0 x10_1).f2), .int .i64 ((rd_T91 l0 x10_1).f3), .bool false, .bool false, .slice none 0 0, .slice none 0 0]) ?_ 4 _ rfl; (with_reducible repeat (first | refine blk_drewN ?_ _ | refine blk_drew ?_ | refine blk_alloc ?_ _)); refine blk_put (cs := #[.int .i64 ((rd_T91 l0 x10_1).f0), .int .i64 ((rd_T91 l0 x10_1).f1), .int .i64 ((rd_T91 l0 x10_1).f2), .int .i64 0, .bool false, .bool false, .slice none 0 0, .slice none 0 0]) ?_ 3 _ rfl; (with_reducible repeat (first | refine blk_drewN ?_ _ | refine blk_drew ?_ | refine blk_alloc ?_ _)); refine blk_put (cs := #[.int .i64 ((rd_T91 l0 x10_1).f0), .int .i64 ((rd_T91 l0 x10_1).f1), .int .i64 0, .int .i64 0, .bool false, .bool false, .slice none 0 0, .slice none 0 0]) ?_ 2 _ rfl; (with_reducible repeat (first | refine blk_drewN ?_ _ | refine blk_drew ?_ | refine blk_alloc ?_ _)); refine blk_put (cs := #[.int .i64 ((rd_T91 l0 x10_1).f0), .int .i64 0, .int .i64 0, .int .i64 0, .bool false, .bool false, .slice none 0 0, .slice none 0 0]) ?_ 1 _ rfl; (with_reducible repeat (first | refine blk_drewN ?_ _ | refine blk_drew ?_ | refine blk_alloc ?_ _)); refine blk_put (cs := #[.int .i64 0, .int .i64 0, .int .i64 0, .int .i64 0, .bool false, .bool false, .slice none 0 0, .slice none 0 0]) ?_ 0 _ rfl; (with_reducible repeat (first | refine blk_drewN ?_ _ | refine blk_drew ?_ | refine blk_alloc ?_ _)); exact BK136.out) hb); have n1_ := Aside0.mk (below_step (by repeat (first | (with_reducible first | exact HB.out | apply below_alloc | apply pw_below_drewN | apply below_drew1 | refine below_set ?_ GE136.out) | exact HB.out)) hb); clear BK136; clear HB; have BK136 := n0_; have HB := n1_; clear n0_ n1_; (try clear hb); (try clear hb2); (try clear hk); (try clear hi); have hcz22_0 : w21.cell? ⟨gb136, 0, none⟩ = some (.int .i64 ((rd_T91 l0 x10_1).f0)) := (blk_cell BK136.out 0).trans rfl; have hcz22_1 : w21.cell? ⟨gb136, 1, none⟩ = some (.int .i64 ((rd_T91 l0 x10_1).f1)) := (blk_cell BK136.out 1).trans rfl; have hcz22_2 : w21.cell? ⟨gb136, 2, none⟩ = some (.int .i64 ((rd_T91 l0 x10_1).f2)) := (blk_cell BK136.out 2).trans rfl; have hcz22_3 : w21.cell? ⟨gb136, 3, none⟩ = some (.int .i64 ((rd_T91 l0 x10_1).f3)) := (blk_cell BK136.out 3).trans rfl; have hcz22_4 : w21.cell? ⟨gb136, 4, none⟩ = some (.bool ((rd_T91 l0 x10_1).f4)) := (blk_cell BK136.out 4).trans rfl; have hcz22_5 : w21.cell? ⟨gb136, 5, none⟩ = some (.bool ((rd_T91 l0 x10_1).f5)) := (blk_cell BK136.out 5).trans rfl; have hcz22_6 : w21.cell? ⟨gb136, 6, none⟩ = some (.slice A135_6 ((rd_T91 l0 x10_1).f6).length c135_6) := (blk_cell BK136.out 6).trans rfl; have hcz22_7 : w21.cell? ⟨gb136, 7, none⟩ = some (.slice A135_7 ((rd_T91 l0 x10_1).f7).length c135_7) := (blk_cell BK136.out 7).trans rfl; have hfz22_0 := blk_frozen BK136.out 0; have hfz22_1 := blk_frozen BK136.out 1; have hfz22_2 := blk_frozen BK136.out 2; have hfz22_3 := blk_frozen BK136.out 3; have hfz22_4 := blk_frozen BK136.out 4; have hfz22_5 := blk_frozen BK136.out 5; have hfz22_6 := blk_frozen BK136.out 6; have hfz22_7 := blk_frozen BK136.out 7))
                  go_meet
                  case rel => exact ⟨_, (false), (by first | rfl | (simp; done) | (simp [*]; done)), H', ⟨by have := HK1.out; first | omega | exact Nat.le_refl _⟩, ⟨by (with_reducible repeat (first | refine blk_drewN ?_ _ | refine blk_drew ?_ | refine blk_alloc ?_ _)); exact BK136.out⟩, ⟨by repeat (first | (with_reducible first | exact HB.out | apply below_alloc | apply pw_below_drewN | apply below_drew1 | refine below_set ?_ GE136.out) | exact HB.out)⟩⟩
              · replace c11 := Bool.eq_false_iff.mpr c11
                subst c11
                have H1 : (if x9_1 = true then (assartref34_next.j1 k1 l0 a1 false x8_1 x9_1 x10_1 (decide (((rd_T91 l0 x10_1).f2) < x8_1)) ((rd_T91 l0 x10_1).f0) ((rd_T91 l0 x10_1).f1) ((rd_T91 l0 x10_1).f2) ((rd_T91 l0 x10_1).f3) ((rd_T91 l0 x10_1).f4) ((rd_T91 l0 x10_1).f5) ((rd_T91 l0 x10_1).f6) ((rd_T91 l0 x10_1).f7)) else (assartref34_next.j1 k1 l0 a1 false x8_1 x9_1 x10_1 true ((rd_T91 l0 x10_1).f0) ((rd_T91 l0 x10_1).f1) ((rd_T91 l0 x10_1).f2) ((rd_T91 l0 x10_1).f3) ((rd_T91 l0 x10_1).f4) ((rd_T91 l0 x10_1).f5) ((rd_T91 l0 x10_1).f6) ((rd_T91 l0 x10_1).f7))) = some (r1, r2) := by rw [if_neg (show ¬ (false = true) by decide)] at H; exact H
                clear H
                have H := H1
                clear H1
                by_cases c23 : x9_1 = true
                · subst c23
                  have H1 : (assartref34_next.j1 k1 l0 a1 false x8_1 true x10_1 (decide (((rd_T91 l0 x10_1).f2) < x8_1)) ((rd_T91 l0 x10_1).f0) ((rd_T91 l0 x10_1).f1) ((rd_T91 l0 x10_1).f2) ((rd_T91 l0 x10_1).f3) ((rd_T91 l0 x10_1).f4) ((rd_T91 l0 x10_1).f5) ((rd_T91 l0 x10_1).f6) ((rd_T91 l0 x10_1).f7)) = some (r1, r2) := by rw [if_pos rfl] at H; exact H
                  clear H
                  have H := H1
                  clear H1
                  have H' := Aside0.mk H
                  clear H
                  have hcz24_0 : w7.cell? ⟨gb136, 0, none⟩ = some (.int .i64 0) := (blk_cell BK136.out 0).trans rfl
                  have hcz24_1 : w7.cell? ⟨gb136, 1, none⟩ = some (.int .i64 0) := (blk_cell BK136.out 1).trans rfl
                  have hcz24_2 : w7.cell? ⟨gb136, 2, none⟩ = some (.int .i64 0) := (blk_cell BK136.out 2).trans rfl
                  have hcz24_3 : w7.cell? ⟨gb136, 3, none⟩ = some (.int .i64 0) := (blk_cell BK136.out 3).trans rfl
                  have hcz24_4 : w7.cell? ⟨gb136, 4, none⟩ = some (.bool false) := (blk_cell BK136.out 4).trans rfl
                  have hcz24_5 : w7.cell? ⟨gb136, 5, none⟩ = some (.bool false) := (blk_cell BK136.out 5).trans rfl
                  have hcz24_6 : w7.cell? ⟨gb136, 6, none⟩ = some (.slice none 0 0) := (blk_cell BK136.out 6).trans rfl
                  have hcz24_7 : w7.cell? ⟨gb136, 7, none⟩ = some (.slice none 0 0) := (blk_cell BK136.out 7).trans rfl
                  have hfz24_0 := blk_frozen BK136.out 0
                  have hfz24_1 := blk_frozen BK136.out 1
                  have hfz24_2 := blk_frozen BK136.out 2
                  have hfz24_3 := blk_frozen BK136.out 3
                  have hfz24_4 := blk_frozen BK136.out 4
                  have hfz24_5 := blk_frozen BK136.out 5
                  have hfz24_6 := blk_frozen BK136.out 6
                  have hfz24_7 := blk_frozen BK136.out 7
                  go_wp2_with (first | ((with_reducible refine gate_callee (f := 91) rfl ?_); refine goesL_ (some 23) rfl rfl Try.func91 (by kernel_rfl) rfl #[.agg #[.int .i64 ((rd_T91 l0 x10_1).f0), .int .i64 ((rd_T91 l0 x10_1).f1), .int .i64 ((rd_T91 l0 x10_1).f2), .int .i64 ((rd_T91 l0 x10_1).f3), .bool ((rd_T91 l0 x10_1).f4), .bool ((rd_T91 l0 x10_1).f5), .slice A135_6 ((rd_T91 l0 x10_1).f6).length c135_6, .slice A135_7 ((rd_T91 l0 x10_1).f7).length c135_7]] rfl (by (try simp only [List.map_toArray, List.map_cons, List.map_nil]); first | done | rfl | (simp only [List.length_drop, List.length_take]; rfl)) ?_; (with_reducible refine (assartref34_raised.calls ((rd_T91 l0 x10_1).f0) ((rd_T91 l0 x10_1).f1) ((rd_T91 l0 x10_1).f2) ((rd_T91 l0 x10_1).f3) ((rd_T91 l0 x10_1).f4) ((rd_T91 l0 x10_1).f5) _ _ ((rd_T91 l0 x10_1).f6) _ _ ((rd_T91 l0 x10_1).f7) true _ ?side1 ?side2 ?side3 ?side4 A9.out).mono ?_); (case side1 => exact Kd.C_below HR135_6.out (by repeat (first | (with_reducible first | exact HB.out | apply below_alloc | apply pw_below_drewN | apply below_drew1 | refine below_set ?_ GE136.out) | exact HB.out))); (case side2 => exact HC135_6.out); (case side3 => exact Kd.C_below HR135_7.out (by repeat (first | (with_reducible first | exact HB.out | apply below_alloc | apply pw_below_drewN | apply below_drew1 | refine below_set ?_ GE136.out) | exact HB.out))); (case side4 => exact HC135_7.out); rintro e w25 ⟨rfl, hb⟩; refine ⟨_, rfl, ?_⟩; have n0_ := Aside0.mk (blk_below (g := gb136) (o := .cells #[.int .i64 ((rd_T91 l0 x10_1).f0), .int .i64 ((rd_T91 l0 x10_1).f1), .int .i64 ((rd_T91 l0 x10_1).f2), .int .i64 ((rd_T91 l0 x10_1).f3), .bool ((rd_T91 l0 x10_1).f4), .bool ((rd_T91 l0 x10_1).f5), .slice A135_6 ((rd_T91 l0 x10_1).f6).length c135_6, .slice A135_7 ((rd_T91 l0 x10_1).f7).length c135_7] 91 (0, 0)) (by (with_reducible repeat (first | refine blk_drewN ?_ _ | refine blk_drew ?_ | refine blk_alloc ?_ _)); refine blk_put (cs := #[.int .i64 ((rd_T91 l0 x10_1).f0), .int .i64 ((rd_T91 l0 x10_1).f1), .int .i64 ((rd_T91 l0 x10_1).f2), .int .i64 ((rd_T91 l0 x10_1).f3), .bool ((rd_T91 l0 x10_1).f4), .bool ((rd_T91 l0 x10_1).f5), .slice A135_6 ((rd_T91 l0 x10_1).f6).length c135_6, .slice none 0 0]) ?_ 7 _ rfl; (with_reducible repeat (first | refine blk_drewN ?_ _ | refine blk_drew ?_ | refine blk_alloc ?_ _)); refine blk_put (cs := #[.int .i64 ((rd_T91 l0 x10_1).f0), .int .i64 ((rd_T91 l0 x10_1).f1), .int .i64 ((rd_T91 l0 x10_1).f2), .int .i64 ((rd_T91 l0 x10_1).f3), .bool ((rd_T91 l0 x10_1).f4), .bool ((rd_T91 l0 x10_1).f5), .slice none 0 0, .slice none 0 0]) ?_ 6 _ rfl; (with_reducible repeat (first | refine blk_drewN ?_ _ | refine blk_drew ?_ | refine blk_alloc ?_ _)); refine blk_put (cs := #[.int .i64 ((rd_T91 l0 x10_1).f0), .int .i64 ((rd_T91 l0 x10_1).f1), .int .i64 ((rd_T91 l0 x10_1).f2), .int .i64 ((rd_T91 l0 x10_1).f3), .bool ((rd_T91 l0 x10_1).f4), .bool false, .slice none 0 0, .slice none 0 0]) ?_ 5 _ rfl; (with_reducible repeat (first | refine blk_drewN ?_ _ | refine blk_drew ?_ | refine blk_alloc ?_ _)); refine blk_put (cs := #[.int .i64 ((rd_T91 l0 x10_1).f0), .int .i64 ((rd_T91 l0 x10_1).f1), .int .i64 ((rd_T91 l0 x10_1).f2), .int .i64 ((rd_T91 l0 x10_1).f3), .bool false, .bool false, .slice none 0 0, .slice none 0 0]) ?_ 4 _ rfl; (with_reducible repeat (first | refine blk_drewN ?_ _ | refine blk_drew ?_ | refine blk_alloc ?_ _)); refine blk_put (cs := #[.int .i64 ((rd_T91 l0 x10_1).f0), .int .i64 ((rd_T91 l0 x10_1).f1), .int .i64 ((rd_T91 l0 x10_1).f2), .int .i64 0, .bool false, .bool false, .slice none 0 0, .slice none 0 0]) ?_ 3 _ rfl; (with_reducible repeat (first | refine blk_drewN ?_ _ | refine blk_drew ?_ | refine blk_alloc ?_ _)); refine blk_put (cs := #[.int .i64 ((rd_T91 l0 x10_1).f0), .int .i64 ((rd_T91 l0 x10_1).f1), .int .i64 0, .int .i64 0, .bool false, .bool false, .slice none 0 0, .slice none 0 0]) ?_ 2 _ rfl; (with_reducible repeat (first | refine blk_drewN ?_ _ | refine blk_drew ?_ | refine blk_alloc ?_ _)); refine blk_put (cs := #[.int .i64 ((rd_T91 l0 x10_1).f0), .int .i64 0, .int .i64 0, .int .i64 0, .bool false, .bool false, .slice none 0 0, .slice none 0 0]) ?_ 1 _ rfl; (with_reducible repeat (first | refine blk_drewN ?_ _ | refine blk_drew ?_ | refine blk_alloc ?_ _)); refine blk_put (cs := #[.int .i64 0, .int .i64 0, .int .i64 0, .int .i64 0, .bool false, .bool false, .slice none 0 0, .slice none 0 0]) ?_ 0 _ rfl; (with_reducible repeat (first | refine blk_drewN ?_ _ | refine blk_drew ?_ | refine blk_alloc ?_ _)); exact BK136.out) hb); have n1_ := Aside0.mk (below_step (by repeat (first | (with_reducible first | exact HB.out | apply below_alloc | apply pw_below_drewN | apply below_drew1 | refine below_set ?_ GE136.out) | exact HB.out)) hb); clear BK136; clear HB; have BK136 := n0_; have HB := n1_; clear n0_ n1_; (try clear hb); (try clear hb2); (try clear hk); (try clear hi); have hcz26_0 : w25.cell? ⟨gb136, 0, none⟩ = some (.int .i64 ((rd_T91 l0 x10_1).f0)) := (blk_cell BK136.out 0).trans rfl; have hcz26_1 : w25.cell? ⟨gb136, 1, none⟩ = some (.int .i64 ((rd_T91 l0 x10_1).f1)) := (blk_cell BK136.out 1).trans rfl; have hcz26_2 : w25.cell? ⟨gb136, 2, none⟩ = some (.int .i64 ((rd_T91 l0 x10_1).f2)) := (blk_cell BK136.out 2).trans rfl; have hcz26_3 : w25.cell? ⟨gb136, 3, none⟩ = some (.int .i64 ((rd_T91 l0 x10_1).f3)) := (blk_cell BK136.out 3).trans rfl; have hcz26_4 : w25.cell? ⟨gb136, 4, none⟩ = some (.bool ((rd_T91 l0 x10_1).f4)) := (blk_cell BK136.out 4).trans rfl; have hcz26_5 : w25.cell? ⟨gb136, 5, none⟩ = some (.bool ((rd_T91 l0 x10_1).f5)) := (blk_cell BK136.out 5).trans rfl; have hcz26_6 : w25.cell? ⟨gb136, 6, none⟩ = some (.slice A135_6 ((rd_T91 l0 x10_1).f6).length c135_6) := (blk_cell BK136.out 6).trans rfl; have hcz26_7 : w25.cell? ⟨gb136, 7, none⟩ = some (.slice A135_7 ((rd_T91 l0 x10_1).f7).length c135_7) := (blk_cell BK136.out 7).trans rfl; have hfz26_0 := blk_frozen BK136.out 0; have hfz26_1 := blk_frozen BK136.out 1; have hfz26_2 := blk_frozen BK136.out 2; have hfz26_3 := blk_frozen BK136.out 3; have hfz26_4 := blk_frozen BK136.out 4; have hfz26_5 := blk_frozen BK136.out 5; have hfz26_6 := blk_frozen BK136.out 6; have hfz26_7 := blk_frozen BK136.out 7))
                  go_meet
                  case rel => exact ⟨_, (decide (((rd_T91 l0 x10_1).f2) < x8_1)), (by first | rfl | (simp; done) | (simp [*]; done)), H', ⟨by have := HK1.out; first | omega | exact Nat.le_refl _⟩, ⟨by (with_reducible repeat (first | refine blk_drewN ?_ _ | refine blk_drew ?_ | refine blk_alloc ?_ _)); exact BK136.out⟩, ⟨by repeat (first | (with_reducible first | exact HB.out | apply below_alloc | apply pw_below_drewN | apply below_drew1 | refine below_set ?_ GE136.out) | exact HB.out)⟩⟩
                · replace c23 := Bool.eq_false_iff.mpr c23
                  subst c23
                  have H1 : (assartref34_next.j1 k1 l0 a1 false x8_1 false x10_1 true ((rd_T91 l0 x10_1).f0) ((rd_T91 l0 x10_1).f1) ((rd_T91 l0 x10_1).f2) ((rd_T91 l0 x10_1).f3) ((rd_T91 l0 x10_1).f4) ((rd_T91 l0 x10_1).f5) ((rd_T91 l0 x10_1).f6) ((rd_T91 l0 x10_1).f7)) = some (r1, r2) := by rw [if_neg (show ¬ (false = true) by decide)] at H; exact H
                  clear H
                  have H := H1
                  clear H1
                  have H' := Aside0.mk H
                  clear H
                  have hcz27_0 : w7.cell? ⟨gb136, 0, none⟩ = some (.int .i64 0) := (blk_cell BK136.out 0).trans rfl
                  have hcz27_1 : w7.cell? ⟨gb136, 1, none⟩ = some (.int .i64 0) := (blk_cell BK136.out 1).trans rfl
                  have hcz27_2 : w7.cell? ⟨gb136, 2, none⟩ = some (.int .i64 0) := (blk_cell BK136.out 2).trans rfl
                  have hcz27_3 : w7.cell? ⟨gb136, 3, none⟩ = some (.int .i64 0) := (blk_cell BK136.out 3).trans rfl
                  have hcz27_4 : w7.cell? ⟨gb136, 4, none⟩ = some (.bool false) := (blk_cell BK136.out 4).trans rfl
                  have hcz27_5 : w7.cell? ⟨gb136, 5, none⟩ = some (.bool false) := (blk_cell BK136.out 5).trans rfl
                  have hcz27_6 : w7.cell? ⟨gb136, 6, none⟩ = some (.slice none 0 0) := (blk_cell BK136.out 6).trans rfl
                  have hcz27_7 : w7.cell? ⟨gb136, 7, none⟩ = some (.slice none 0 0) := (blk_cell BK136.out 7).trans rfl
                  have hfz27_0 := blk_frozen BK136.out 0
                  have hfz27_1 := blk_frozen BK136.out 1
                  have hfz27_2 := blk_frozen BK136.out 2
                  have hfz27_3 := blk_frozen BK136.out 3
                  have hfz27_4 := blk_frozen BK136.out 4
                  have hfz27_5 := blk_frozen BK136.out 5
                  have hfz27_6 := blk_frozen BK136.out 6
                  have hfz27_7 := blk_frozen BK136.out 7
                  go_wp2_with (first | ((with_reducible refine gate_callee (f := 91) rfl ?_); refine goesL_ (some 23) rfl rfl Try.func91 (by kernel_rfl) rfl #[.agg #[.int .i64 ((rd_T91 l0 x10_1).f0), .int .i64 ((rd_T91 l0 x10_1).f1), .int .i64 ((rd_T91 l0 x10_1).f2), .int .i64 ((rd_T91 l0 x10_1).f3), .bool ((rd_T91 l0 x10_1).f4), .bool ((rd_T91 l0 x10_1).f5), .slice A135_6 ((rd_T91 l0 x10_1).f6).length c135_6, .slice A135_7 ((rd_T91 l0 x10_1).f7).length c135_7]] rfl (by (try simp only [List.map_toArray, List.map_cons, List.map_nil]); first | done | rfl | (simp only [List.length_drop, List.length_take]; rfl)) ?_; (with_reducible refine (assartref34_raised.calls ((rd_T91 l0 x10_1).f0) ((rd_T91 l0 x10_1).f1) ((rd_T91 l0 x10_1).f2) ((rd_T91 l0 x10_1).f3) ((rd_T91 l0 x10_1).f4) ((rd_T91 l0 x10_1).f5) _ _ ((rd_T91 l0 x10_1).f6) _ _ ((rd_T91 l0 x10_1).f7) true _ ?side1 ?side2 ?side3 ?side4 A9.out).mono ?_); (case side1 => exact Kd.C_below HR135_6.out (by repeat (first | (with_reducible first | exact HB.out | apply below_alloc | apply pw_below_drewN | apply below_drew1 | refine below_set ?_ GE136.out) | exact HB.out))); (case side2 => exact HC135_6.out); (case side3 => exact Kd.C_below HR135_7.out (by repeat (first | (with_reducible first | exact HB.out | apply below_alloc | apply pw_below_drewN | apply below_drew1 | refine below_set ?_ GE136.out) | exact HB.out))); (case side4 => exact HC135_7.out); rintro e w28 ⟨rfl, hb⟩; refine ⟨_, rfl, ?_⟩; have n0_ := Aside0.mk (blk_below (g := gb136) (o := .cells #[.int .i64 ((rd_T91 l0 x10_1).f0), .int .i64 ((rd_T91 l0 x10_1).f1), .int .i64 ((rd_T91 l0 x10_1).f2), .int .i64 ((rd_T91 l0 x10_1).f3), .bool ((rd_T91 l0 x10_1).f4), .bool ((rd_T91 l0 x10_1).f5), .slice A135_6 ((rd_T91 l0 x10_1).f6).length c135_6, .slice A135_7 ((rd_T91 l0 x10_1).f7).length c135_7] 91 (0, 0)) (by (with_reducible repeat (first | refine blk_drewN ?_ _ | refine blk_drew ?_ | refine blk_alloc ?_ _)); refine blk_put (cs := #[.int .i64 ((rd_T91 l0 x10_1).f0), .int .i64 ((rd_T91 l0 x10_1).f1), .int .i64 ((rd_T91 l0 x10_1).f2), .int .i64 ((rd_T91 l0 x10_1).f3), .bool ((rd_T91 l0 x10_1).f4), .bool ((rd_T91 l0 x10_1).f5), .slice A135_6 ((rd_T91 l0 x10_1).f6).length c135_6, .slice none 0 0]) ?_ 7 _ rfl; (with_reducible repeat (first | refine blk_drewN ?_ _ | refine blk_drew ?_ | refine blk_alloc ?_ _)); refine blk_put (cs := #[.int .i64 ((rd_T91 l0 x10_1).f0), .int .i64 ((rd_T91 l0 x10_1).f1), .int .i64 ((rd_T91 l0 x10_1).f2), .int .i64 ((rd_T91 l0 x10_1).f3), .bool ((rd_T91 l0 x10_1).f4), .bool ((rd_T91 l0 x10_1).f5), .slice none 0 0, .slice none 0 0]) ?_ 6 _ rfl; (with_reducible repeat (first | refine blk_drewN ?_ _ | refine blk_drew ?_ | refine blk_alloc ?_ _)); refine blk_put (cs := #[.int .i64 ((rd_T91 l0 x10_1).f0), .int .i64 ((rd_T91 l0 x10_1).f1), .int .i64 ((rd_T91 l0 x10_1).f2), .int .i64 ((rd_T91 l0 x10_1).f3), .bool ((rd_T91 l0 x10_1).f4), .bool false, .slice none 0 0, .slice none 0 0]) ?_ 5 _ rfl; (with_reducible repeat (first | refine blk_drewN ?_ _ | refine blk_drew ?_ | refine blk_alloc ?_ _)); refine blk_put (cs := #[.int .i64 ((rd_T91 l0 x10_1).f0), .int .i64 ((rd_T91 l0 x10_1).f1), .int .i64 ((rd_T91 l0 x10_1).f2), .int .i64 ((rd_T91 l0 x10_1).f3), .bool false, .bool false, .slice none 0 0, .slice none 0 0]) ?_ 4 _ rfl; (with_reducible repeat (first | refine blk_drewN ?_ _ | refine blk_drew ?_ | refine blk_alloc ?_ _)); refine blk_put (cs := #[.int .i64 ((rd_T91 l0 x10_1).f0), .int .i64 ((rd_T91 l0 x10_1).f1), .int .i64 ((rd_T91 l0 x10_1).f2), .int .i64 0, .bool false, .bool false, .slice none 0 0, .slice none 0 0]) ?_ 3 _ rfl; (with_reducible repeat (first | refine blk_drewN ?_ _ | refine blk_drew ?_ | refine blk_alloc ?_ _)); refine blk_put (cs := #[.int .i64 ((rd_T91 l0 x10_1).f0), .int .i64 ((rd_T91 l0 x10_1).f1), .int .i64 0, .int .i64 0, .bool false, .bool false, .slice none 0 0, .slice none 0 0]) ?_ 2 _ rfl; (with_reducible repeat (first | refine blk_drewN ?_ _ | refine blk_drew ?_ | refine blk_alloc ?_ _)); refine blk_put (cs := #[.int .i64 ((rd_T91 l0 x10_1).f0), .int .i64 0, .int .i64 0, .int .i64 0, .bool false, .bool false, .slice none 0 0, .slice none 0 0]) ?_ 1 _ rfl; (with_reducible repeat (first | refine blk_drewN ?_ _ | refine blk_drew ?_ | refine blk_alloc ?_ _)); refine blk_put (cs := #[.int .i64 0, .int .i64 0, .int .i64 0, .int .i64 0, .bool false, .bool false, .slice none 0 0, .slice none 0 0]) ?_ 0 _ rfl; (with_reducible repeat (first | refine blk_drewN ?_ _ | refine blk_drew ?_ | refine blk_alloc ?_ _)); exact BK136.out) hb); have n1_ := Aside0.mk (below_step (by repeat (first | (with_reducible first | exact HB.out | apply below_alloc | apply pw_below_drewN | apply below_drew1 | refine below_set ?_ GE136.out) | exact HB.out)) hb); clear BK136; clear HB; have BK136 := n0_; have HB := n1_; clear n0_ n1_; (try clear hb); (try clear hb2); (try clear hk); (try clear hi)))
                  go_meet
                  case rel => exact ⟨_, (true), (by first | rfl | (simp; done) | (simp [*]; done)), H', ⟨by have := HK1.out; first | omega | exact Nat.le_refl _⟩, ⟨by (with_reducible repeat (first | refine blk_drewN ?_ _ | refine blk_drew ?_ | refine blk_alloc ?_ _)); exact BK136.out⟩, ⟨by repeat (first | (with_reducible first | exact HB.out | apply below_alloc | apply pw_below_drewN | apply below_drew1 | refine below_set ?_ GE136.out) | exact HB.out)⟩⟩
            · replace c10 := Bool.eq_false_iff.mpr c10
              subst c10
              have H1 : (assartref34_next.j1 k1 l0 a1 a2 x8_1 x9_1 x10_1 false ((rd_T91 l0 x10_1).f0) ((rd_T91 l0 x10_1).f1) ((rd_T91 l0 x10_1).f2) ((rd_T91 l0 x10_1).f3) ((rd_T91 l0 x10_1).f4) ((rd_T91 l0 x10_1).f5) ((rd_T91 l0 x10_1).f6) ((rd_T91 l0 x10_1).f7)) = some (r1, r2) := by rw [if_neg (show ¬ (false = true) by decide)] at H; exact H
              clear H
              have H := H1
              clear H1
              have H' := Aside0.mk H
              clear H
              have hcz29_0 : w7.cell? ⟨gb136, 0, none⟩ = some (.int .i64 0) := (blk_cell BK136.out 0).trans rfl
              have hcz29_1 : w7.cell? ⟨gb136, 1, none⟩ = some (.int .i64 0) := (blk_cell BK136.out 1).trans rfl
              have hcz29_2 : w7.cell? ⟨gb136, 2, none⟩ = some (.int .i64 0) := (blk_cell BK136.out 2).trans rfl
              have hcz29_3 : w7.cell? ⟨gb136, 3, none⟩ = some (.int .i64 0) := (blk_cell BK136.out 3).trans rfl
              have hcz29_4 : w7.cell? ⟨gb136, 4, none⟩ = some (.bool false) := (blk_cell BK136.out 4).trans rfl
              have hcz29_5 : w7.cell? ⟨gb136, 5, none⟩ = some (.bool false) := (blk_cell BK136.out 5).trans rfl
              have hcz29_6 : w7.cell? ⟨gb136, 6, none⟩ = some (.slice none 0 0) := (blk_cell BK136.out 6).trans rfl
              have hcz29_7 : w7.cell? ⟨gb136, 7, none⟩ = some (.slice none 0 0) := (blk_cell BK136.out 7).trans rfl
              have hfz29_0 := blk_frozen BK136.out 0
              have hfz29_1 := blk_frozen BK136.out 1
              have hfz29_2 := blk_frozen BK136.out 2
              have hfz29_3 := blk_frozen BK136.out 3
              have hfz29_4 := blk_frozen BK136.out 4
              have hfz29_5 := blk_frozen BK136.out 5
              have hfz29_6 := blk_frozen BK136.out 6
              have hfz29_7 := blk_frozen BK136.out 7
              go_wp2_with (first | ((with_reducible refine gate_callee (f := 91) rfl ?_); refine goesL_ (some 23) rfl rfl Try.func91 (by kernel_rfl) rfl #[.agg #[.int .i64 ((rd_T91 l0 x10_1).f0), .int .i64 ((rd_T91 l0 x10_1).f1), .int .i64 ((rd_T91 l0 x10_1).f2), .int .i64 ((rd_T91 l0 x10_1).f3), .bool ((rd_T91 l0 x10_1).f4), .bool ((rd_T91 l0 x10_1).f5), .slice A135_6 ((rd_T91 l0 x10_1).f6).length c135_6, .slice A135_7 ((rd_T91 l0 x10_1).f7).length c135_7]] rfl (by (try simp only [List.map_toArray, List.map_cons, List.map_nil]); first | done | rfl | (simp only [List.length_drop, List.length_take]; rfl)) ?_; (with_reducible refine (assartref34_raised.calls ((rd_T91 l0 x10_1).f0) ((rd_T91 l0 x10_1).f1) ((rd_T91 l0 x10_1).f2) ((rd_T91 l0 x10_1).f3) ((rd_T91 l0 x10_1).f4) ((rd_T91 l0 x10_1).f5) _ _ ((rd_T91 l0 x10_1).f6) _ _ ((rd_T91 l0 x10_1).f7) false _ ?side1 ?side2 ?side3 ?side4 A9.out).mono ?_); (case side1 => exact Kd.C_below HR135_6.out (by repeat (first | (with_reducible first | exact HB.out | apply below_alloc | apply pw_below_drewN | apply below_drew1 | refine below_set ?_ GE136.out) | exact HB.out))); (case side2 => exact HC135_6.out); (case side3 => exact Kd.C_below HR135_7.out (by repeat (first | (with_reducible first | exact HB.out | apply below_alloc | apply pw_below_drewN | apply below_drew1 | refine below_set ?_ GE136.out) | exact HB.out))); (case side4 => exact HC135_7.out); rintro e w30 ⟨rfl, hb⟩; refine ⟨_, rfl, ?_⟩; have n0_ := Aside0.mk (blk_below (g := gb136) (o := .cells #[.int .i64 ((rd_T91 l0 x10_1).f0), .int .i64 ((rd_T91 l0 x10_1).f1), .int .i64 ((rd_T91 l0 x10_1).f2), .int .i64 ((rd_T91 l0 x10_1).f3), .bool ((rd_T91 l0 x10_1).f4), .bool ((rd_T91 l0 x10_1).f5), .slice A135_6 ((rd_T91 l0 x10_1).f6).length c135_6, .slice A135_7 ((rd_T91 l0 x10_1).f7).length c135_7] 91 (0, 0)) (by (with_reducible repeat (first | refine blk_drewN ?_ _ | refine blk_drew ?_ | refine blk_alloc ?_ _)); refine blk_put (cs := #[.int .i64 ((rd_T91 l0 x10_1).f0), .int .i64 ((rd_T91 l0 x10_1).f1), .int .i64 ((rd_T91 l0 x10_1).f2), .int .i64 ((rd_T91 l0 x10_1).f3), .bool ((rd_T91 l0 x10_1).f4), .bool ((rd_T91 l0 x10_1).f5), .slice A135_6 ((rd_T91 l0 x10_1).f6).length c135_6, .slice none 0 0]) ?_ 7 _ rfl; (with_reducible repeat (first | refine blk_drewN ?_ _ | refine blk_drew ?_ | refine blk_alloc ?_ _)); refine blk_put (cs := #[.int .i64 ((rd_T91 l0 x10_1).f0), .int .i64 ((rd_T91 l0 x10_1).f1), .int .i64 ((rd_T91 l0 x10_1).f2), .int .i64 ((rd_T91 l0 x10_1).f3), .bool ((rd_T91 l0 x10_1).f4), .bool ((rd_T91 l0 x10_1).f5), .slice none 0 0, .slice none 0 0]) ?_ 6 _ rfl; (with_reducible repeat (first | refine blk_drewN ?_ _ | refine blk_drew ?_ | refine blk_alloc ?_ _)); refine blk_put (cs := #[.int .i64 ((rd_T91 l0 x10_1).f0), .int .i64 ((rd_T91 l0 x10_1).f1), .int .i64 ((rd_T91 l0 x10_1).f2), .int .i64 ((rd_T91 l0 x10_1).f3), .bool ((rd_T91 l0 x10_1).f4), .bool false, .slice none 0 0, .slice none 0 0]) ?_ 5 _ rfl; (with_reducible repeat (first | refine blk_drewN ?_ _ | refine blk_drew ?_ | refine blk_alloc ?_ _)); refine blk_put (cs := #[.int .i64 ((rd_T91 l0 x10_1).f0), .int .i64 ((rd_T91 l0 x10_1).f1), .int .i64 ((rd_T91 l0 x10_1).f2), .int .i64 ((rd_T91 l0 x10_1).f3), .bool false, .bool false, .slice none 0 0, .slice none 0 0]) ?_ 4 _ rfl; (with_reducible repeat (first | refine blk_drewN ?_ _ | refine blk_drew ?_ | refine blk_alloc ?_ _)); refine blk_put (cs := #[.int .i64 ((rd_T91 l0 x10_1).f0), .int .i64 ((rd_T91 l0 x10_1).f1), .int .i64 ((rd_T91 l0 x10_1).f2), .int .i64 0, .bool false, .bool false, .slice none 0 0, .slice none 0 0]) ?_ 3 _ rfl; (with_reducible repeat (first | refine blk_drewN ?_ _ | refine blk_drew ?_ | refine blk_alloc ?_ _)); refine blk_put (cs := #[.int .i64 ((rd_T91 l0 x10_1).f0), .int .i64 ((rd_T91 l0 x10_1).f1), .int .i64 0, .int .i64 0, .bool false, .bool false, .slice none 0 0, .slice none 0 0]) ?_ 2 _ rfl; (with_reducible repeat (first | refine blk_drewN ?_ _ | refine blk_drew ?_ | refine blk_alloc ?_ _)); refine blk_put (cs := #[.int .i64 ((rd_T91 l0 x10_1).f0), .int .i64 0, .int .i64 0, .int .i64 0, .bool false, .bool false, .slice none 0 0, .slice none 0 0]) ?_ 1 _ rfl; (with_reducible repeat (first | refine blk_drewN ?_ _ | refine blk_drew ?_ | refine blk_alloc ?_ _)); refine blk_put (cs := #[.int .i64 0, .int .i64 0, .int .i64 0, .int .i64 0, .bool false, .bool false, .slice none 0 0, .slice none 0 0]) ?_ 0 _ rfl; (with_reducible repeat (first | refine blk_drewN ?_ _ | refine blk_drew ?_ | refine blk_alloc ?_ _)); exact BK136.out) hb); have n1_ := Aside0.mk (below_step (by repeat (first | (with_reducible first | exact HB.out | apply below_alloc | apply pw_below_drewN | apply below_drew1 | refine below_set ?_ GE136.out) | exact HB.out)) hb); clear BK136; clear HB; have BK136 := n0_; have HB := n1_; clear n0_ n1_; (try clear hb); (try clear hb2); (try clear hk); (try clear hi)))
              go_meet
              case rel => exact ⟨_, (false), (by first | rfl | (simp; done) | (simp [*]; done)), H', ⟨by have := HK1.out; first | omega | exact Nat.le_refl _⟩, ⟨by (with_reducible repeat (first | refine blk_drewN ?_ _ | refine blk_drew ?_ | refine blk_alloc ?_ _)); exact BK136.out⟩, ⟨by repeat (first | (with_reducible first | exact HB.out | apply below_alloc | apply pw_below_drewN | apply below_drew1 | refine below_set ?_ GE136.out) | exact HB.out)⟩⟩
          case rest =>
            clear HC6
            try clear c1
            try clear p1
            try clear q1
            try clear hx1
            try clear c2
            try clear p2
            try clear c4
            try clear c4b0
            try clear c5
            try clear c5b0
            try clear c9
            try clear c10
            try clear c11
            try clear c12
            try clear c12b0
            try clear c13
            try clear p13
            try clear q13
            try clear hx13
            try clear c23
            try clear hcz14_0
            try clear hcz14_1
            try clear hcz14_2
            try clear hcz14_3
            try clear hcz14_4
            try clear hcz14_5
            try clear hcz14_6
            try clear hcz14_7
            try clear hcz16_0
            try clear hcz16_1
            try clear hcz16_2
            try clear hcz16_3
            try clear hcz16_4
            try clear hcz16_5
            try clear hcz16_6
            try clear hcz16_7
            try clear hcz17_0
            try clear hcz17_1
            try clear hcz17_2
            try clear hcz17_3
            try clear hcz17_4
            try clear hcz17_5
            try clear hcz17_6
            try clear hcz17_7
            try clear hcz19_0
            try clear hcz19_1
            try clear hcz19_2
            try clear hcz19_3
            try clear hcz19_4
            try clear hcz19_5
            try clear hcz19_6
            try clear hcz19_7
            try clear hcz20_0
            try clear hcz20_1
            try clear hcz20_2
            try clear hcz20_3
            try clear hcz20_4
            try clear hcz20_5
            try clear hcz20_6
            try clear hcz20_7
            try clear hcz22_0
            try clear hcz22_1
            try clear hcz22_2
            try clear hcz22_3
            try clear hcz22_4
            try clear hcz22_5
            try clear hcz22_6
            try clear hcz22_7
            try clear hcz24_0
            try clear hcz24_1
            try clear hcz24_2
            try clear hcz24_3
            try clear hcz24_4
            try clear hcz24_5
            try clear hcz24_6
            try clear hcz24_7
            try clear hcz26_0
            try clear hcz26_1
            try clear hcz26_2
            try clear hcz26_3
            try clear hcz26_4
            try clear hcz26_5
            try clear hcz26_6
            try clear hcz26_7
            try clear hcz27_0
            try clear hcz27_1
            try clear hcz27_2
            try clear hcz27_3
            try clear hcz27_4
            try clear hcz27_5
            try clear hcz27_6
            try clear hcz27_7
            try clear hcz29_0
            try clear hcz29_1
            try clear hcz29_2
            try clear hcz29_3
            try clear hcz29_4
            try clear hcz29_5
            try clear hcz29_6
            try clear hcz29_7
            try clear hcz8_0
            try clear hcz8_1
            try clear hcz8_2
            try clear hcz8_3
            try clear hcz8_4
            try clear hcz8_5
            try clear hcz8_6
            try clear hcz8_7
            try clear hfz14_0
            try clear hfz14_1
            try clear hfz14_2
            try clear hfz14_3
            try clear hfz14_4
            try clear hfz14_5
            try clear hfz14_6
            try clear hfz14_7
            try clear hfz16_0
            try clear hfz16_1
            try clear hfz16_2
            try clear hfz16_3
            try clear hfz16_4
            try clear hfz16_5
            try clear hfz16_6
            try clear hfz16_7
            try clear hfz17_0
            try clear hfz17_1
            try clear hfz17_2
            try clear hfz17_3
            try clear hfz17_4
            try clear hfz17_5
            try clear hfz17_6
            try clear hfz17_7
            try clear hfz19_0
            try clear hfz19_1
            try clear hfz19_2
            try clear hfz19_3
            try clear hfz19_4
            try clear hfz19_5
            try clear hfz19_6
            try clear hfz19_7
            try clear hfz20_0
            try clear hfz20_1
            try clear hfz20_2
            try clear hfz20_3
            try clear hfz20_4
            try clear hfz20_5
            try clear hfz20_6
            try clear hfz20_7
            try clear hfz22_0
            try clear hfz22_1
            try clear hfz22_2
            try clear hfz22_3
            try clear hfz22_4
            try clear hfz22_5
            try clear hfz22_6
            try clear hfz22_7
            try clear hfz24_0
            try clear hfz24_1
            try clear hfz24_2
            try clear hfz24_3
            try clear hfz24_4
            try clear hfz24_5
            try clear hfz24_6
            try clear hfz24_7
            try clear hfz26_0
            try clear hfz26_1
            try clear hfz26_2
            try clear hfz26_3
            try clear hfz26_4
            try clear hfz26_5
            try clear hfz26_6
            try clear hfz26_7
            try clear hfz27_0
            try clear hfz27_1
            try clear hfz27_2
            try clear hfz27_3
            try clear hfz27_4
            try clear hfz27_5
            try clear hfz27_6
            try clear hfz27_7
            try clear hfz29_0
            try clear hfz29_1
            try clear hfz29_2
            try clear hfz29_3
            try clear hfz29_4
            try clear hfz29_5
            try clear hfz29_6
            try clear hfz29_7
            try clear hfz8_0
            try clear hfz8_1
            try clear hfz8_2
            try clear hfz8_3
            try clear hfz8_4
            try clear hfz8_5
            try clear hfz8_6
            try clear hfz8_7
            try clear hx135_0
            try clear hx135_1
            try clear hx135_2
            try clear hx135_3
            try clear hx135_4
            try clear hx135_5
            try clear hx135_6
            try clear hx135_7
            try clear p135
            try clear p2
            try clear q135
            obtain ⟨kq, x43_5, rfl, HA, HJ5, BK136, HB⟩ := hcut
            cases kq with
            | zero => exact absurd HA.out (by simp [assartref34_next.j1])
            | succ kj5 =>
              have H := HA.out
              clear HA
              simp only [assartref34_next.j1] at H
              by_cases c31 : x43_5 = true
              · subst c31
                have H1 : ((assartref34_stores.f ((rd_T91 l0 x10_1).f0) ((rd_T91 l0 x10_1).f1) ((rd_T91 l0 x10_1).f2) ((rd_T91 l0 x10_1).f3) ((rd_T91 l0 x10_1).f4) ((rd_T91 l0 x10_1).f5) ((rd_T91 l0 x10_1).f6) ((rd_T91 l0 x10_1).f7)).bind fun t138 => (if t138 = true then (if a2 = true then (if ((rd_T91 l0 x10_1).f3) > a1 then (if ((rd_T91 l0 x10_1).f3) < ((rd_T91 l0 x10_1).f2) then (assartref34_next.l0 kj5 l0 a1 a2 ((rd_T91 l0 x10_1).f3) true (wrap64 (x10_1 + 1))) else (assartref34_next.l0 kj5 l0 a1 a2 ((rd_T91 l0 x10_1).f2) true (wrap64 (x10_1 + 1)))) else (assartref34_next.l0 kj5 l0 a1 a2 ((rd_T91 l0 x10_1).f2) true (wrap64 (x10_1 + 1)))) else (if ((rd_T91 l0 x10_1).f3) < ((rd_T91 l0 x10_1).f2) then (assartref34_next.l0 kj5 l0 a1 a2 ((rd_T91 l0 x10_1).f3) true (wrap64 (x10_1 + 1))) else (assartref34_next.l0 kj5 l0 a1 a2 ((rd_T91 l0 x10_1).f2) true (wrap64 (x10_1 + 1))))) else (assartref34_next.l0 kj5 l0 a1 a2 ((rd_T91 l0 x10_1).f2) true (wrap64 (x10_1 + 1))))) = some (r1, r2) := by rw [if_pos rfl] at H; exact H
                clear H
                have H := H1
                clear H1
                replace H := Option.bind_eq_some_iff.mp H
                obtain ⟨t138, A320, H⟩ := H
                replace H : (if t138 = true then (if a2 = true then (if ((rd_T91 l0 x10_1).f3) > a1 then (if ((rd_T91 l0 x10_1).f3) < ((rd_T91 l0 x10_1).f2) then (assartref34_next.l0 kj5 l0 a1 a2 ((rd_T91 l0 x10_1).f3) true (wrap64 (x10_1 + 1))) else (assartref34_next.l0 kj5 l0 a1 a2 ((rd_T91 l0 x10_1).f2) true (wrap64 (x10_1 + 1)))) else (assartref34_next.l0 kj5 l0 a1 a2 ((rd_T91 l0 x10_1).f2) true (wrap64 (x10_1 + 1)))) else (if ((rd_T91 l0 x10_1).f3) < ((rd_T91 l0 x10_1).f2) then (assartref34_next.l0 kj5 l0 a1 a2 ((rd_T91 l0 x10_1).f3) true (wrap64 (x10_1 + 1))) else (assartref34_next.l0 kj5 l0 a1 a2 ((rd_T91 l0 x10_1).f2) true (wrap64 (x10_1 + 1))))) else (assartref34_next.l0 kj5 l0 a1 a2 ((rd_T91 l0 x10_1).f2) true (wrap64 (x10_1 + 1)))) = some (r1, r2) := H
                have A32 := Aside0.mk A320
                clear A320
                by_cases c33 : t138 = true
                · subst c33
                  have H1 : (if a2 = true then (if ((rd_T91 l0 x10_1).f3) > a1 then (if ((rd_T91 l0 x10_1).f3) < ((rd_T91 l0 x10_1).f2) then (assartref34_next.l0 kj5 l0 a1 a2 ((rd_T91 l0 x10_1).f3) true (wrap64 (x10_1 + 1))) else (assartref34_next.l0 kj5 l0 a1 a2 ((rd_T91 l0 x10_1).f2) true (wrap64 (x10_1 + 1)))) else (assartref34_next.l0 kj5 l0 a1 a2 ((rd_T91 l0 x10_1).f2) true (wrap64 (x10_1 + 1)))) else (if ((rd_T91 l0 x10_1).f3) < ((rd_T91 l0 x10_1).f2) then (assartref34_next.l0 kj5 l0 a1 a2 ((rd_T91 l0 x10_1).f3) true (wrap64 (x10_1 + 1))) else (assartref34_next.l0 kj5 l0 a1 a2 ((rd_T91 l0 x10_1).f2) true (wrap64 (x10_1 + 1))))) = some (r1, r2) := by rw [if_pos rfl] at H; exact H
                  clear H
                  have H := H1
                  clear H1
                  by_cases c34 : a2 = true
                  · subst c34
                    have H1 : (if ((rd_T91 l0 x10_1).f3) > a1 then (if ((rd_T91 l0 x10_1).f3) < ((rd_T91 l0 x10_1).f2) then (assartref34_next.l0 kj5 l0 a1 true ((rd_T91 l0 x10_1).f3) true (wrap64 (x10_1 + 1))) else (assartref34_next.l0 kj5 l0 a1 true ((rd_T91 l0 x10_1).f2) true (wrap64 (x10_1 + 1)))) else (assartref34_next.l0 kj5 l0 a1 true ((rd_T91 l0 x10_1).f2) true (wrap64 (x10_1 + 1)))) = some (r1, r2) := by rw [if_pos rfl] at H; exact H
                    clear H
                    have H := H1
                    clear H1
                    by_cases c35 : ((rd_T91 l0 x10_1).f3) > a1
                    · rw [if_pos c35] at H
                      have c35b0 : decide (a1 < ((rd_T91 l0 x10_1).f3)) = true := decide_eq_true c35
                      clear c35
                      by_cases c36 : ((rd_T91 l0 x10_1).f3) < ((rd_T91 l0 x10_1).f2)
                      · rw [if_pos c36] at H
                        have c36b0 : decide (((rd_T91 l0 x10_1).f3) < ((rd_T91 l0 x10_1).f2)) = true := decide_eq_true c36
                        clear c36
                        have H' := Aside0.mk H
                        clear H
                        have hcz37_0 : wc.cell? ⟨gb136, 0, none⟩ = some (.int .i64 ((rd_T91 l0 x10_1).f0)) := (blk_cell BK136.out 0).trans rfl
                        have hcz37_1 : wc.cell? ⟨gb136, 1, none⟩ = some (.int .i64 ((rd_T91 l0 x10_1).f1)) := (blk_cell BK136.out 1).trans rfl
                        have hcz37_2 : wc.cell? ⟨gb136, 2, none⟩ = some (.int .i64 ((rd_T91 l0 x10_1).f2)) := (blk_cell BK136.out 2).trans rfl
                        have hcz37_3 : wc.cell? ⟨gb136, 3, none⟩ = some (.int .i64 ((rd_T91 l0 x10_1).f3)) := (blk_cell BK136.out 3).trans rfl
                        have hcz37_4 : wc.cell? ⟨gb136, 4, none⟩ = some (.bool ((rd_T91 l0 x10_1).f4)) := (blk_cell BK136.out 4).trans rfl
                        have hcz37_5 : wc.cell? ⟨gb136, 5, none⟩ = some (.bool ((rd_T91 l0 x10_1).f5)) := (blk_cell BK136.out 5).trans rfl
                        have hcz37_6 : wc.cell? ⟨gb136, 6, none⟩ = some (.slice A135_6 ((rd_T91 l0 x10_1).f6).length c135_6) := (blk_cell BK136.out 6).trans rfl
                        have hcz37_7 : wc.cell? ⟨gb136, 7, none⟩ = some (.slice A135_7 ((rd_T91 l0 x10_1).f7).length c135_7) := (blk_cell BK136.out 7).trans rfl
                        have hfz37_0 := blk_frozen BK136.out 0
                        have hfz37_1 := blk_frozen BK136.out 1
                        have hfz37_2 := blk_frozen BK136.out 2
                        have hfz37_3 := blk_frozen BK136.out 3
                        have hfz37_4 := blk_frozen BK136.out 4
                        have hfz37_5 := blk_frozen BK136.out 5
                        have hfz37_6 := blk_frozen BK136.out 6
                        have hfz37_7 := blk_frozen BK136.out 7
                        go_wp2_with (first | ((with_reducible refine gate_callee (f := 89) rfl ?_); refine goesL_ (some 47) rfl rfl Try.func89 (by kernel_rfl) rfl #[.agg #[.int .i64 ((rd_T91 l0 x10_1).f0), .int .i64 ((rd_T91 l0 x10_1).f1), .int .i64 ((rd_T91 l0 x10_1).f2), .int .i64 ((rd_T91 l0 x10_1).f3), .bool ((rd_T91 l0 x10_1).f4), .bool ((rd_T91 l0 x10_1).f5), .slice A135_6 ((rd_T91 l0 x10_1).f6).length c135_6, .slice A135_7 ((rd_T91 l0 x10_1).f7).length c135_7]] rfl (by (try simp only [List.map_toArray, List.map_cons, List.map_nil]); first | done | rfl | (simp only [List.length_drop, List.length_take]; rfl)) ?_; (with_reducible refine (assartref34_stores.calls ((rd_T91 l0 x10_1).f0) ((rd_T91 l0 x10_1).f1) ((rd_T91 l0 x10_1).f2) ((rd_T91 l0 x10_1).f3) ((rd_T91 l0 x10_1).f4) ((rd_T91 l0 x10_1).f5) _ _ ((rd_T91 l0 x10_1).f6) _ _ ((rd_T91 l0 x10_1).f7) true _ ?side1 ?side2 ?side3 ?side4 A32.out).mono ?_); (case side1 => repeat (first | exact (Kd.C_below HR135_6.out HB.out) | (with_reducible refine Kd.C_alloc ?_ _) | (with_reducible refine Kd.C_drewN ?_ _) | (with_reducible refine Kd.C_drew ?_))); (case side2 => exact HC135_6.out); (case side3 => repeat (first | exact (Kd.C_below HR135_7.out HB.out) | (with_reducible refine Kd.C_alloc ?_ _) | (with_reducible refine Kd.C_drewN ?_ _) | (with_reducible refine Kd.C_drew ?_))); (case side4 => exact HC135_7.out); rintro e w38 ⟨rfl, hb⟩; refine ⟨_, rfl, ?_⟩; have n0_ := Aside0.mk (blk_below (g := gb136) (o := .cells #[.int .i64 ((rd_T91 l0 x10_1).f0), .int .i64 ((rd_T91 l0 x10_1).f1), .int .i64 ((rd_T91 l0 x10_1).f2), .int .i64 ((rd_T91 l0 x10_1).f3), .bool ((rd_T91 l0 x10_1).f4), .bool ((rd_T91 l0 x10_1).f5), .slice A135_6 ((rd_T91 l0 x10_1).f6).length c135_6, .slice A135_7 ((rd_T91 l0 x10_1).f7).length c135_7] 91 (0, 0)) (by (with_reducible repeat (first | refine blk_drewN ?_ _ | refine blk_drew ?_ | refine blk_alloc ?_ _)); exact BK136.out) hb); have n1_ := Aside0.mk (below_step (by repeat (first | (with_reducible first | exact HB.out | apply below_alloc | apply pw_below_drewN | apply below_drew1 | refine below_set ?_ GE136.out) | exact HB.out)) hb); clear BK136; clear HB; have BK136 := n0_; have HB := n1_; clear n0_ n1_; (try clear hb); (try clear hb2); (try clear hk); (try clear hi); have hcz39_0 : w38.cell? ⟨gb136, 0, none⟩ = some (.int .i64 ((rd_T91 l0 x10_1).f0)) := (blk_cell BK136.out 0).trans rfl; have hcz39_1 : w38.cell? ⟨gb136, 1, none⟩ = some (.int .i64 ((rd_T91 l0 x10_1).f1)) := (blk_cell BK136.out 1).trans rfl; have hcz39_2 : w38.cell? ⟨gb136, 2, none⟩ = some (.int .i64 ((rd_T91 l0 x10_1).f2)) := (blk_cell BK136.out 2).trans rfl; have hcz39_3 : w38.cell? ⟨gb136, 3, none⟩ = some (.int .i64 ((rd_T91 l0 x10_1).f3)) := (blk_cell BK136.out 3).trans rfl; have hcz39_4 : w38.cell? ⟨gb136, 4, none⟩ = some (.bool ((rd_T91 l0 x10_1).f4)) := (blk_cell BK136.out 4).trans rfl; have hcz39_5 : w38.cell? ⟨gb136, 5, none⟩ = some (.bool ((rd_T91 l0 x10_1).f5)) := (blk_cell BK136.out 5).trans rfl; have hcz39_6 : w38.cell? ⟨gb136, 6, none⟩ = some (.slice A135_6 ((rd_T91 l0 x10_1).f6).length c135_6) := (blk_cell BK136.out 6).trans rfl; have hcz39_7 : w38.cell? ⟨gb136, 7, none⟩ = some (.slice A135_7 ((rd_T91 l0 x10_1).f7).length c135_7) := (blk_cell BK136.out 7).trans rfl; have hfz39_0 := blk_frozen BK136.out 0; have hfz39_1 := blk_frozen BK136.out 1; have hfz39_2 := blk_frozen BK136.out 2; have hfz39_3 := blk_frozen BK136.out 3; have hfz39_4 := blk_frozen BK136.out 4; have hfz39_5 := blk_frozen BK136.out 5; have hfz39_6 := blk_frozen BK136.out 6; have hfz39_7 := blk_frozen BK136.out 7))
                        go_roundg kj5
                        case measure => have := HK1.out; have := HJ5.out; omega
                        case rel => exact ⟨(((rd_T91 l0 x10_1).f3)), (true), (wrap64 (x10_1 + 1)), (by first | rfl | (simp; done) | (simp [*]; done)), (by first | rfl | (simp; done) | (simp [*]; done)), (by first | rfl | (simp; done) | (simp [*]; done)), H', ⟨by have := HK1.out; have := HJ5.out; omega⟩, ⟨by repeat (first | (with_reducible first | exact HB.out | apply below_alloc | apply pw_below_drewN | apply below_drew1 | refine below_set ?_ GE136.out) | exact HB.out)⟩⟩
                      · rw [if_neg c36] at H
                        have c36b0 : decide (((rd_T91 l0 x10_1).f3) < ((rd_T91 l0 x10_1).f2)) = false := decide_eq_false c36
                        clear c36
                        have H' := Aside0.mk H
                        clear H
                        have hcz40_0 : wc.cell? ⟨gb136, 0, none⟩ = some (.int .i64 ((rd_T91 l0 x10_1).f0)) := (blk_cell BK136.out 0).trans rfl
                        have hcz40_1 : wc.cell? ⟨gb136, 1, none⟩ = some (.int .i64 ((rd_T91 l0 x10_1).f1)) := (blk_cell BK136.out 1).trans rfl
                        have hcz40_2 : wc.cell? ⟨gb136, 2, none⟩ = some (.int .i64 ((rd_T91 l0 x10_1).f2)) := (blk_cell BK136.out 2).trans rfl
                        have hcz40_3 : wc.cell? ⟨gb136, 3, none⟩ = some (.int .i64 ((rd_T91 l0 x10_1).f3)) := (blk_cell BK136.out 3).trans rfl
                        have hcz40_4 : wc.cell? ⟨gb136, 4, none⟩ = some (.bool ((rd_T91 l0 x10_1).f4)) := (blk_cell BK136.out 4).trans rfl
                        have hcz40_5 : wc.cell? ⟨gb136, 5, none⟩ = some (.bool ((rd_T91 l0 x10_1).f5)) := (blk_cell BK136.out 5).trans rfl
                        have hcz40_6 : wc.cell? ⟨gb136, 6, none⟩ = some (.slice A135_6 ((rd_T91 l0 x10_1).f6).length c135_6) := (blk_cell BK136.out 6).trans rfl
                        have hcz40_7 : wc.cell? ⟨gb136, 7, none⟩ = some (.slice A135_7 ((rd_T91 l0 x10_1).f7).length c135_7) := (blk_cell BK136.out 7).trans rfl
                        have hfz40_0 := blk_frozen BK136.out 0
                        have hfz40_1 := blk_frozen BK136.out 1
                        have hfz40_2 := blk_frozen BK136.out 2
                        have hfz40_3 := blk_frozen BK136.out 3
                        have hfz40_4 := blk_frozen BK136.out 4
                        have hfz40_5 := blk_frozen BK136.out 5
                        have hfz40_6 := blk_frozen BK136.out 6
                        have hfz40_7 := blk_frozen BK136.out 7
                        go_wp2_with (first | ((with_reducible refine gate_callee (f := 89) rfl ?_); refine goesL_ (some 47) rfl rfl Try.func89 (by kernel_rfl) rfl #[.agg #[.int .i64 ((rd_T91 l0 x10_1).f0), .int .i64 ((rd_T91 l0 x10_1).f1), .int .i64 ((rd_T91 l0 x10_1).f2), .int .i64 ((rd_T91 l0 x10_1).f3), .bool ((rd_T91 l0 x10_1).f4), .bool ((rd_T91 l0 x10_1).f5), .slice A135_6 ((rd_T91 l0 x10_1).f6).length c135_6, .slice A135_7 ((rd_T91 l0 x10_1).f7).length c135_7]] rfl (by (try simp only [List.map_toArray, List.map_cons, List.map_nil]); first | done | rfl | (simp only [List.length_drop, List.length_take]; rfl)) ?_; (with_reducible refine (assartref34_stores.calls ((rd_T91 l0 x10_1).f0) ((rd_T91 l0 x10_1).f1) ((rd_T91 l0 x10_1).f2) ((rd_T91 l0 x10_1).f3) ((rd_T91 l0 x10_1).f4) ((rd_T91 l0 x10_1).f5) _ _ ((rd_T91 l0 x10_1).f6) _ _ ((rd_T91 l0 x10_1).f7) true _ ?side1 ?side2 ?side3 ?side4 A32.out).mono ?_); (case side1 => repeat (first | exact (Kd.C_below HR135_6.out HB.out) | (with_reducible refine Kd.C_alloc ?_ _) | (with_reducible refine Kd.C_drewN ?_ _) | (with_reducible refine Kd.C_drew ?_))); (case side2 => exact HC135_6.out); (case side3 => repeat (first | exact (Kd.C_below HR135_7.out HB.out) | (with_reducible refine Kd.C_alloc ?_ _) | (with_reducible refine Kd.C_drewN ?_ _) | (with_reducible refine Kd.C_drew ?_))); (case side4 => exact HC135_7.out); rintro e w41 ⟨rfl, hb⟩; refine ⟨_, rfl, ?_⟩; have n0_ := Aside0.mk (blk_below (g := gb136) (o := .cells #[.int .i64 ((rd_T91 l0 x10_1).f0), .int .i64 ((rd_T91 l0 x10_1).f1), .int .i64 ((rd_T91 l0 x10_1).f2), .int .i64 ((rd_T91 l0 x10_1).f3), .bool ((rd_T91 l0 x10_1).f4), .bool ((rd_T91 l0 x10_1).f5), .slice A135_6 ((rd_T91 l0 x10_1).f6).length c135_6, .slice A135_7 ((rd_T91 l0 x10_1).f7).length c135_7] 91 (0, 0)) (by (with_reducible repeat (first | refine blk_drewN ?_ _ | refine blk_drew ?_ | refine blk_alloc ?_ _)); exact BK136.out) hb); have n1_ := Aside0.mk (below_step (by repeat (first | (with_reducible first | exact HB.out | apply below_alloc | apply pw_below_drewN | apply below_drew1 | refine below_set ?_ GE136.out) | exact HB.out)) hb); clear BK136; clear HB; have BK136 := n0_; have HB := n1_; clear n0_ n1_; (try clear hb); (try clear hb2); (try clear hk); (try clear hi); have hcz42_0 : w41.cell? ⟨gb136, 0, none⟩ = some (.int .i64 ((rd_T91 l0 x10_1).f0)) := (blk_cell BK136.out 0).trans rfl; have hcz42_1 : w41.cell? ⟨gb136, 1, none⟩ = some (.int .i64 ((rd_T91 l0 x10_1).f1)) := (blk_cell BK136.out 1).trans rfl; have hcz42_2 : w41.cell? ⟨gb136, 2, none⟩ = some (.int .i64 ((rd_T91 l0 x10_1).f2)) := (blk_cell BK136.out 2).trans rfl; have hcz42_3 : w41.cell? ⟨gb136, 3, none⟩ = some (.int .i64 ((rd_T91 l0 x10_1).f3)) := (blk_cell BK136.out 3).trans rfl; have hcz42_4 : w41.cell? ⟨gb136, 4, none⟩ = some (.bool ((rd_T91 l0 x10_1).f4)) := (blk_cell BK136.out 4).trans rfl; have hcz42_5 : w41.cell? ⟨gb136, 5, none⟩ = some (.bool ((rd_T91 l0 x10_1).f5)) := (blk_cell BK136.out 5).trans rfl; have hcz42_6 : w41.cell? ⟨gb136, 6, none⟩ = some (.slice A135_6 ((rd_T91 l0 x10_1).f6).length c135_6) := (blk_cell BK136.out 6).trans rfl; have hcz42_7 : w41.cell? ⟨gb136, 7, none⟩ = some (.slice A135_7 ((rd_T91 l0 x10_1).f7).length c135_7) := (blk_cell BK136.out 7).trans rfl; have hfz42_0 := blk_frozen BK136.out 0; have hfz42_1 := blk_frozen BK136.out 1; have hfz42_2 := blk_frozen BK136.out 2; have hfz42_3 := blk_frozen BK136.out 3; have hfz42_4 := blk_frozen BK136.out 4; have hfz42_5 := blk_frozen BK136.out 5; have hfz42_6 := blk_frozen BK136.out 6; have hfz42_7 := blk_frozen BK136.out 7))
                        go_roundg kj5
                        case measure => have := HK1.out; have := HJ5.out; omega
                        case rel => exact ⟨(((rd_T91 l0 x10_1).f2)), (true), (wrap64 (x10_1 + 1)), (by first | rfl | (simp; done) | (simp [*]; done)), (by first | rfl | (simp; done) | (simp [*]; done)), (by first | rfl | (simp; done) | (simp [*]; done)), H', ⟨by have := HK1.out; have := HJ5.out; omega⟩, ⟨by repeat (first | (with_reducible first | exact HB.out | apply below_alloc | apply pw_below_drewN | apply below_drew1 | refine below_set ?_ GE136.out) | exact HB.out)⟩⟩
                    · rw [if_neg c35] at H
                      have c35b0 : decide (a1 < ((rd_T91 l0 x10_1).f3)) = false := decide_eq_false c35
                      clear c35
                      have H' := Aside0.mk H
                      clear H
                      have hcz43_0 : wc.cell? ⟨gb136, 0, none⟩ = some (.int .i64 ((rd_T91 l0 x10_1).f0)) := (blk_cell BK136.out 0).trans rfl
                      have hcz43_1 : wc.cell? ⟨gb136, 1, none⟩ = some (.int .i64 ((rd_T91 l0 x10_1).f1)) := (blk_cell BK136.out 1).trans rfl
                      have hcz43_2 : wc.cell? ⟨gb136, 2, none⟩ = some (.int .i64 ((rd_T91 l0 x10_1).f2)) := (blk_cell BK136.out 2).trans rfl
                      have hcz43_3 : wc.cell? ⟨gb136, 3, none⟩ = some (.int .i64 ((rd_T91 l0 x10_1).f3)) := (blk_cell BK136.out 3).trans rfl
                      have hcz43_4 : wc.cell? ⟨gb136, 4, none⟩ = some (.bool ((rd_T91 l0 x10_1).f4)) := (blk_cell BK136.out 4).trans rfl
                      have hcz43_5 : wc.cell? ⟨gb136, 5, none⟩ = some (.bool ((rd_T91 l0 x10_1).f5)) := (blk_cell BK136.out 5).trans rfl
                      have hcz43_6 : wc.cell? ⟨gb136, 6, none⟩ = some (.slice A135_6 ((rd_T91 l0 x10_1).f6).length c135_6) := (blk_cell BK136.out 6).trans rfl
                      have hcz43_7 : wc.cell? ⟨gb136, 7, none⟩ = some (.slice A135_7 ((rd_T91 l0 x10_1).f7).length c135_7) := (blk_cell BK136.out 7).trans rfl
                      have hfz43_0 := blk_frozen BK136.out 0
                      have hfz43_1 := blk_frozen BK136.out 1
                      have hfz43_2 := blk_frozen BK136.out 2
                      have hfz43_3 := blk_frozen BK136.out 3
                      have hfz43_4 := blk_frozen BK136.out 4
                      have hfz43_5 := blk_frozen BK136.out 5
                      have hfz43_6 := blk_frozen BK136.out 6
                      have hfz43_7 := blk_frozen BK136.out 7
                      go_wp2_with (first | ((with_reducible refine gate_callee (f := 89) rfl ?_); refine goesL_ (some 47) rfl rfl Try.func89 (by kernel_rfl) rfl #[.agg #[.int .i64 ((rd_T91 l0 x10_1).f0), .int .i64 ((rd_T91 l0 x10_1).f1), .int .i64 ((rd_T91 l0 x10_1).f2), .int .i64 ((rd_T91 l0 x10_1).f3), .bool ((rd_T91 l0 x10_1).f4), .bool ((rd_T91 l0 x10_1).f5), .slice A135_6 ((rd_T91 l0 x10_1).f6).length c135_6, .slice A135_7 ((rd_T91 l0 x10_1).f7).length c135_7]] rfl (by (try simp only [List.map_toArray, List.map_cons, List.map_nil]); first | done | rfl | (simp only [List.length_drop, List.length_take]; rfl)) ?_; (with_reducible refine (assartref34_stores.calls ((rd_T91 l0 x10_1).f0) ((rd_T91 l0 x10_1).f1) ((rd_T91 l0 x10_1).f2) ((rd_T91 l0 x10_1).f3) ((rd_T91 l0 x10_1).f4) ((rd_T91 l0 x10_1).f5) _ _ ((rd_T91 l0 x10_1).f6) _ _ ((rd_T91 l0 x10_1).f7) true _ ?side1 ?side2 ?side3 ?side4 A32.out).mono ?_); (case side1 => repeat (first | exact (Kd.C_below HR135_6.out HB.out) | (with_reducible refine Kd.C_alloc ?_ _) | (with_reducible refine Kd.C_drewN ?_ _) | (with_reducible refine Kd.C_drew ?_))); (case side2 => exact HC135_6.out); (case side3 => repeat (first | exact (Kd.C_below HR135_7.out HB.out) | (with_reducible refine Kd.C_alloc ?_ _) | (with_reducible refine Kd.C_drewN ?_ _) | (with_reducible refine Kd.C_drew ?_))); (case side4 => exact HC135_7.out); rintro e w44 ⟨rfl, hb⟩; refine ⟨_, rfl, ?_⟩; have n0_ := Aside0.mk (blk_below (g := gb136) (o := .cells #[.int .i64 ((rd_T91 l0 x10_1).f0), .int .i64 ((rd_T91 l0 x10_1).f1), .int .i64 ((rd_T91 l0 x10_1).f2), .int .i64 ((rd_T91 l0 x10_1).f3), .bool ((rd_T91 l0 x10_1).f4), .bool ((rd_T91 l0 x10_1).f5), .slice A135_6 ((rd_T91 l0 x10_1).f6).length c135_6, .slice A135_7 ((rd_T91 l0 x10_1).f7).length c135_7] 91 (0, 0)) (by (with_reducible repeat (first | refine blk_drewN ?_ _ | refine blk_drew ?_ | refine blk_alloc ?_ _)); exact BK136.out) hb); have n1_ := Aside0.mk (below_step (by repeat (first | (with_reducible first | exact HB.out | apply below_alloc | apply pw_below_drewN | apply below_drew1 | refine below_set ?_ GE136.out) | exact HB.out)) hb); clear BK136; clear HB; have BK136 := n0_; have HB := n1_; clear n0_ n1_; (try clear hb); (try clear hb2); (try clear hk); (try clear hi); have hcz45_0 : w44.cell? ⟨gb136, 0, none⟩ = some (.int .i64 ((rd_T91 l0 x10_1).f0)) := (blk_cell BK136.out 0).trans rfl; have hcz45_1 : w44.cell? ⟨gb136, 1, none⟩ = some (.int .i64 ((rd_T91 l0 x10_1).f1)) := (blk_cell BK136.out 1).trans rfl; have hcz45_2 : w44.cell? ⟨gb136, 2, none⟩ = some (.int .i64 ((rd_T91 l0 x10_1).f2)) := (blk_cell BK136.out 2).trans rfl; have hcz45_3 : w44.cell? ⟨gb136, 3, none⟩ = some (.int .i64 ((rd_T91 l0 x10_1).f3)) := (blk_cell BK136.out 3).trans rfl; have hcz45_4 : w44.cell? ⟨gb136, 4, none⟩ = some (.bool ((rd_T91 l0 x10_1).f4)) := (blk_cell BK136.out 4).trans rfl; have hcz45_5 : w44.cell? ⟨gb136, 5, none⟩ = some (.bool ((rd_T91 l0 x10_1).f5)) := (blk_cell BK136.out 5).trans rfl; have hcz45_6 : w44.cell? ⟨gb136, 6, none⟩ = some (.slice A135_6 ((rd_T91 l0 x10_1).f6).length c135_6) := (blk_cell BK136.out 6).trans rfl; have hcz45_7 : w44.cell? ⟨gb136, 7, none⟩ = some (.slice A135_7 ((rd_T91 l0 x10_1).f7).length c135_7) := (blk_cell BK136.out 7).trans rfl; have hfz45_0 := blk_frozen BK136.out 0; have hfz45_1 := blk_frozen BK136.out 1; have hfz45_2 := blk_frozen BK136.out 2; have hfz45_3 := blk_frozen BK136.out 3; have hfz45_4 := blk_frozen BK136.out 4; have hfz45_5 := blk_frozen BK136.out 5; have hfz45_6 := blk_frozen BK136.out 6; have hfz45_7 := blk_frozen BK136.out 7))
                      go_roundg kj5
                      case measure => have := HK1.out; have := HJ5.out; omega
                      case rel => exact ⟨(((rd_T91 l0 x10_1).f2)), (true), (wrap64 (x10_1 + 1)), (by first | rfl | (simp; done) | (simp [*]; done)), (by first | rfl | (simp; done) | (simp [*]; done)), (by first | rfl | (simp; done) | (simp [*]; done)), H', ⟨by have := HK1.out; have := HJ5.out; omega⟩, ⟨by repeat (first | (with_reducible first | exact HB.out | apply below_alloc | apply pw_below_drewN | apply below_drew1 | refine below_set ?_ GE136.out) | exact HB.out)⟩⟩
                  · replace c34 := Bool.eq_false_iff.mpr c34
                    subst c34
                    have H1 : (if ((rd_T91 l0 x10_1).f3) < ((rd_T91 l0 x10_1).f2) then (assartref34_next.l0 kj5 l0 a1 false ((rd_T91 l0 x10_1).f3) true (wrap64 (x10_1 + 1))) else (assartref34_next.l0 kj5 l0 a1 false ((rd_T91 l0 x10_1).f2) true (wrap64 (x10_1 + 1)))) = some (r1, r2) := by rw [if_neg (show ¬ (false = true) by decide)] at H; exact H
                    clear H
                    have H := H1
                    clear H1
                    by_cases c46 : ((rd_T91 l0 x10_1).f3) < ((rd_T91 l0 x10_1).f2)
                    · rw [if_pos c46] at H
                      have c46b0 : decide (((rd_T91 l0 x10_1).f3) < ((rd_T91 l0 x10_1).f2)) = true := decide_eq_true c46
                      clear c46
                      have H' := Aside0.mk H
                      clear H
                      have hcz47_0 : wc.cell? ⟨gb136, 0, none⟩ = some (.int .i64 ((rd_T91 l0 x10_1).f0)) := (blk_cell BK136.out 0).trans rfl
                      have hcz47_1 : wc.cell? ⟨gb136, 1, none⟩ = some (.int .i64 ((rd_T91 l0 x10_1).f1)) := (blk_cell BK136.out 1).trans rfl
                      have hcz47_2 : wc.cell? ⟨gb136, 2, none⟩ = some (.int .i64 ((rd_T91 l0 x10_1).f2)) := (blk_cell BK136.out 2).trans rfl
                      have hcz47_3 : wc.cell? ⟨gb136, 3, none⟩ = some (.int .i64 ((rd_T91 l0 x10_1).f3)) := (blk_cell BK136.out 3).trans rfl
                      have hcz47_4 : wc.cell? ⟨gb136, 4, none⟩ = some (.bool ((rd_T91 l0 x10_1).f4)) := (blk_cell BK136.out 4).trans rfl
                      have hcz47_5 : wc.cell? ⟨gb136, 5, none⟩ = some (.bool ((rd_T91 l0 x10_1).f5)) := (blk_cell BK136.out 5).trans rfl
                      have hcz47_6 : wc.cell? ⟨gb136, 6, none⟩ = some (.slice A135_6 ((rd_T91 l0 x10_1).f6).length c135_6) := (blk_cell BK136.out 6).trans rfl
                      have hcz47_7 : wc.cell? ⟨gb136, 7, none⟩ = some (.slice A135_7 ((rd_T91 l0 x10_1).f7).length c135_7) := (blk_cell BK136.out 7).trans rfl
                      have hfz47_0 := blk_frozen BK136.out 0
                      have hfz47_1 := blk_frozen BK136.out 1
                      have hfz47_2 := blk_frozen BK136.out 2
                      have hfz47_3 := blk_frozen BK136.out 3
                      have hfz47_4 := blk_frozen BK136.out 4
                      have hfz47_5 := blk_frozen BK136.out 5
                      have hfz47_6 := blk_frozen BK136.out 6
                      have hfz47_7 := blk_frozen BK136.out 7
                      go_wp2_with (first | ((with_reducible refine gate_callee (f := 89) rfl ?_); refine goesL_ (some 47) rfl rfl Try.func89 (by kernel_rfl) rfl #[.agg #[.int .i64 ((rd_T91 l0 x10_1).f0), .int .i64 ((rd_T91 l0 x10_1).f1), .int .i64 ((rd_T91 l0 x10_1).f2), .int .i64 ((rd_T91 l0 x10_1).f3), .bool ((rd_T91 l0 x10_1).f4), .bool ((rd_T91 l0 x10_1).f5), .slice A135_6 ((rd_T91 l0 x10_1).f6).length c135_6, .slice A135_7 ((rd_T91 l0 x10_1).f7).length c135_7]] rfl (by (try simp only [List.map_toArray, List.map_cons, List.map_nil]); first | done | rfl | (simp only [List.length_drop, List.length_take]; rfl)) ?_; (with_reducible refine (assartref34_stores.calls ((rd_T91 l0 x10_1).f0) ((rd_T91 l0 x10_1).f1) ((rd_T91 l0 x10_1).f2) ((rd_T91 l0 x10_1).f3) ((rd_T91 l0 x10_1).f4) ((rd_T91 l0 x10_1).f5) _ _ ((rd_T91 l0 x10_1).f6) _ _ ((rd_T91 l0 x10_1).f7) true _ ?side1 ?side2 ?side3 ?side4 A32.out).mono ?_); (case side1 => repeat (first | exact (Kd.C_below HR135_6.out HB.out) | (with_reducible refine Kd.C_alloc ?_ _) | (with_reducible refine Kd.C_drewN ?_ _) | (with_reducible refine Kd.C_drew ?_))); (case side2 => exact HC135_6.out); (case side3 => repeat (first | exact (Kd.C_below HR135_7.out HB.out) | (with_reducible refine Kd.C_alloc ?_ _) | (with_reducible refine Kd.C_drewN ?_ _) | (with_reducible refine Kd.C_drew ?_))); (case side4 => exact HC135_7.out); rintro e w48 ⟨rfl, hb⟩; refine ⟨_, rfl, ?_⟩; have n0_ := Aside0.mk (blk_below (g := gb136) (o := .cells #[.int .i64 ((rd_T91 l0 x10_1).f0), .int .i64 ((rd_T91 l0 x10_1).f1), .int .i64 ((rd_T91 l0 x10_1).f2), .int .i64 ((rd_T91 l0 x10_1).f3), .bool ((rd_T91 l0 x10_1).f4), .bool ((rd_T91 l0 x10_1).f5), .slice A135_6 ((rd_T91 l0 x10_1).f6).length c135_6, .slice A135_7 ((rd_T91 l0 x10_1).f7).length c135_7] 91 (0, 0)) (by (with_reducible repeat (first | refine blk_drewN ?_ _ | refine blk_drew ?_ | refine blk_alloc ?_ _)); exact BK136.out) hb); have n1_ := Aside0.mk (below_step (by repeat (first | (with_reducible first | exact HB.out | apply below_alloc | apply pw_below_drewN | apply below_drew1 | refine below_set ?_ GE136.out) | exact HB.out)) hb); clear BK136; clear HB; have BK136 := n0_; have HB := n1_; clear n0_ n1_; (try clear hb); (try clear hb2); (try clear hk); (try clear hi); have hcz49_0 : w48.cell? ⟨gb136, 0, none⟩ = some (.int .i64 ((rd_T91 l0 x10_1).f0)) := (blk_cell BK136.out 0).trans rfl; have hcz49_1 : w48.cell? ⟨gb136, 1, none⟩ = some (.int .i64 ((rd_T91 l0 x10_1).f1)) := (blk_cell BK136.out 1).trans rfl; have hcz49_2 : w48.cell? ⟨gb136, 2, none⟩ = some (.int .i64 ((rd_T91 l0 x10_1).f2)) := (blk_cell BK136.out 2).trans rfl; have hcz49_3 : w48.cell? ⟨gb136, 3, none⟩ = some (.int .i64 ((rd_T91 l0 x10_1).f3)) := (blk_cell BK136.out 3).trans rfl; have hcz49_4 : w48.cell? ⟨gb136, 4, none⟩ = some (.bool ((rd_T91 l0 x10_1).f4)) := (blk_cell BK136.out 4).trans rfl; have hcz49_5 : w48.cell? ⟨gb136, 5, none⟩ = some (.bool ((rd_T91 l0 x10_1).f5)) := (blk_cell BK136.out 5).trans rfl; have hcz49_6 : w48.cell? ⟨gb136, 6, none⟩ = some (.slice A135_6 ((rd_T91 l0 x10_1).f6).length c135_6) := (blk_cell BK136.out 6).trans rfl; have hcz49_7 : w48.cell? ⟨gb136, 7, none⟩ = some (.slice A135_7 ((rd_T91 l0 x10_1).f7).length c135_7) := (blk_cell BK136.out 7).trans rfl; have hfz49_0 := blk_frozen BK136.out 0; have hfz49_1 := blk_frozen BK136.out 1; have hfz49_2 := blk_frozen BK136.out 2; have hfz49_3 := blk_frozen BK136.out 3; have hfz49_4 := blk_frozen BK136.out 4; have hfz49_5 := blk_frozen BK136.out 5; have hfz49_6 := blk_frozen BK136.out 6; have hfz49_7 := blk_frozen BK136.out 7))
                      go_roundg kj5
                      case measure => have := HK1.out; have := HJ5.out; omega
                      case rel => exact ⟨(((rd_T91 l0 x10_1).f3)), (true), (wrap64 (x10_1 + 1)), (by first | rfl | (simp; done) | (simp [*]; done)), (by first | rfl | (simp; done) | (simp [*]; done)), (by first | rfl | (simp; done) | (simp [*]; done)), H', ⟨by have := HK1.out; have := HJ5.out; omega⟩, ⟨by repeat (first | (with_reducible first | exact HB.out | apply below_alloc | apply pw_below_drewN | apply below_drew1 | refine below_set ?_ GE136.out) | exact HB.out)⟩⟩
                    · rw [if_neg c46] at H
                      have c46b0 : decide (((rd_T91 l0 x10_1).f3) < ((rd_T91 l0 x10_1).f2)) = false := decide_eq_false c46
                      clear c46
                      have H' := Aside0.mk H
                      clear H
                      have hcz50_0 : wc.cell? ⟨gb136, 0, none⟩ = some (.int .i64 ((rd_T91 l0 x10_1).f0)) := (blk_cell BK136.out 0).trans rfl
                      have hcz50_1 : wc.cell? ⟨gb136, 1, none⟩ = some (.int .i64 ((rd_T91 l0 x10_1).f1)) := (blk_cell BK136.out 1).trans rfl
                      have hcz50_2 : wc.cell? ⟨gb136, 2, none⟩ = some (.int .i64 ((rd_T91 l0 x10_1).f2)) := (blk_cell BK136.out 2).trans rfl
                      have hcz50_3 : wc.cell? ⟨gb136, 3, none⟩ = some (.int .i64 ((rd_T91 l0 x10_1).f3)) := (blk_cell BK136.out 3).trans rfl
                      have hcz50_4 : wc.cell? ⟨gb136, 4, none⟩ = some (.bool ((rd_T91 l0 x10_1).f4)) := (blk_cell BK136.out 4).trans rfl
                      have hcz50_5 : wc.cell? ⟨gb136, 5, none⟩ = some (.bool ((rd_T91 l0 x10_1).f5)) := (blk_cell BK136.out 5).trans rfl
                      have hcz50_6 : wc.cell? ⟨gb136, 6, none⟩ = some (.slice A135_6 ((rd_T91 l0 x10_1).f6).length c135_6) := (blk_cell BK136.out 6).trans rfl
                      have hcz50_7 : wc.cell? ⟨gb136, 7, none⟩ = some (.slice A135_7 ((rd_T91 l0 x10_1).f7).length c135_7) := (blk_cell BK136.out 7).trans rfl
                      have hfz50_0 := blk_frozen BK136.out 0
                      have hfz50_1 := blk_frozen BK136.out 1
                      have hfz50_2 := blk_frozen BK136.out 2
                      have hfz50_3 := blk_frozen BK136.out 3
                      have hfz50_4 := blk_frozen BK136.out 4
                      have hfz50_5 := blk_frozen BK136.out 5
                      have hfz50_6 := blk_frozen BK136.out 6
                      have hfz50_7 := blk_frozen BK136.out 7
                      go_wp2_with (first | ((with_reducible refine gate_callee (f := 89) rfl ?_); refine goesL_ (some 47) rfl rfl Try.func89 (by kernel_rfl) rfl #[.agg #[.int .i64 ((rd_T91 l0 x10_1).f0), .int .i64 ((rd_T91 l0 x10_1).f1), .int .i64 ((rd_T91 l0 x10_1).f2), .int .i64 ((rd_T91 l0 x10_1).f3), .bool ((rd_T91 l0 x10_1).f4), .bool ((rd_T91 l0 x10_1).f5), .slice A135_6 ((rd_T91 l0 x10_1).f6).length c135_6, .slice A135_7 ((rd_T91 l0 x10_1).f7).length c135_7]] rfl (by (try simp only [List.map_toArray, List.map_cons, List.map_nil]); first | done | rfl | (simp only [List.length_drop, List.length_take]; rfl)) ?_; (with_reducible refine (assartref34_stores.calls ((rd_T91 l0 x10_1).f0) ((rd_T91 l0 x10_1).f1) ((rd_T91 l0 x10_1).f2) ((rd_T91 l0 x10_1).f3) ((rd_T91 l0 x10_1).f4) ((rd_T91 l0 x10_1).f5) _ _ ((rd_T91 l0 x10_1).f6) _ _ ((rd_T91 l0 x10_1).f7) true _ ?side1 ?side2 ?side3 ?side4 A32.out).mono ?_); (case side1 => repeat (first | exact (Kd.C_below HR135_6.out HB.out) | (with_reducible refine Kd.C_alloc ?_ _) | (with_reducible refine Kd.C_drewN ?_ _) | (with_reducible refine Kd.C_drew ?_))); (case side2 => exact HC135_6.out); (case side3 => repeat (first | exact (Kd.C_below HR135_7.out HB.out) | (with_reducible refine Kd.C_alloc ?_ _) | (with_reducible refine Kd.C_drewN ?_ _) | (with_reducible refine Kd.C_drew ?_))); (case side4 => exact HC135_7.out); rintro e w51 ⟨rfl, hb⟩; refine ⟨_, rfl, ?_⟩; have n0_ := Aside0.mk (blk_below (g := gb136) (o := .cells #[.int .i64 ((rd_T91 l0 x10_1).f0), .int .i64 ((rd_T91 l0 x10_1).f1), .int .i64 ((rd_T91 l0 x10_1).f2), .int .i64 ((rd_T91 l0 x10_1).f3), .bool ((rd_T91 l0 x10_1).f4), .bool ((rd_T91 l0 x10_1).f5), .slice A135_6 ((rd_T91 l0 x10_1).f6).length c135_6, .slice A135_7 ((rd_T91 l0 x10_1).f7).length c135_7] 91 (0, 0)) (by (with_reducible repeat (first | refine blk_drewN ?_ _ | refine blk_drew ?_ | refine blk_alloc ?_ _)); exact BK136.out) hb); have n1_ := Aside0.mk (below_step (by repeat (first | (with_reducible first | exact HB.out | apply below_alloc | apply pw_below_drewN | apply below_drew1 | refine below_set ?_ GE136.out) | exact HB.out)) hb); clear BK136; clear HB; have BK136 := n0_; have HB := n1_; clear n0_ n1_; (try clear hb); (try clear hb2); (try clear hk); (try clear hi); have hcz52_0 : w51.cell? ⟨gb136, 0, none⟩ = some (.int .i64 ((rd_T91 l0 x10_1).f0)) := (blk_cell BK136.out 0).trans rfl; have hcz52_1 : w51.cell? ⟨gb136, 1, none⟩ = some (.int .i64 ((rd_T91 l0 x10_1).f1)) := (blk_cell BK136.out 1).trans rfl; have hcz52_2 : w51.cell? ⟨gb136, 2, none⟩ = some (.int .i64 ((rd_T91 l0 x10_1).f2)) := (blk_cell BK136.out 2).trans rfl; have hcz52_3 : w51.cell? ⟨gb136, 3, none⟩ = some (.int .i64 ((rd_T91 l0 x10_1).f3)) := (blk_cell BK136.out 3).trans rfl; have hcz52_4 : w51.cell? ⟨gb136, 4, none⟩ = some (.bool ((rd_T91 l0 x10_1).f4)) := (blk_cell BK136.out 4).trans rfl; have hcz52_5 : w51.cell? ⟨gb136, 5, none⟩ = some (.bool ((rd_T91 l0 x10_1).f5)) := (blk_cell BK136.out 5).trans rfl; have hcz52_6 : w51.cell? ⟨gb136, 6, none⟩ = some (.slice A135_6 ((rd_T91 l0 x10_1).f6).length c135_6) := (blk_cell BK136.out 6).trans rfl; have hcz52_7 : w51.cell? ⟨gb136, 7, none⟩ = some (.slice A135_7 ((rd_T91 l0 x10_1).f7).length c135_7) := (blk_cell BK136.out 7).trans rfl; have hfz52_0 := blk_frozen BK136.out 0; have hfz52_1 := blk_frozen BK136.out 1; have hfz52_2 := blk_frozen BK136.out 2; have hfz52_3 := blk_frozen BK136.out 3; have hfz52_4 := blk_frozen BK136.out 4; have hfz52_5 := blk_frozen BK136.out 5; have hfz52_6 := blk_frozen BK136.out 6; have hfz52_7 := blk_frozen BK136.out 7))
                      go_roundg kj5
                      case measure => have := HK1.out; have := HJ5.out; omega
                      case rel => exact ⟨(((rd_T91 l0 x10_1).f2)), (true), (wrap64 (x10_1 + 1)), (by first | rfl | (simp; done) | (simp [*]; done)), (by first | rfl | (simp; done) | (simp [*]; done)), (by first | rfl | (simp; done) | (simp [*]; done)), H', ⟨by have := HK1.out; have := HJ5.out; omega⟩, ⟨by repeat (first | (with_reducible first | exact HB.out | apply below_alloc | apply pw_below_drewN | apply below_drew1 | refine below_set ?_ GE136.out) | exact HB.out)⟩⟩
                · replace c33 := Bool.eq_false_iff.mpr c33
                  subst c33
                  have H1 : (assartref34_next.l0 kj5 l0 a1 a2 ((rd_T91 l0 x10_1).f2) true (wrap64 (x10_1 + 1))) = some (r1, r2) := by rw [if_neg (show ¬ (false = true) by decide)] at H; exact H
                  clear H
                  have H := H1
                  clear H1
                  have H' := Aside0.mk H
                  clear H
                  have hcz53_0 : wc.cell? ⟨gb136, 0, none⟩ = some (.int .i64 ((rd_T91 l0 x10_1).f0)) := (blk_cell BK136.out 0).trans rfl
                  have hcz53_1 : wc.cell? ⟨gb136, 1, none⟩ = some (.int .i64 ((rd_T91 l0 x10_1).f1)) := (blk_cell BK136.out 1).trans rfl
                  have hcz53_2 : wc.cell? ⟨gb136, 2, none⟩ = some (.int .i64 ((rd_T91 l0 x10_1).f2)) := (blk_cell BK136.out 2).trans rfl
                  have hcz53_3 : wc.cell? ⟨gb136, 3, none⟩ = some (.int .i64 ((rd_T91 l0 x10_1).f3)) := (blk_cell BK136.out 3).trans rfl
                  have hcz53_4 : wc.cell? ⟨gb136, 4, none⟩ = some (.bool ((rd_T91 l0 x10_1).f4)) := (blk_cell BK136.out 4).trans rfl
                  have hcz53_5 : wc.cell? ⟨gb136, 5, none⟩ = some (.bool ((rd_T91 l0 x10_1).f5)) := (blk_cell BK136.out 5).trans rfl
                  have hcz53_6 : wc.cell? ⟨gb136, 6, none⟩ = some (.slice A135_6 ((rd_T91 l0 x10_1).f6).length c135_6) := (blk_cell BK136.out 6).trans rfl
                  have hcz53_7 : wc.cell? ⟨gb136, 7, none⟩ = some (.slice A135_7 ((rd_T91 l0 x10_1).f7).length c135_7) := (blk_cell BK136.out 7).trans rfl
                  have hfz53_0 := blk_frozen BK136.out 0
                  have hfz53_1 := blk_frozen BK136.out 1
                  have hfz53_2 := blk_frozen BK136.out 2
                  have hfz53_3 := blk_frozen BK136.out 3
                  have hfz53_4 := blk_frozen BK136.out 4
                  have hfz53_5 := blk_frozen BK136.out 5
                  have hfz53_6 := blk_frozen BK136.out 6
                  have hfz53_7 := blk_frozen BK136.out 7
                  go_wp2_with (first | ((with_reducible refine gate_callee (f := 89) rfl ?_); refine goesL_ (some 47) rfl rfl Try.func89 (by kernel_rfl) rfl #[.agg #[.int .i64 ((rd_T91 l0 x10_1).f0), .int .i64 ((rd_T91 l0 x10_1).f1), .int .i64 ((rd_T91 l0 x10_1).f2), .int .i64 ((rd_T91 l0 x10_1).f3), .bool ((rd_T91 l0 x10_1).f4), .bool ((rd_T91 l0 x10_1).f5), .slice A135_6 ((rd_T91 l0 x10_1).f6).length c135_6, .slice A135_7 ((rd_T91 l0 x10_1).f7).length c135_7]] rfl (by (try simp only [List.map_toArray, List.map_cons, List.map_nil]); first | done | rfl | (simp only [List.length_drop, List.length_take]; rfl)) ?_; (with_reducible refine (assartref34_stores.calls ((rd_T91 l0 x10_1).f0) ((rd_T91 l0 x10_1).f1) ((rd_T91 l0 x10_1).f2) ((rd_T91 l0 x10_1).f3) ((rd_T91 l0 x10_1).f4) ((rd_T91 l0 x10_1).f5) _ _ ((rd_T91 l0 x10_1).f6) _ _ ((rd_T91 l0 x10_1).f7) false _ ?side1 ?side2 ?side3 ?side4 A32.out).mono ?_); (case side1 => repeat (first | exact (Kd.C_below HR135_6.out HB.out) | (with_reducible refine Kd.C_alloc ?_ _) | (with_reducible refine Kd.C_drewN ?_ _) | (with_reducible refine Kd.C_drew ?_))); (case side2 => exact HC135_6.out); (case side3 => repeat (first | exact (Kd.C_below HR135_7.out HB.out) | (with_reducible refine Kd.C_alloc ?_ _) | (with_reducible refine Kd.C_drewN ?_ _) | (with_reducible refine Kd.C_drew ?_))); (case side4 => exact HC135_7.out); rintro e w54 ⟨rfl, hb⟩; refine ⟨_, rfl, ?_⟩; have n0_ := Aside0.mk (blk_below (g := gb136) (o := .cells #[.int .i64 ((rd_T91 l0 x10_1).f0), .int .i64 ((rd_T91 l0 x10_1).f1), .int .i64 ((rd_T91 l0 x10_1).f2), .int .i64 ((rd_T91 l0 x10_1).f3), .bool ((rd_T91 l0 x10_1).f4), .bool ((rd_T91 l0 x10_1).f5), .slice A135_6 ((rd_T91 l0 x10_1).f6).length c135_6, .slice A135_7 ((rd_T91 l0 x10_1).f7).length c135_7] 91 (0, 0)) (by (with_reducible repeat (first | refine blk_drewN ?_ _ | refine blk_drew ?_ | refine blk_alloc ?_ _)); exact BK136.out) hb); have n1_ := Aside0.mk (below_step (by repeat (first | (with_reducible first | exact HB.out | apply below_alloc | apply pw_below_drewN | apply below_drew1 | refine below_set ?_ GE136.out) | exact HB.out)) hb); clear BK136; clear HB; have BK136 := n0_; have HB := n1_; clear n0_ n1_; (try clear hb); (try clear hb2); (try clear hk); (try clear hi)))
                  go_roundg kj5
                  case measure => have := HK1.out; have := HJ5.out; omega
                  case rel => exact ⟨(((rd_T91 l0 x10_1).f2)), (true), (wrap64 (x10_1 + 1)), (by first | rfl | (simp; done) | (simp [*]; done)), (by first | rfl | (simp; done) | (simp [*]; done)), (by first | rfl | (simp; done) | (simp [*]; done)), H', ⟨by have := HK1.out; have := HJ5.out; omega⟩, ⟨by repeat (first | (with_reducible first | exact HB.out | apply below_alloc | apply pw_below_drewN | apply below_drew1 | refine below_set ?_ GE136.out) | exact HB.out)⟩⟩
              · replace c31 := Bool.eq_false_iff.mpr c31
                subst c31
                have H1 : ((assartref34_stores.f ((rd_T91 l0 x10_1).f0) ((rd_T91 l0 x10_1).f1) ((rd_T91 l0 x10_1).f2) ((rd_T91 l0 x10_1).f3) ((rd_T91 l0 x10_1).f4) ((rd_T91 l0 x10_1).f5) ((rd_T91 l0 x10_1).f6) ((rd_T91 l0 x10_1).f7)).bind fun t139 => (if t139 = true then (if a2 = true then (if ((rd_T91 l0 x10_1).f3) > a1 then (if x9_1 = true then (if ((rd_T91 l0 x10_1).f3) < x8_1 then (assartref34_next.l0 kj5 l0 a1 a2 ((rd_T91 l0 x10_1).f3) true (wrap64 (x10_1 + 1))) else (assartref34_next.l0 kj5 l0 a1 a2 x8_1 x9_1 (wrap64 (x10_1 + 1)))) else (assartref34_next.l0 kj5 l0 a1 a2 ((rd_T91 l0 x10_1).f3) true (wrap64 (x10_1 + 1)))) else (assartref34_next.l0 kj5 l0 a1 a2 x8_1 x9_1 (wrap64 (x10_1 + 1)))) else (if x9_1 = true then (if ((rd_T91 l0 x10_1).f3) < x8_1 then (assartref34_next.l0 kj5 l0 a1 a2 ((rd_T91 l0 x10_1).f3) true (wrap64 (x10_1 + 1))) else (assartref34_next.l0 kj5 l0 a1 a2 x8_1 x9_1 (wrap64 (x10_1 + 1)))) else (assartref34_next.l0 kj5 l0 a1 a2 ((rd_T91 l0 x10_1).f3) true (wrap64 (x10_1 + 1))))) else (assartref34_next.l0 kj5 l0 a1 a2 x8_1 x9_1 (wrap64 (x10_1 + 1))))) = some (r1, r2) := by rw [if_neg (show ¬ (false = true) by decide)] at H; exact H
                clear H
                have H := H1
                clear H1
                replace H := Option.bind_eq_some_iff.mp H
                obtain ⟨t139, A550, H⟩ := H
                replace H : (if t139 = true then (if a2 = true then (if ((rd_T91 l0 x10_1).f3) > a1 then (if x9_1 = true then (if ((rd_T91 l0 x10_1).f3) < x8_1 then (assartref34_next.l0 kj5 l0 a1 a2 ((rd_T91 l0 x10_1).f3) true (wrap64 (x10_1 + 1))) else (assartref34_next.l0 kj5 l0 a1 a2 x8_1 x9_1 (wrap64 (x10_1 + 1)))) else (assartref34_next.l0 kj5 l0 a1 a2 ((rd_T91 l0 x10_1).f3) true (wrap64 (x10_1 + 1)))) else (assartref34_next.l0 kj5 l0 a1 a2 x8_1 x9_1 (wrap64 (x10_1 + 1)))) else (if x9_1 = true then (if ((rd_T91 l0 x10_1).f3) < x8_1 then (assartref34_next.l0 kj5 l0 a1 a2 ((rd_T91 l0 x10_1).f3) true (wrap64 (x10_1 + 1))) else (assartref34_next.l0 kj5 l0 a1 a2 x8_1 x9_1 (wrap64 (x10_1 + 1)))) else (assartref34_next.l0 kj5 l0 a1 a2 ((rd_T91 l0 x10_1).f3) true (wrap64 (x10_1 + 1))))) else (assartref34_next.l0 kj5 l0 a1 a2 x8_1 x9_1 (wrap64 (x10_1 + 1)))) = some (r1, r2) := H
                have A55 := Aside0.mk A550
                clear A550
                by_cases c56 : t139 = true
                · subst c56
                  have H1 : (if a2 = true then (if ((rd_T91 l0 x10_1).f3) > a1 then (if x9_1 = true then (if ((rd_T91 l0 x10_1).f3) < x8_1 then (assartref34_next.l0 kj5 l0 a1 a2 ((rd_T91 l0 x10_1).f3) true (wrap64 (x10_1 + 1))) else (assartref34_next.l0 kj5 l0 a1 a2 x8_1 x9_1 (wrap64 (x10_1 + 1)))) else (assartref34_next.l0 kj5 l0 a1 a2 ((rd_T91 l0 x10_1).f3) true (wrap64 (x10_1 + 1)))) else (assartref34_next.l0 kj5 l0 a1 a2 x8_1 x9_1 (wrap64 (x10_1 + 1)))) else (if x9_1 = true then (if ((rd_T91 l0 x10_1).f3) < x8_1 then (assartref34_next.l0 kj5 l0 a1 a2 ((rd_T91 l0 x10_1).f3) true (wrap64 (x10_1 + 1))) else (assartref34_next.l0 kj5 l0 a1 a2 x8_1 x9_1 (wrap64 (x10_1 + 1)))) else (assartref34_next.l0 kj5 l0 a1 a2 ((rd_T91 l0 x10_1).f3) true (wrap64 (x10_1 + 1))))) = some (r1, r2) := by rw [if_pos rfl] at H; exact H
                  clear H
                  have H := H1
                  clear H1
                  by_cases c57 : a2 = true
                  · subst c57
                    have H1 : (if ((rd_T91 l0 x10_1).f3) > a1 then (if x9_1 = true then (if ((rd_T91 l0 x10_1).f3) < x8_1 then (assartref34_next.l0 kj5 l0 a1 true ((rd_T91 l0 x10_1).f3) true (wrap64 (x10_1 + 1))) else (assartref34_next.l0 kj5 l0 a1 true x8_1 x9_1 (wrap64 (x10_1 + 1)))) else (assartref34_next.l0 kj5 l0 a1 true ((rd_T91 l0 x10_1).f3) true (wrap64 (x10_1 + 1)))) else (assartref34_next.l0 kj5 l0 a1 true x8_1 x9_1 (wrap64 (x10_1 + 1)))) = some (r1, r2) := by rw [if_pos rfl] at H; exact H
                    clear H
                    have H := H1
                    clear H1
                    by_cases c58 : ((rd_T91 l0 x10_1).f3) > a1
                    · rw [if_pos c58] at H
                      have c58b0 : decide (a1 < ((rd_T91 l0 x10_1).f3)) = true := decide_eq_true c58
                      clear c58
                      by_cases c59 : x9_1 = true
                      · subst c59
                        have H1 : (if ((rd_T91 l0 x10_1).f3) < x8_1 then (assartref34_next.l0 kj5 l0 a1 true ((rd_T91 l0 x10_1).f3) true (wrap64 (x10_1 + 1))) else (assartref34_next.l0 kj5 l0 a1 true x8_1 true (wrap64 (x10_1 + 1)))) = some (r1, r2) := by rw [if_pos rfl] at H; exact H
                        clear H
                        have H := H1
                        clear H1
                        by_cases c60 : ((rd_T91 l0 x10_1).f3) < x8_1
                        · rw [if_pos c60] at H
                          have c60b0 : decide (((rd_T91 l0 x10_1).f3) < x8_1) = true := decide_eq_true c60
                          clear c60
                          have H' := Aside0.mk H
                          clear H
                          have hcz61_0 : wc.cell? ⟨gb136, 0, none⟩ = some (.int .i64 ((rd_T91 l0 x10_1).f0)) := (blk_cell BK136.out 0).trans rfl
                          have hcz61_1 : wc.cell? ⟨gb136, 1, none⟩ = some (.int .i64 ((rd_T91 l0 x10_1).f1)) := (blk_cell BK136.out 1).trans rfl
                          have hcz61_2 : wc.cell? ⟨gb136, 2, none⟩ = some (.int .i64 ((rd_T91 l0 x10_1).f2)) := (blk_cell BK136.out 2).trans rfl
                          have hcz61_3 : wc.cell? ⟨gb136, 3, none⟩ = some (.int .i64 ((rd_T91 l0 x10_1).f3)) := (blk_cell BK136.out 3).trans rfl
                          have hcz61_4 : wc.cell? ⟨gb136, 4, none⟩ = some (.bool ((rd_T91 l0 x10_1).f4)) := (blk_cell BK136.out 4).trans rfl
                          have hcz61_5 : wc.cell? ⟨gb136, 5, none⟩ = some (.bool ((rd_T91 l0 x10_1).f5)) := (blk_cell BK136.out 5).trans rfl
                          have hcz61_6 : wc.cell? ⟨gb136, 6, none⟩ = some (.slice A135_6 ((rd_T91 l0 x10_1).f6).length c135_6) := (blk_cell BK136.out 6).trans rfl
                          have hcz61_7 : wc.cell? ⟨gb136, 7, none⟩ = some (.slice A135_7 ((rd_T91 l0 x10_1).f7).length c135_7) := (blk_cell BK136.out 7).trans rfl
                          have hfz61_0 := blk_frozen BK136.out 0
                          have hfz61_1 := blk_frozen BK136.out 1
                          have hfz61_2 := blk_frozen BK136.out 2
                          have hfz61_3 := blk_frozen BK136.out 3
                          have hfz61_4 := blk_frozen BK136.out 4
                          have hfz61_5 := blk_frozen BK136.out 5
                          have hfz61_6 := blk_frozen BK136.out 6
                          have hfz61_7 := blk_frozen BK136.out 7
                          go_wp2_with (first | ((with_reducible refine gate_callee (f := 89) rfl ?_); refine goesL_ (some 47) rfl rfl Try.func89 (by kernel_rfl) rfl #[.agg #[.int .i64 ((rd_T91 l0 x10_1).f0), .int .i64 ((rd_T91 l0 x10_1).f1), .int .i64 ((rd_T91 l0 x10_1).f2), .int .i64 ((rd_T91 l0 x10_1).f3), .bool ((rd_T91 l0 x10_1).f4), .bool ((rd_T91 l0 x10_1).f5), .slice A135_6 ((rd_T91 l0 x10_1).f6).length c135_6, .slice A135_7 ((rd_T91 l0 x10_1).f7).length c135_7]] rfl (by (try simp only [List.map_toArray, List.map_cons, List.map_nil]); first | done | rfl | (simp only [List.length_drop, List.length_take]; rfl)) ?_; (with_reducible refine (assartref34_stores.calls ((rd_T91 l0 x10_1).f0) ((rd_T91 l0 x10_1).f1) ((rd_T91 l0 x10_1).f2) ((rd_T91 l0 x10_1).f3) ((rd_T91 l0 x10_1).f4) ((rd_T91 l0 x10_1).f5) _ _ ((rd_T91 l0 x10_1).f6) _ _ ((rd_T91 l0 x10_1).f7) true _ ?side1 ?side2 ?side3 ?side4 A55.out).mono ?_); (case side1 => repeat (first | exact (Kd.C_below HR135_6.out HB.out) | (with_reducible refine Kd.C_alloc ?_ _) | (with_reducible refine Kd.C_drewN ?_ _) | (with_reducible refine Kd.C_drew ?_))); (case side2 => exact HC135_6.out); (case side3 => repeat (first | exact (Kd.C_below HR135_7.out HB.out) | (with_reducible refine Kd.C_alloc ?_ _) | (with_reducible refine Kd.C_drewN ?_ _) | (with_reducible refine Kd.C_drew ?_))); (case side4 => exact HC135_7.out); rintro e w62 ⟨rfl, hb⟩; refine ⟨_, rfl, ?_⟩; have n0_ := Aside0.mk (blk_below (g := gb136) (o := .cells #[.int .i64 ((rd_T91 l0 x10_1).f0), .int .i64 ((rd_T91 l0 x10_1).f1), .int .i64 ((rd_T91 l0 x10_1).f2), .int .i64 ((rd_T91 l0 x10_1).f3), .bool ((rd_T91 l0 x10_1).f4), .bool ((rd_T91 l0 x10_1).f5), .slice A135_6 ((rd_T91 l0 x10_1).f6).length c135_6, .slice A135_7 ((rd_T91 l0 x10_1).f7).length c135_7] 91 (0, 0)) (by (with_reducible repeat (first | refine blk_drewN ?_ _ | refine blk_drew ?_ | refine blk_alloc ?_ _)); exact BK136.out) hb); have n1_ := Aside0.mk (below_step (by repeat (first | (with_reducible first | exact HB.out | apply below_alloc | apply pw_below_drewN | apply below_drew1 | refine below_set ?_ GE136.out) | exact HB.out)) hb); clear BK136; clear HB; have BK136 := n0_; have HB := n1_; clear n0_ n1_; (try clear hb); (try clear hb2); (try clear hk); (try clear hi); have hcz63_0 : w62.cell? ⟨gb136, 0, none⟩ = some (.int .i64 ((rd_T91 l0 x10_1).f0)) := (blk_cell BK136.out 0).trans rfl; have hcz63_1 : w62.cell? ⟨gb136, 1, none⟩ = some (.int .i64 ((rd_T91 l0 x10_1).f1)) := (blk_cell BK136.out 1).trans rfl; have hcz63_2 : w62.cell? ⟨gb136, 2, none⟩ = some (.int .i64 ((rd_T91 l0 x10_1).f2)) := (blk_cell BK136.out 2).trans rfl; have hcz63_3 : w62.cell? ⟨gb136, 3, none⟩ = some (.int .i64 ((rd_T91 l0 x10_1).f3)) := (blk_cell BK136.out 3).trans rfl; have hcz63_4 : w62.cell? ⟨gb136, 4, none⟩ = some (.bool ((rd_T91 l0 x10_1).f4)) := (blk_cell BK136.out 4).trans rfl; have hcz63_5 : w62.cell? ⟨gb136, 5, none⟩ = some (.bool ((rd_T91 l0 x10_1).f5)) := (blk_cell BK136.out 5).trans rfl; have hcz63_6 : w62.cell? ⟨gb136, 6, none⟩ = some (.slice A135_6 ((rd_T91 l0 x10_1).f6).length c135_6) := (blk_cell BK136.out 6).trans rfl; have hcz63_7 : w62.cell? ⟨gb136, 7, none⟩ = some (.slice A135_7 ((rd_T91 l0 x10_1).f7).length c135_7) := (blk_cell BK136.out 7).trans rfl; have hfz63_0 := blk_frozen BK136.out 0; have hfz63_1 := blk_frozen BK136.out 1; have hfz63_2 := blk_frozen BK136.out 2; have hfz63_3 := blk_frozen BK136.out 3; have hfz63_4 := blk_frozen BK136.out 4; have hfz63_5 := blk_frozen BK136.out 5; have hfz63_6 := blk_frozen BK136.out 6; have hfz63_7 := blk_frozen BK136.out 7))
                          go_roundg kj5
                          case measure => have := HK1.out; have := HJ5.out; omega
                          case rel => exact ⟨(((rd_T91 l0 x10_1).f3)), (true), (wrap64 (x10_1 + 1)), (by first | rfl | (simp; done) | (simp [*]; done)), (by first | rfl | (simp; done) | (simp [*]; done)), (by first | rfl | (simp; done) | (simp [*]; done)), H', ⟨by have := HK1.out; have := HJ5.out; omega⟩, ⟨by repeat (first | (with_reducible first | exact HB.out | apply below_alloc | apply pw_below_drewN | apply below_drew1 | refine below_set ?_ GE136.out) | exact HB.out)⟩⟩
                        · rw [if_neg c60] at H
                          have c60b0 : decide (((rd_T91 l0 x10_1).f3) < x8_1) = false := decide_eq_false c60
                          clear c60
                          have H' := Aside0.mk H
                          clear H
                          have hcz64_0 : wc.cell? ⟨gb136, 0, none⟩ = some (.int .i64 ((rd_T91 l0 x10_1).f0)) := (blk_cell BK136.out 0).trans rfl
                          have hcz64_1 : wc.cell? ⟨gb136, 1, none⟩ = some (.int .i64 ((rd_T91 l0 x10_1).f1)) := (blk_cell BK136.out 1).trans rfl
                          have hcz64_2 : wc.cell? ⟨gb136, 2, none⟩ = some (.int .i64 ((rd_T91 l0 x10_1).f2)) := (blk_cell BK136.out 2).trans rfl
                          have hcz64_3 : wc.cell? ⟨gb136, 3, none⟩ = some (.int .i64 ((rd_T91 l0 x10_1).f3)) := (blk_cell BK136.out 3).trans rfl
                          have hcz64_4 : wc.cell? ⟨gb136, 4, none⟩ = some (.bool ((rd_T91 l0 x10_1).f4)) := (blk_cell BK136.out 4).trans rfl
                          have hcz64_5 : wc.cell? ⟨gb136, 5, none⟩ = some (.bool ((rd_T91 l0 x10_1).f5)) := (blk_cell BK136.out 5).trans rfl
                          have hcz64_6 : wc.cell? ⟨gb136, 6, none⟩ = some (.slice A135_6 ((rd_T91 l0 x10_1).f6).length c135_6) := (blk_cell BK136.out 6).trans rfl
                          have hcz64_7 : wc.cell? ⟨gb136, 7, none⟩ = some (.slice A135_7 ((rd_T91 l0 x10_1).f7).length c135_7) := (blk_cell BK136.out 7).trans rfl
                          have hfz64_0 := blk_frozen BK136.out 0
                          have hfz64_1 := blk_frozen BK136.out 1
                          have hfz64_2 := blk_frozen BK136.out 2
                          have hfz64_3 := blk_frozen BK136.out 3
                          have hfz64_4 := blk_frozen BK136.out 4
                          have hfz64_5 := blk_frozen BK136.out 5
                          have hfz64_6 := blk_frozen BK136.out 6
                          have hfz64_7 := blk_frozen BK136.out 7
                          go_wp2_with (first | ((with_reducible refine gate_callee (f := 89) rfl ?_); refine goesL_ (some 47) rfl rfl Try.func89 (by kernel_rfl) rfl #[.agg #[.int .i64 ((rd_T91 l0 x10_1).f0), .int .i64 ((rd_T91 l0 x10_1).f1), .int .i64 ((rd_T91 l0 x10_1).f2), .int .i64 ((rd_T91 l0 x10_1).f3), .bool ((rd_T91 l0 x10_1).f4), .bool ((rd_T91 l0 x10_1).f5), .slice A135_6 ((rd_T91 l0 x10_1).f6).length c135_6, .slice A135_7 ((rd_T91 l0 x10_1).f7).length c135_7]] rfl (by (try simp only [List.map_toArray, List.map_cons, List.map_nil]); first | done | rfl | (simp only [List.length_drop, List.length_take]; rfl)) ?_; (with_reducible refine (assartref34_stores.calls ((rd_T91 l0 x10_1).f0) ((rd_T91 l0 x10_1).f1) ((rd_T91 l0 x10_1).f2) ((rd_T91 l0 x10_1).f3) ((rd_T91 l0 x10_1).f4) ((rd_T91 l0 x10_1).f5) _ _ ((rd_T91 l0 x10_1).f6) _ _ ((rd_T91 l0 x10_1).f7) true _ ?side1 ?side2 ?side3 ?side4 A55.out).mono ?_); (case side1 => repeat (first | exact (Kd.C_below HR135_6.out HB.out) | (with_reducible refine Kd.C_alloc ?_ _) | (with_reducible refine Kd.C_drewN ?_ _) | (with_reducible refine Kd.C_drew ?_))); (case side2 => exact HC135_6.out); (case side3 => repeat (first | exact (Kd.C_below HR135_7.out HB.out) | (with_reducible refine Kd.C_alloc ?_ _) | (with_reducible refine Kd.C_drewN ?_ _) | (with_reducible refine Kd.C_drew ?_))); (case side4 => exact HC135_7.out); rintro e w65 ⟨rfl, hb⟩; refine ⟨_, rfl, ?_⟩; have n0_ := Aside0.mk (blk_below (g := gb136) (o := .cells #[.int .i64 ((rd_T91 l0 x10_1).f0), .int .i64 ((rd_T91 l0 x10_1).f1), .int .i64 ((rd_T91 l0 x10_1).f2), .int .i64 ((rd_T91 l0 x10_1).f3), .bool ((rd_T91 l0 x10_1).f4), .bool ((rd_T91 l0 x10_1).f5), .slice A135_6 ((rd_T91 l0 x10_1).f6).length c135_6, .slice A135_7 ((rd_T91 l0 x10_1).f7).length c135_7] 91 (0, 0)) (by (with_reducible repeat (first | refine blk_drewN ?_ _ | refine blk_drew ?_ | refine blk_alloc ?_ _)); exact BK136.out) hb); have n1_ := Aside0.mk (below_step (by repeat (first | (with_reducible first | exact HB.out | apply below_alloc | apply pw_below_drewN | apply below_drew1 | refine below_set ?_ GE136.out) | exact HB.out)) hb); clear BK136; clear HB; have BK136 := n0_; have HB := n1_; clear n0_ n1_; (try clear hb); (try clear hb2); (try clear hk); (try clear hi); have hcz66_0 : w65.cell? ⟨gb136, 0, none⟩ = some (.int .i64 ((rd_T91 l0 x10_1).f0)) := (blk_cell BK136.out 0).trans rfl; have hcz66_1 : w65.cell? ⟨gb136, 1, none⟩ = some (.int .i64 ((rd_T91 l0 x10_1).f1)) := (blk_cell BK136.out 1).trans rfl; have hcz66_2 : w65.cell? ⟨gb136, 2, none⟩ = some (.int .i64 ((rd_T91 l0 x10_1).f2)) := (blk_cell BK136.out 2).trans rfl; have hcz66_3 : w65.cell? ⟨gb136, 3, none⟩ = some (.int .i64 ((rd_T91 l0 x10_1).f3)) := (blk_cell BK136.out 3).trans rfl; have hcz66_4 : w65.cell? ⟨gb136, 4, none⟩ = some (.bool ((rd_T91 l0 x10_1).f4)) := (blk_cell BK136.out 4).trans rfl; have hcz66_5 : w65.cell? ⟨gb136, 5, none⟩ = some (.bool ((rd_T91 l0 x10_1).f5)) := (blk_cell BK136.out 5).trans rfl; have hcz66_6 : w65.cell? ⟨gb136, 6, none⟩ = some (.slice A135_6 ((rd_T91 l0 x10_1).f6).length c135_6) := (blk_cell BK136.out 6).trans rfl; have hcz66_7 : w65.cell? ⟨gb136, 7, none⟩ = some (.slice A135_7 ((rd_T91 l0 x10_1).f7).length c135_7) := (blk_cell BK136.out 7).trans rfl; have hfz66_0 := blk_frozen BK136.out 0; have hfz66_1 := blk_frozen BK136.out 1; have hfz66_2 := blk_frozen BK136.out 2; have hfz66_3 := blk_frozen BK136.out 3; have hfz66_4 := blk_frozen BK136.out 4; have hfz66_5 := blk_frozen BK136.out 5; have hfz66_6 := blk_frozen BK136.out 6; have hfz66_7 := blk_frozen BK136.out 7))
                          go_roundg kj5
                          case measure => have := HK1.out; have := HJ5.out; omega
                          case rel => exact ⟨(x8_1), (true), (wrap64 (x10_1 + 1)), (by first | rfl | (simp; done) | (simp [*]; done)), (by first | rfl | (simp; done) | (simp [*]; done)), (by first | rfl | (simp; done) | (simp [*]; done)), H', ⟨by have := HK1.out; have := HJ5.out; omega⟩, ⟨by repeat (first | (with_reducible first | exact HB.out | apply below_alloc | apply pw_below_drewN | apply below_drew1 | refine below_set ?_ GE136.out) | exact HB.out)⟩⟩
                      · replace c59 := Bool.eq_false_iff.mpr c59
                        subst c59
                        have H1 : (assartref34_next.l0 kj5 l0 a1 true ((rd_T91 l0 x10_1).f3) true (wrap64 (x10_1 + 1))) = some (r1, r2) := by rw [if_neg (show ¬ (false = true) by decide)] at H; exact H
                        clear H
                        have H := H1
                        clear H1
                        have H' := Aside0.mk H
                        clear H
                        have hcz67_0 : wc.cell? ⟨gb136, 0, none⟩ = some (.int .i64 ((rd_T91 l0 x10_1).f0)) := (blk_cell BK136.out 0).trans rfl
                        have hcz67_1 : wc.cell? ⟨gb136, 1, none⟩ = some (.int .i64 ((rd_T91 l0 x10_1).f1)) := (blk_cell BK136.out 1).trans rfl
                        have hcz67_2 : wc.cell? ⟨gb136, 2, none⟩ = some (.int .i64 ((rd_T91 l0 x10_1).f2)) := (blk_cell BK136.out 2).trans rfl
                        have hcz67_3 : wc.cell? ⟨gb136, 3, none⟩ = some (.int .i64 ((rd_T91 l0 x10_1).f3)) := (blk_cell BK136.out 3).trans rfl
                        have hcz67_4 : wc.cell? ⟨gb136, 4, none⟩ = some (.bool ((rd_T91 l0 x10_1).f4)) := (blk_cell BK136.out 4).trans rfl
                        have hcz67_5 : wc.cell? ⟨gb136, 5, none⟩ = some (.bool ((rd_T91 l0 x10_1).f5)) := (blk_cell BK136.out 5).trans rfl
                        have hcz67_6 : wc.cell? ⟨gb136, 6, none⟩ = some (.slice A135_6 ((rd_T91 l0 x10_1).f6).length c135_6) := (blk_cell BK136.out 6).trans rfl
                        have hcz67_7 : wc.cell? ⟨gb136, 7, none⟩ = some (.slice A135_7 ((rd_T91 l0 x10_1).f7).length c135_7) := (blk_cell BK136.out 7).trans rfl
                        have hfz67_0 := blk_frozen BK136.out 0
                        have hfz67_1 := blk_frozen BK136.out 1
                        have hfz67_2 := blk_frozen BK136.out 2
                        have hfz67_3 := blk_frozen BK136.out 3
                        have hfz67_4 := blk_frozen BK136.out 4
                        have hfz67_5 := blk_frozen BK136.out 5
                        have hfz67_6 := blk_frozen BK136.out 6
                        have hfz67_7 := blk_frozen BK136.out 7
                        go_wp2_with (first | ((with_reducible refine gate_callee (f := 89) rfl ?_); refine goesL_ (some 47) rfl rfl Try.func89 (by kernel_rfl) rfl #[.agg #[.int .i64 ((rd_T91 l0 x10_1).f0), .int .i64 ((rd_T91 l0 x10_1).f1), .int .i64 ((rd_T91 l0 x10_1).f2), .int .i64 ((rd_T91 l0 x10_1).f3), .bool ((rd_T91 l0 x10_1).f4), .bool ((rd_T91 l0 x10_1).f5), .slice A135_6 ((rd_T91 l0 x10_1).f6).length c135_6, .slice A135_7 ((rd_T91 l0 x10_1).f7).length c135_7]] rfl (by (try simp only [List.map_toArray, List.map_cons, List.map_nil]); first | done | rfl | (simp only [List.length_drop, List.length_take]; rfl)) ?_; (with_reducible refine (assartref34_stores.calls ((rd_T91 l0 x10_1).f0) ((rd_T91 l0 x10_1).f1) ((rd_T91 l0 x10_1).f2) ((rd_T91 l0 x10_1).f3) ((rd_T91 l0 x10_1).f4) ((rd_T91 l0 x10_1).f5) _ _ ((rd_T91 l0 x10_1).f6) _ _ ((rd_T91 l0 x10_1).f7) true _ ?side1 ?side2 ?side3 ?side4 A55.out).mono ?_); (case side1 => repeat (first | exact (Kd.C_below HR135_6.out HB.out) | (with_reducible refine Kd.C_alloc ?_ _) | (with_reducible refine Kd.C_drewN ?_ _) | (with_reducible refine Kd.C_drew ?_))); (case side2 => exact HC135_6.out); (case side3 => repeat (first | exact (Kd.C_below HR135_7.out HB.out) | (with_reducible refine Kd.C_alloc ?_ _) | (with_reducible refine Kd.C_drewN ?_ _) | (with_reducible refine Kd.C_drew ?_))); (case side4 => exact HC135_7.out); rintro e w68 ⟨rfl, hb⟩; refine ⟨_, rfl, ?_⟩; have n0_ := Aside0.mk (blk_below (g := gb136) (o := .cells #[.int .i64 ((rd_T91 l0 x10_1).f0), .int .i64 ((rd_T91 l0 x10_1).f1), .int .i64 ((rd_T91 l0 x10_1).f2), .int .i64 ((rd_T91 l0 x10_1).f3), .bool ((rd_T91 l0 x10_1).f4), .bool ((rd_T91 l0 x10_1).f5), .slice A135_6 ((rd_T91 l0 x10_1).f6).length c135_6, .slice A135_7 ((rd_T91 l0 x10_1).f7).length c135_7] 91 (0, 0)) (by (with_reducible repeat (first | refine blk_drewN ?_ _ | refine blk_drew ?_ | refine blk_alloc ?_ _)); exact BK136.out) hb); have n1_ := Aside0.mk (below_step (by repeat (first | (with_reducible first | exact HB.out | apply below_alloc | apply pw_below_drewN | apply below_drew1 | refine below_set ?_ GE136.out) | exact HB.out)) hb); clear BK136; clear HB; have BK136 := n0_; have HB := n1_; clear n0_ n1_; (try clear hb); (try clear hb2); (try clear hk); (try clear hi); have hcz69_0 : w68.cell? ⟨gb136, 0, none⟩ = some (.int .i64 ((rd_T91 l0 x10_1).f0)) := (blk_cell BK136.out 0).trans rfl; have hcz69_1 : w68.cell? ⟨gb136, 1, none⟩ = some (.int .i64 ((rd_T91 l0 x10_1).f1)) := (blk_cell BK136.out 1).trans rfl; have hcz69_2 : w68.cell? ⟨gb136, 2, none⟩ = some (.int .i64 ((rd_T91 l0 x10_1).f2)) := (blk_cell BK136.out 2).trans rfl; have hcz69_3 : w68.cell? ⟨gb136, 3, none⟩ = some (.int .i64 ((rd_T91 l0 x10_1).f3)) := (blk_cell BK136.out 3).trans rfl; have hcz69_4 : w68.cell? ⟨gb136, 4, none⟩ = some (.bool ((rd_T91 l0 x10_1).f4)) := (blk_cell BK136.out 4).trans rfl; have hcz69_5 : w68.cell? ⟨gb136, 5, none⟩ = some (.bool ((rd_T91 l0 x10_1).f5)) := (blk_cell BK136.out 5).trans rfl; have hcz69_6 : w68.cell? ⟨gb136, 6, none⟩ = some (.slice A135_6 ((rd_T91 l0 x10_1).f6).length c135_6) := (blk_cell BK136.out 6).trans rfl; have hcz69_7 : w68.cell? ⟨gb136, 7, none⟩ = some (.slice A135_7 ((rd_T91 l0 x10_1).f7).length c135_7) := (blk_cell BK136.out 7).trans rfl; have hfz69_0 := blk_frozen BK136.out 0; have hfz69_1 := blk_frozen BK136.out 1; have hfz69_2 := blk_frozen BK136.out 2; have hfz69_3 := blk_frozen BK136.out 3; have hfz69_4 := blk_frozen BK136.out 4; have hfz69_5 := blk_frozen BK136.out 5; have hfz69_6 := blk_frozen BK136.out 6; have hfz69_7 := blk_frozen BK136.out 7))
                        go_roundg kj5
                        case measure => have := HK1.out; have := HJ5.out; omega
                        case rel => exact ⟨(((rd_T91 l0 x10_1).f3)), (true), (wrap64 (x10_1 + 1)), (by first | rfl | (simp; done) | (simp [*]; done)), (by first | rfl | (simp; done) | (simp [*]; done)), (by first | rfl | (simp; done) | (simp [*]; done)), H', ⟨by have := HK1.out; have := HJ5.out; omega⟩, ⟨by repeat (first | (with_reducible first | exact HB.out | apply below_alloc | apply pw_below_drewN | apply below_drew1 | refine below_set ?_ GE136.out) | exact HB.out)⟩⟩
                    · rw [if_neg c58] at H
                      have c58b0 : decide (a1 < ((rd_T91 l0 x10_1).f3)) = false := decide_eq_false c58
                      clear c58
                      have H' := Aside0.mk H
                      clear H
                      have hcz70_0 : wc.cell? ⟨gb136, 0, none⟩ = some (.int .i64 ((rd_T91 l0 x10_1).f0)) := (blk_cell BK136.out 0).trans rfl
                      have hcz70_1 : wc.cell? ⟨gb136, 1, none⟩ = some (.int .i64 ((rd_T91 l0 x10_1).f1)) := (blk_cell BK136.out 1).trans rfl
                      have hcz70_2 : wc.cell? ⟨gb136, 2, none⟩ = some (.int .i64 ((rd_T91 l0 x10_1).f2)) := (blk_cell BK136.out 2).trans rfl
                      have hcz70_3 : wc.cell? ⟨gb136, 3, none⟩ = some (.int .i64 ((rd_T91 l0 x10_1).f3)) := (blk_cell BK136.out 3).trans rfl
                      have hcz70_4 : wc.cell? ⟨gb136, 4, none⟩ = some (.bool ((rd_T91 l0 x10_1).f4)) := (blk_cell BK136.out 4).trans rfl
                      have hcz70_5 : wc.cell? ⟨gb136, 5, none⟩ = some (.bool ((rd_T91 l0 x10_1).f5)) := (blk_cell BK136.out 5).trans rfl
                      have hcz70_6 : wc.cell? ⟨gb136, 6, none⟩ = some (.slice A135_6 ((rd_T91 l0 x10_1).f6).length c135_6) := (blk_cell BK136.out 6).trans rfl
                      have hcz70_7 : wc.cell? ⟨gb136, 7, none⟩ = some (.slice A135_7 ((rd_T91 l0 x10_1).f7).length c135_7) := (blk_cell BK136.out 7).trans rfl
                      have hfz70_0 := blk_frozen BK136.out 0
                      have hfz70_1 := blk_frozen BK136.out 1
                      have hfz70_2 := blk_frozen BK136.out 2
                      have hfz70_3 := blk_frozen BK136.out 3
                      have hfz70_4 := blk_frozen BK136.out 4
                      have hfz70_5 := blk_frozen BK136.out 5
                      have hfz70_6 := blk_frozen BK136.out 6
                      have hfz70_7 := blk_frozen BK136.out 7
                      go_wp2_with (first | ((with_reducible refine gate_callee (f := 89) rfl ?_); refine goesL_ (some 47) rfl rfl Try.func89 (by kernel_rfl) rfl #[.agg #[.int .i64 ((rd_T91 l0 x10_1).f0), .int .i64 ((rd_T91 l0 x10_1).f1), .int .i64 ((rd_T91 l0 x10_1).f2), .int .i64 ((rd_T91 l0 x10_1).f3), .bool ((rd_T91 l0 x10_1).f4), .bool ((rd_T91 l0 x10_1).f5), .slice A135_6 ((rd_T91 l0 x10_1).f6).length c135_6, .slice A135_7 ((rd_T91 l0 x10_1).f7).length c135_7]] rfl (by (try simp only [List.map_toArray, List.map_cons, List.map_nil]); first | done | rfl | (simp only [List.length_drop, List.length_take]; rfl)) ?_; (with_reducible refine (assartref34_stores.calls ((rd_T91 l0 x10_1).f0) ((rd_T91 l0 x10_1).f1) ((rd_T91 l0 x10_1).f2) ((rd_T91 l0 x10_1).f3) ((rd_T91 l0 x10_1).f4) ((rd_T91 l0 x10_1).f5) _ _ ((rd_T91 l0 x10_1).f6) _ _ ((rd_T91 l0 x10_1).f7) true _ ?side1 ?side2 ?side3 ?side4 A55.out).mono ?_); (case side1 => repeat (first | exact (Kd.C_below HR135_6.out HB.out) | (with_reducible refine Kd.C_alloc ?_ _) | (with_reducible refine Kd.C_drewN ?_ _) | (with_reducible refine Kd.C_drew ?_))); (case side2 => exact HC135_6.out); (case side3 => repeat (first | exact (Kd.C_below HR135_7.out HB.out) | (with_reducible refine Kd.C_alloc ?_ _) | (with_reducible refine Kd.C_drewN ?_ _) | (with_reducible refine Kd.C_drew ?_))); (case side4 => exact HC135_7.out); rintro e w71 ⟨rfl, hb⟩; refine ⟨_, rfl, ?_⟩; have n0_ := Aside0.mk (blk_below (g := gb136) (o := .cells #[.int .i64 ((rd_T91 l0 x10_1).f0), .int .i64 ((rd_T91 l0 x10_1).f1), .int .i64 ((rd_T91 l0 x10_1).f2), .int .i64 ((rd_T91 l0 x10_1).f3), .bool ((rd_T91 l0 x10_1).f4), .bool ((rd_T91 l0 x10_1).f5), .slice A135_6 ((rd_T91 l0 x10_1).f6).length c135_6, .slice A135_7 ((rd_T91 l0 x10_1).f7).length c135_7] 91 (0, 0)) (by (with_reducible repeat (first | refine blk_drewN ?_ _ | refine blk_drew ?_ | refine blk_alloc ?_ _)); exact BK136.out) hb); have n1_ := Aside0.mk (below_step (by repeat (first | (with_reducible first | exact HB.out | apply below_alloc | apply pw_below_drewN | apply below_drew1 | refine below_set ?_ GE136.out) | exact HB.out)) hb); clear BK136; clear HB; have BK136 := n0_; have HB := n1_; clear n0_ n1_; (try clear hb); (try clear hb2); (try clear hk); (try clear hi); have hcz72_0 : w71.cell? ⟨gb136, 0, none⟩ = some (.int .i64 ((rd_T91 l0 x10_1).f0)) := (blk_cell BK136.out 0).trans rfl; have hcz72_1 : w71.cell? ⟨gb136, 1, none⟩ = some (.int .i64 ((rd_T91 l0 x10_1).f1)) := (blk_cell BK136.out 1).trans rfl; have hcz72_2 : w71.cell? ⟨gb136, 2, none⟩ = some (.int .i64 ((rd_T91 l0 x10_1).f2)) := (blk_cell BK136.out 2).trans rfl; have hcz72_3 : w71.cell? ⟨gb136, 3, none⟩ = some (.int .i64 ((rd_T91 l0 x10_1).f3)) := (blk_cell BK136.out 3).trans rfl; have hcz72_4 : w71.cell? ⟨gb136, 4, none⟩ = some (.bool ((rd_T91 l0 x10_1).f4)) := (blk_cell BK136.out 4).trans rfl; have hcz72_5 : w71.cell? ⟨gb136, 5, none⟩ = some (.bool ((rd_T91 l0 x10_1).f5)) := (blk_cell BK136.out 5).trans rfl; have hcz72_6 : w71.cell? ⟨gb136, 6, none⟩ = some (.slice A135_6 ((rd_T91 l0 x10_1).f6).length c135_6) := (blk_cell BK136.out 6).trans rfl; have hcz72_7 : w71.cell? ⟨gb136, 7, none⟩ = some (.slice A135_7 ((rd_T91 l0 x10_1).f7).length c135_7) := (blk_cell BK136.out 7).trans rfl; have hfz72_0 := blk_frozen BK136.out 0; have hfz72_1 := blk_frozen BK136.out 1; have hfz72_2 := blk_frozen BK136.out 2; have hfz72_3 := blk_frozen BK136.out 3; have hfz72_4 := blk_frozen BK136.out 4; have hfz72_5 := blk_frozen BK136.out 5; have hfz72_6 := blk_frozen BK136.out 6; have hfz72_7 := blk_frozen BK136.out 7))
                      go_roundg kj5
                      case measure => have := HK1.out; have := HJ5.out; omega
                      case rel => exact ⟨(x8_1), (x9_1), (wrap64 (x10_1 + 1)), (by first | rfl | (simp; done) | (simp [*]; done)), (by first | rfl | (simp; done) | (simp [*]; done)), (by first | rfl | (simp; done) | (simp [*]; done)), H', ⟨by have := HK1.out; have := HJ5.out; omega⟩, ⟨by repeat (first | (with_reducible first | exact HB.out | apply below_alloc | apply pw_below_drewN | apply below_drew1 | refine below_set ?_ GE136.out) | exact HB.out)⟩⟩
                  · replace c57 := Bool.eq_false_iff.mpr c57
                    subst c57
                    have H1 : (if x9_1 = true then (if ((rd_T91 l0 x10_1).f3) < x8_1 then (assartref34_next.l0 kj5 l0 a1 false ((rd_T91 l0 x10_1).f3) true (wrap64 (x10_1 + 1))) else (assartref34_next.l0 kj5 l0 a1 false x8_1 x9_1 (wrap64 (x10_1 + 1)))) else (assartref34_next.l0 kj5 l0 a1 false ((rd_T91 l0 x10_1).f3) true (wrap64 (x10_1 + 1)))) = some (r1, r2) := by rw [if_neg (show ¬ (false = true) by decide)] at H; exact H
                    clear H
                    have H := H1
                    clear H1
                    by_cases c73 : x9_1 = true
                    · subst c73
                      have H1 : (if ((rd_T91 l0 x10_1).f3) < x8_1 then (assartref34_next.l0 kj5 l0 a1 false ((rd_T91 l0 x10_1).f3) true (wrap64 (x10_1 + 1))) else (assartref34_next.l0 kj5 l0 a1 false x8_1 true (wrap64 (x10_1 + 1)))) = some (r1, r2) := by rw [if_pos rfl] at H; exact H
                      clear H
                      have H := H1
                      clear H1
                      by_cases c74 : ((rd_T91 l0 x10_1).f3) < x8_1
                      · rw [if_pos c74] at H
                        have c74b0 : decide (((rd_T91 l0 x10_1).f3) < x8_1) = true := decide_eq_true c74
                        clear c74
                        have H' := Aside0.mk H
                        clear H
                        have hcz75_0 : wc.cell? ⟨gb136, 0, none⟩ = some (.int .i64 ((rd_T91 l0 x10_1).f0)) := (blk_cell BK136.out 0).trans rfl
                        have hcz75_1 : wc.cell? ⟨gb136, 1, none⟩ = some (.int .i64 ((rd_T91 l0 x10_1).f1)) := (blk_cell BK136.out 1).trans rfl
                        have hcz75_2 : wc.cell? ⟨gb136, 2, none⟩ = some (.int .i64 ((rd_T91 l0 x10_1).f2)) := (blk_cell BK136.out 2).trans rfl
                        have hcz75_3 : wc.cell? ⟨gb136, 3, none⟩ = some (.int .i64 ((rd_T91 l0 x10_1).f3)) := (blk_cell BK136.out 3).trans rfl
                        have hcz75_4 : wc.cell? ⟨gb136, 4, none⟩ = some (.bool ((rd_T91 l0 x10_1).f4)) := (blk_cell BK136.out 4).trans rfl
                        have hcz75_5 : wc.cell? ⟨gb136, 5, none⟩ = some (.bool ((rd_T91 l0 x10_1).f5)) := (blk_cell BK136.out 5).trans rfl
                        have hcz75_6 : wc.cell? ⟨gb136, 6, none⟩ = some (.slice A135_6 ((rd_T91 l0 x10_1).f6).length c135_6) := (blk_cell BK136.out 6).trans rfl
                        have hcz75_7 : wc.cell? ⟨gb136, 7, none⟩ = some (.slice A135_7 ((rd_T91 l0 x10_1).f7).length c135_7) := (blk_cell BK136.out 7).trans rfl
                        have hfz75_0 := blk_frozen BK136.out 0
                        have hfz75_1 := blk_frozen BK136.out 1
                        have hfz75_2 := blk_frozen BK136.out 2
                        have hfz75_3 := blk_frozen BK136.out 3
                        have hfz75_4 := blk_frozen BK136.out 4
                        have hfz75_5 := blk_frozen BK136.out 5
                        have hfz75_6 := blk_frozen BK136.out 6
                        have hfz75_7 := blk_frozen BK136.out 7
                        go_wp2_with (first | ((with_reducible refine gate_callee (f := 89) rfl ?_); refine goesL_ (some 47) rfl rfl Try.func89 (by kernel_rfl) rfl #[.agg #[.int .i64 ((rd_T91 l0 x10_1).f0), .int .i64 ((rd_T91 l0 x10_1).f1), .int .i64 ((rd_T91 l0 x10_1).f2), .int .i64 ((rd_T91 l0 x10_1).f3), .bool ((rd_T91 l0 x10_1).f4), .bool ((rd_T91 l0 x10_1).f5), .slice A135_6 ((rd_T91 l0 x10_1).f6).length c135_6, .slice A135_7 ((rd_T91 l0 x10_1).f7).length c135_7]] rfl (by (try simp only [List.map_toArray, List.map_cons, List.map_nil]); first | done | rfl | (simp only [List.length_drop, List.length_take]; rfl)) ?_; (with_reducible refine (assartref34_stores.calls ((rd_T91 l0 x10_1).f0) ((rd_T91 l0 x10_1).f1) ((rd_T91 l0 x10_1).f2) ((rd_T91 l0 x10_1).f3) ((rd_T91 l0 x10_1).f4) ((rd_T91 l0 x10_1).f5) _ _ ((rd_T91 l0 x10_1).f6) _ _ ((rd_T91 l0 x10_1).f7) true _ ?side1 ?side2 ?side3 ?side4 A55.out).mono ?_); (case side1 => repeat (first | exact (Kd.C_below HR135_6.out HB.out) | (with_reducible refine Kd.C_alloc ?_ _) | (with_reducible refine Kd.C_drewN ?_ _) | (with_reducible refine Kd.C_drew ?_))); (case side2 => exact HC135_6.out); (case side3 => repeat (first | exact (Kd.C_below HR135_7.out HB.out) | (with_reducible refine Kd.C_alloc ?_ _) | (with_reducible refine Kd.C_drewN ?_ _) | (with_reducible refine Kd.C_drew ?_))); (case side4 => exact HC135_7.out); rintro e w76 ⟨rfl, hb⟩; refine ⟨_, rfl, ?_⟩; have n0_ := Aside0.mk (blk_below (g := gb136) (o := .cells #[.int .i64 ((rd_T91 l0 x10_1).f0), .int .i64 ((rd_T91 l0 x10_1).f1), .int .i64 ((rd_T91 l0 x10_1).f2), .int .i64 ((rd_T91 l0 x10_1).f3), .bool ((rd_T91 l0 x10_1).f4), .bool ((rd_T91 l0 x10_1).f5), .slice A135_6 ((rd_T91 l0 x10_1).f6).length c135_6, .slice A135_7 ((rd_T91 l0 x10_1).f7).length c135_7] 91 (0, 0)) (by (with_reducible repeat (first | refine blk_drewN ?_ _ | refine blk_drew ?_ | refine blk_alloc ?_ _)); exact BK136.out) hb); have n1_ := Aside0.mk (below_step (by repeat (first | (with_reducible first | exact HB.out | apply below_alloc | apply pw_below_drewN | apply below_drew1 | refine below_set ?_ GE136.out) | exact HB.out)) hb); clear BK136; clear HB; have BK136 := n0_; have HB := n1_; clear n0_ n1_; (try clear hb); (try clear hb2); (try clear hk); (try clear hi); have hcz77_0 : w76.cell? ⟨gb136, 0, none⟩ = some (.int .i64 ((rd_T91 l0 x10_1).f0)) := (blk_cell BK136.out 0).trans rfl; have hcz77_1 : w76.cell? ⟨gb136, 1, none⟩ = some (.int .i64 ((rd_T91 l0 x10_1).f1)) := (blk_cell BK136.out 1).trans rfl; have hcz77_2 : w76.cell? ⟨gb136, 2, none⟩ = some (.int .i64 ((rd_T91 l0 x10_1).f2)) := (blk_cell BK136.out 2).trans rfl; have hcz77_3 : w76.cell? ⟨gb136, 3, none⟩ = some (.int .i64 ((rd_T91 l0 x10_1).f3)) := (blk_cell BK136.out 3).trans rfl; have hcz77_4 : w76.cell? ⟨gb136, 4, none⟩ = some (.bool ((rd_T91 l0 x10_1).f4)) := (blk_cell BK136.out 4).trans rfl; have hcz77_5 : w76.cell? ⟨gb136, 5, none⟩ = some (.bool ((rd_T91 l0 x10_1).f5)) := (blk_cell BK136.out 5).trans rfl; have hcz77_6 : w76.cell? ⟨gb136, 6, none⟩ = some (.slice A135_6 ((rd_T91 l0 x10_1).f6).length c135_6) := (blk_cell BK136.out 6).trans rfl; have hcz77_7 : w76.cell? ⟨gb136, 7, none⟩ = some (.slice A135_7 ((rd_T91 l0 x10_1).f7).length c135_7) := (blk_cell BK136.out 7).trans rfl; have hfz77_0 := blk_frozen BK136.out 0; have hfz77_1 := blk_frozen BK136.out 1; have hfz77_2 := blk_frozen BK136.out 2; have hfz77_3 := blk_frozen BK136.out 3; have hfz77_4 := blk_frozen BK136.out 4; have hfz77_5 := blk_frozen BK136.out 5; have hfz77_6 := blk_frozen BK136.out 6; have hfz77_7 := blk_frozen BK136.out 7))
                        go_roundg kj5
                        case measure => have := HK1.out; have := HJ5.out; omega
                        case rel => exact ⟨(((rd_T91 l0 x10_1).f3)), (true), (wrap64 (x10_1 + 1)), (by first | rfl | (simp; done) | (simp [*]; done)), (by first | rfl | (simp; done) | (simp [*]; done)), (by first | rfl | (simp; done) | (simp [*]; done)), H', ⟨by have := HK1.out; have := HJ5.out; omega⟩, ⟨by repeat (first | (with_reducible first | exact HB.out | apply below_alloc | apply pw_below_drewN | apply below_drew1 | refine below_set ?_ GE136.out) | exact HB.out)⟩⟩
                      · rw [if_neg c74] at H
                        have c74b0 : decide (((rd_T91 l0 x10_1).f3) < x8_1) = false := decide_eq_false c74
                        clear c74
                        have H' := Aside0.mk H
                        clear H
                        have hcz78_0 : wc.cell? ⟨gb136, 0, none⟩ = some (.int .i64 ((rd_T91 l0 x10_1).f0)) := (blk_cell BK136.out 0).trans rfl
                        have hcz78_1 : wc.cell? ⟨gb136, 1, none⟩ = some (.int .i64 ((rd_T91 l0 x10_1).f1)) := (blk_cell BK136.out 1).trans rfl
                        have hcz78_2 : wc.cell? ⟨gb136, 2, none⟩ = some (.int .i64 ((rd_T91 l0 x10_1).f2)) := (blk_cell BK136.out 2).trans rfl
                        have hcz78_3 : wc.cell? ⟨gb136, 3, none⟩ = some (.int .i64 ((rd_T91 l0 x10_1).f3)) := (blk_cell BK136.out 3).trans rfl
                        have hcz78_4 : wc.cell? ⟨gb136, 4, none⟩ = some (.bool ((rd_T91 l0 x10_1).f4)) := (blk_cell BK136.out 4).trans rfl
                        have hcz78_5 : wc.cell? ⟨gb136, 5, none⟩ = some (.bool ((rd_T91 l0 x10_1).f5)) := (blk_cell BK136.out 5).trans rfl
                        have hcz78_6 : wc.cell? ⟨gb136, 6, none⟩ = some (.slice A135_6 ((rd_T91 l0 x10_1).f6).length c135_6) := (blk_cell BK136.out 6).trans rfl
                        have hcz78_7 : wc.cell? ⟨gb136, 7, none⟩ = some (.slice A135_7 ((rd_T91 l0 x10_1).f7).length c135_7) := (blk_cell BK136.out 7).trans rfl
                        have hfz78_0 := blk_frozen BK136.out 0
                        have hfz78_1 := blk_frozen BK136.out 1
                        have hfz78_2 := blk_frozen BK136.out 2
                        have hfz78_3 := blk_frozen BK136.out 3
                        have hfz78_4 := blk_frozen BK136.out 4
                        have hfz78_5 := blk_frozen BK136.out 5
                        have hfz78_6 := blk_frozen BK136.out 6
                        have hfz78_7 := blk_frozen BK136.out 7
                        go_wp2_with (first | ((with_reducible refine gate_callee (f := 89) rfl ?_); refine goesL_ (some 47) rfl rfl Try.func89 (by kernel_rfl) rfl #[.agg #[.int .i64 ((rd_T91 l0 x10_1).f0), .int .i64 ((rd_T91 l0 x10_1).f1), .int .i64 ((rd_T91 l0 x10_1).f2), .int .i64 ((rd_T91 l0 x10_1).f3), .bool ((rd_T91 l0 x10_1).f4), .bool ((rd_T91 l0 x10_1).f5), .slice A135_6 ((rd_T91 l0 x10_1).f6).length c135_6, .slice A135_7 ((rd_T91 l0 x10_1).f7).length c135_7]] rfl (by (try simp only [List.map_toArray, List.map_cons, List.map_nil]); first | done | rfl | (simp only [List.length_drop, List.length_take]; rfl)) ?_; (with_reducible refine (assartref34_stores.calls ((rd_T91 l0 x10_1).f0) ((rd_T91 l0 x10_1).f1) ((rd_T91 l0 x10_1).f2) ((rd_T91 l0 x10_1).f3) ((rd_T91 l0 x10_1).f4) ((rd_T91 l0 x10_1).f5) _ _ ((rd_T91 l0 x10_1).f6) _ _ ((rd_T91 l0 x10_1).f7) true _ ?side1 ?side2 ?side3 ?side4 A55.out).mono ?_); (case side1 => repeat (first | exact (Kd.C_below HR135_6.out HB.out) | (with_reducible refine Kd.C_alloc ?_ _) | (with_reducible refine Kd.C_drewN ?_ _) | (with_reducible refine Kd.C_drew ?_))); (case side2 => exact HC135_6.out); (case side3 => repeat (first | exact (Kd.C_below HR135_7.out HB.out) | (with_reducible refine Kd.C_alloc ?_ _) | (with_reducible refine Kd.C_drewN ?_ _) | (with_reducible refine Kd.C_drew ?_))); (case side4 => exact HC135_7.out); rintro e w79 ⟨rfl, hb⟩; refine ⟨_, rfl, ?_⟩; have n0_ := Aside0.mk (blk_below (g := gb136) (o := .cells #[.int .i64 ((rd_T91 l0 x10_1).f0), .int .i64 ((rd_T91 l0 x10_1).f1), .int .i64 ((rd_T91 l0 x10_1).f2), .int .i64 ((rd_T91 l0 x10_1).f3), .bool ((rd_T91 l0 x10_1).f4), .bool ((rd_T91 l0 x10_1).f5), .slice A135_6 ((rd_T91 l0 x10_1).f6).length c135_6, .slice A135_7 ((rd_T91 l0 x10_1).f7).length c135_7] 91 (0, 0)) (by (with_reducible repeat (first | refine blk_drewN ?_ _ | refine blk_drew ?_ | refine blk_alloc ?_ _)); exact BK136.out) hb); have n1_ := Aside0.mk (below_step (by repeat (first | (with_reducible first | exact HB.out | apply below_alloc | apply pw_below_drewN | apply below_drew1 | refine below_set ?_ GE136.out) | exact HB.out)) hb); clear BK136; clear HB; have BK136 := n0_; have HB := n1_; clear n0_ n1_; (try clear hb); (try clear hb2); (try clear hk); (try clear hi); have hcz80_0 : w79.cell? ⟨gb136, 0, none⟩ = some (.int .i64 ((rd_T91 l0 x10_1).f0)) := (blk_cell BK136.out 0).trans rfl; have hcz80_1 : w79.cell? ⟨gb136, 1, none⟩ = some (.int .i64 ((rd_T91 l0 x10_1).f1)) := (blk_cell BK136.out 1).trans rfl; have hcz80_2 : w79.cell? ⟨gb136, 2, none⟩ = some (.int .i64 ((rd_T91 l0 x10_1).f2)) := (blk_cell BK136.out 2).trans rfl; have hcz80_3 : w79.cell? ⟨gb136, 3, none⟩ = some (.int .i64 ((rd_T91 l0 x10_1).f3)) := (blk_cell BK136.out 3).trans rfl; have hcz80_4 : w79.cell? ⟨gb136, 4, none⟩ = some (.bool ((rd_T91 l0 x10_1).f4)) := (blk_cell BK136.out 4).trans rfl; have hcz80_5 : w79.cell? ⟨gb136, 5, none⟩ = some (.bool ((rd_T91 l0 x10_1).f5)) := (blk_cell BK136.out 5).trans rfl; have hcz80_6 : w79.cell? ⟨gb136, 6, none⟩ = some (.slice A135_6 ((rd_T91 l0 x10_1).f6).length c135_6) := (blk_cell BK136.out 6).trans rfl; have hcz80_7 : w79.cell? ⟨gb136, 7, none⟩ = some (.slice A135_7 ((rd_T91 l0 x10_1).f7).length c135_7) := (blk_cell BK136.out 7).trans rfl; have hfz80_0 := blk_frozen BK136.out 0; have hfz80_1 := blk_frozen BK136.out 1; have hfz80_2 := blk_frozen BK136.out 2; have hfz80_3 := blk_frozen BK136.out 3; have hfz80_4 := blk_frozen BK136.out 4; have hfz80_5 := blk_frozen BK136.out 5; have hfz80_6 := blk_frozen BK136.out 6; have hfz80_7 := blk_frozen BK136.out 7))
                        go_roundg kj5
                        case measure => have := HK1.out; have := HJ5.out; omega
                        case rel => exact ⟨(x8_1), (true), (wrap64 (x10_1 + 1)), (by first | rfl | (simp; done) | (simp [*]; done)), (by first | rfl | (simp; done) | (simp [*]; done)), (by first | rfl | (simp; done) | (simp [*]; done)), H', ⟨by have := HK1.out; have := HJ5.out; omega⟩, ⟨by repeat (first | (with_reducible first | exact HB.out | apply below_alloc | apply pw_below_drewN | apply below_drew1 | refine below_set ?_ GE136.out) | exact HB.out)⟩⟩
                    · replace c73 := Bool.eq_false_iff.mpr c73
                      subst c73
                      have H1 : (assartref34_next.l0 kj5 l0 a1 false ((rd_T91 l0 x10_1).f3) true (wrap64 (x10_1 + 1))) = some (r1, r2) := by rw [if_neg (show ¬ (false = true) by decide)] at H; exact H
                      clear H
                      have H := H1
                      clear H1
                      have H' := Aside0.mk H
                      clear H
                      have hcz81_0 : wc.cell? ⟨gb136, 0, none⟩ = some (.int .i64 ((rd_T91 l0 x10_1).f0)) := (blk_cell BK136.out 0).trans rfl
                      have hcz81_1 : wc.cell? ⟨gb136, 1, none⟩ = some (.int .i64 ((rd_T91 l0 x10_1).f1)) := (blk_cell BK136.out 1).trans rfl
                      have hcz81_2 : wc.cell? ⟨gb136, 2, none⟩ = some (.int .i64 ((rd_T91 l0 x10_1).f2)) := (blk_cell BK136.out 2).trans rfl
                      have hcz81_3 : wc.cell? ⟨gb136, 3, none⟩ = some (.int .i64 ((rd_T91 l0 x10_1).f3)) := (blk_cell BK136.out 3).trans rfl
                      have hcz81_4 : wc.cell? ⟨gb136, 4, none⟩ = some (.bool ((rd_T91 l0 x10_1).f4)) := (blk_cell BK136.out 4).trans rfl
                      have hcz81_5 : wc.cell? ⟨gb136, 5, none⟩ = some (.bool ((rd_T91 l0 x10_1).f5)) := (blk_cell BK136.out 5).trans rfl
                      have hcz81_6 : wc.cell? ⟨gb136, 6, none⟩ = some (.slice A135_6 ((rd_T91 l0 x10_1).f6).length c135_6) := (blk_cell BK136.out 6).trans rfl
                      have hcz81_7 : wc.cell? ⟨gb136, 7, none⟩ = some (.slice A135_7 ((rd_T91 l0 x10_1).f7).length c135_7) := (blk_cell BK136.out 7).trans rfl
                      have hfz81_0 := blk_frozen BK136.out 0
                      have hfz81_1 := blk_frozen BK136.out 1
                      have hfz81_2 := blk_frozen BK136.out 2
                      have hfz81_3 := blk_frozen BK136.out 3
                      have hfz81_4 := blk_frozen BK136.out 4
                      have hfz81_5 := blk_frozen BK136.out 5
                      have hfz81_6 := blk_frozen BK136.out 6
                      have hfz81_7 := blk_frozen BK136.out 7
                      go_wp2_with (first | ((with_reducible refine gate_callee (f := 89) rfl ?_); refine goesL_ (some 47) rfl rfl Try.func89 (by kernel_rfl) rfl #[.agg #[.int .i64 ((rd_T91 l0 x10_1).f0), .int .i64 ((rd_T91 l0 x10_1).f1), .int .i64 ((rd_T91 l0 x10_1).f2), .int .i64 ((rd_T91 l0 x10_1).f3), .bool ((rd_T91 l0 x10_1).f4), .bool ((rd_T91 l0 x10_1).f5), .slice A135_6 ((rd_T91 l0 x10_1).f6).length c135_6, .slice A135_7 ((rd_T91 l0 x10_1).f7).length c135_7]] rfl (by (try simp only [List.map_toArray, List.map_cons, List.map_nil]); first | done | rfl | (simp only [List.length_drop, List.length_take]; rfl)) ?_; (with_reducible refine (assartref34_stores.calls ((rd_T91 l0 x10_1).f0) ((rd_T91 l0 x10_1).f1) ((rd_T91 l0 x10_1).f2) ((rd_T91 l0 x10_1).f3) ((rd_T91 l0 x10_1).f4) ((rd_T91 l0 x10_1).f5) _ _ ((rd_T91 l0 x10_1).f6) _ _ ((rd_T91 l0 x10_1).f7) true _ ?side1 ?side2 ?side3 ?side4 A55.out).mono ?_); (case side1 => repeat (first | exact (Kd.C_below HR135_6.out HB.out) | (with_reducible refine Kd.C_alloc ?_ _) | (with_reducible refine Kd.C_drewN ?_ _) | (with_reducible refine Kd.C_drew ?_))); (case side2 => exact HC135_6.out); (case side3 => repeat (first | exact (Kd.C_below HR135_7.out HB.out) | (with_reducible refine Kd.C_alloc ?_ _) | (with_reducible refine Kd.C_drewN ?_ _) | (with_reducible refine Kd.C_drew ?_))); (case side4 => exact HC135_7.out); rintro e w82 ⟨rfl, hb⟩; refine ⟨_, rfl, ?_⟩; have n0_ := Aside0.mk (blk_below (g := gb136) (o := .cells #[.int .i64 ((rd_T91 l0 x10_1).f0), .int .i64 ((rd_T91 l0 x10_1).f1), .int .i64 ((rd_T91 l0 x10_1).f2), .int .i64 ((rd_T91 l0 x10_1).f3), .bool ((rd_T91 l0 x10_1).f4), .bool ((rd_T91 l0 x10_1).f5), .slice A135_6 ((rd_T91 l0 x10_1).f6).length c135_6, .slice A135_7 ((rd_T91 l0 x10_1).f7).length c135_7] 91 (0, 0)) (by (with_reducible repeat (first | refine blk_drewN ?_ _ | refine blk_drew ?_ | refine blk_alloc ?_ _)); exact BK136.out) hb); have n1_ := Aside0.mk (below_step (by repeat (first | (with_reducible first | exact HB.out | apply below_alloc | apply pw_below_drewN | apply below_drew1 | refine below_set ?_ GE136.out) | exact HB.out)) hb); clear BK136; clear HB; have BK136 := n0_; have HB := n1_; clear n0_ n1_; (try clear hb); (try clear hb2); (try clear hk); (try clear hi); have hcz83_0 : w82.cell? ⟨gb136, 0, none⟩ = some (.int .i64 ((rd_T91 l0 x10_1).f0)) := (blk_cell BK136.out 0).trans rfl; have hcz83_1 : w82.cell? ⟨gb136, 1, none⟩ = some (.int .i64 ((rd_T91 l0 x10_1).f1)) := (blk_cell BK136.out 1).trans rfl; have hcz83_2 : w82.cell? ⟨gb136, 2, none⟩ = some (.int .i64 ((rd_T91 l0 x10_1).f2)) := (blk_cell BK136.out 2).trans rfl; have hcz83_3 : w82.cell? ⟨gb136, 3, none⟩ = some (.int .i64 ((rd_T91 l0 x10_1).f3)) := (blk_cell BK136.out 3).trans rfl; have hcz83_4 : w82.cell? ⟨gb136, 4, none⟩ = some (.bool ((rd_T91 l0 x10_1).f4)) := (blk_cell BK136.out 4).trans rfl; have hcz83_5 : w82.cell? ⟨gb136, 5, none⟩ = some (.bool ((rd_T91 l0 x10_1).f5)) := (blk_cell BK136.out 5).trans rfl; have hcz83_6 : w82.cell? ⟨gb136, 6, none⟩ = some (.slice A135_6 ((rd_T91 l0 x10_1).f6).length c135_6) := (blk_cell BK136.out 6).trans rfl; have hcz83_7 : w82.cell? ⟨gb136, 7, none⟩ = some (.slice A135_7 ((rd_T91 l0 x10_1).f7).length c135_7) := (blk_cell BK136.out 7).trans rfl; have hfz83_0 := blk_frozen BK136.out 0; have hfz83_1 := blk_frozen BK136.out 1; have hfz83_2 := blk_frozen BK136.out 2; have hfz83_3 := blk_frozen BK136.out 3; have hfz83_4 := blk_frozen BK136.out 4; have hfz83_5 := blk_frozen BK136.out 5; have hfz83_6 := blk_frozen BK136.out 6; have hfz83_7 := blk_frozen BK136.out 7))
                      go_roundg kj5
                      case measure => have := HK1.out; have := HJ5.out; omega
                      case rel => exact ⟨(((rd_T91 l0 x10_1).f3)), (true), (wrap64 (x10_1 + 1)), (by first | rfl | (simp; done) | (simp [*]; done)), (by first | rfl | (simp; done) | (simp [*]; done)), (by first | rfl | (simp; done) | (simp [*]; done)), H', ⟨by have := HK1.out; have := HJ5.out; omega⟩, ⟨by repeat (first | (with_reducible first | exact HB.out | apply below_alloc | apply pw_below_drewN | apply below_drew1 | refine below_set ?_ GE136.out) | exact HB.out)⟩⟩
                · replace c56 := Bool.eq_false_iff.mpr c56
                  subst c56
                  have H1 : (assartref34_next.l0 kj5 l0 a1 a2 x8_1 x9_1 (wrap64 (x10_1 + 1))) = some (r1, r2) := by rw [if_neg (show ¬ (false = true) by decide)] at H; exact H
                  clear H
                  have H := H1
                  clear H1
                  have H' := Aside0.mk H
                  clear H
                  have hcz84_0 : wc.cell? ⟨gb136, 0, none⟩ = some (.int .i64 ((rd_T91 l0 x10_1).f0)) := (blk_cell BK136.out 0).trans rfl
                  have hcz84_1 : wc.cell? ⟨gb136, 1, none⟩ = some (.int .i64 ((rd_T91 l0 x10_1).f1)) := (blk_cell BK136.out 1).trans rfl
                  have hcz84_2 : wc.cell? ⟨gb136, 2, none⟩ = some (.int .i64 ((rd_T91 l0 x10_1).f2)) := (blk_cell BK136.out 2).trans rfl
                  have hcz84_3 : wc.cell? ⟨gb136, 3, none⟩ = some (.int .i64 ((rd_T91 l0 x10_1).f3)) := (blk_cell BK136.out 3).trans rfl
                  have hcz84_4 : wc.cell? ⟨gb136, 4, none⟩ = some (.bool ((rd_T91 l0 x10_1).f4)) := (blk_cell BK136.out 4).trans rfl
                  have hcz84_5 : wc.cell? ⟨gb136, 5, none⟩ = some (.bool ((rd_T91 l0 x10_1).f5)) := (blk_cell BK136.out 5).trans rfl
                  have hcz84_6 : wc.cell? ⟨gb136, 6, none⟩ = some (.slice A135_6 ((rd_T91 l0 x10_1).f6).length c135_6) := (blk_cell BK136.out 6).trans rfl
                  have hcz84_7 : wc.cell? ⟨gb136, 7, none⟩ = some (.slice A135_7 ((rd_T91 l0 x10_1).f7).length c135_7) := (blk_cell BK136.out 7).trans rfl
                  have hfz84_0 := blk_frozen BK136.out 0
                  have hfz84_1 := blk_frozen BK136.out 1
                  have hfz84_2 := blk_frozen BK136.out 2
                  have hfz84_3 := blk_frozen BK136.out 3
                  have hfz84_4 := blk_frozen BK136.out 4
                  have hfz84_5 := blk_frozen BK136.out 5
                  have hfz84_6 := blk_frozen BK136.out 6
                  have hfz84_7 := blk_frozen BK136.out 7
                  go_wp2_with (first | ((with_reducible refine gate_callee (f := 89) rfl ?_); refine goesL_ (some 47) rfl rfl Try.func89 (by kernel_rfl) rfl #[.agg #[.int .i64 ((rd_T91 l0 x10_1).f0), .int .i64 ((rd_T91 l0 x10_1).f1), .int .i64 ((rd_T91 l0 x10_1).f2), .int .i64 ((rd_T91 l0 x10_1).f3), .bool ((rd_T91 l0 x10_1).f4), .bool ((rd_T91 l0 x10_1).f5), .slice A135_6 ((rd_T91 l0 x10_1).f6).length c135_6, .slice A135_7 ((rd_T91 l0 x10_1).f7).length c135_7]] rfl (by (try simp only [List.map_toArray, List.map_cons, List.map_nil]); first | done | rfl | (simp only [List.length_drop, List.length_take]; rfl)) ?_; (with_reducible refine (assartref34_stores.calls ((rd_T91 l0 x10_1).f0) ((rd_T91 l0 x10_1).f1) ((rd_T91 l0 x10_1).f2) ((rd_T91 l0 x10_1).f3) ((rd_T91 l0 x10_1).f4) ((rd_T91 l0 x10_1).f5) _ _ ((rd_T91 l0 x10_1).f6) _ _ ((rd_T91 l0 x10_1).f7) false _ ?side1 ?side2 ?side3 ?side4 A55.out).mono ?_); (case side1 => repeat (first | exact (Kd.C_below HR135_6.out HB.out) | (with_reducible refine Kd.C_alloc ?_ _) | (with_reducible refine Kd.C_drewN ?_ _) | (with_reducible refine Kd.C_drew ?_))); (case side2 => exact HC135_6.out); (case side3 => repeat (first | exact (Kd.C_below HR135_7.out HB.out) | (with_reducible refine Kd.C_alloc ?_ _) | (with_reducible refine Kd.C_drewN ?_ _) | (with_reducible refine Kd.C_drew ?_))); (case side4 => exact HC135_7.out); rintro e w85 ⟨rfl, hb⟩; refine ⟨_, rfl, ?_⟩; have n0_ := Aside0.mk (blk_below (g := gb136) (o := .cells #[.int .i64 ((rd_T91 l0 x10_1).f0), .int .i64 ((rd_T91 l0 x10_1).f1), .int .i64 ((rd_T91 l0 x10_1).f2), .int .i64 ((rd_T91 l0 x10_1).f3), .bool ((rd_T91 l0 x10_1).f4), .bool ((rd_T91 l0 x10_1).f5), .slice A135_6 ((rd_T91 l0 x10_1).f6).length c135_6, .slice A135_7 ((rd_T91 l0 x10_1).f7).length c135_7] 91 (0, 0)) (by (with_reducible repeat (first | refine blk_drewN ?_ _ | refine blk_drew ?_ | refine blk_alloc ?_ _)); exact BK136.out) hb); have n1_ := Aside0.mk (below_step (by repeat (first | (with_reducible first | exact HB.out | apply below_alloc | apply pw_below_drewN | apply below_drew1 | refine below_set ?_ GE136.out) | exact HB.out)) hb); clear BK136; clear HB; have BK136 := n0_; have HB := n1_; clear n0_ n1_; (try clear hb); (try clear hb2); (try clear hk); (try clear hi)))
                  go_roundg kj5
                  case measure => have := HK1.out; have := HJ5.out; omega
                  case rel => exact ⟨(x8_1), (x9_1), (wrap64 (x10_1 + 1)), (by first | rfl | (simp; done) | (simp [*]; done)), (by first | rfl | (simp; done) | (simp [*]; done)), (by first | rfl | (simp; done) | (simp [*]; done)), H', ⟨by have := HK1.out; have := HJ5.out; omega⟩, ⟨by repeat (first | (with_reducible first | exact HB.out | apply below_alloc | apply pw_below_drewN | apply below_drew1 | refine below_set ?_ GE136.out) | exact HB.out)⟩⟩
        · rw [if_neg c5] at H
          exact absurd H (by simp)
      · rw [if_neg c4] at H
        have c4b0 : decide (x10_1 < (l0.length : Int)) = false := decide_eq_false c4
        clear c4
        simp only [Option.some.injEq, Prod.mk.injEq] at H
        obtain ⟨rfl, rfl⟩ := H
        go_wp2
        go_ret2
        exact ⟨by first | rfl | (simp [errW_none, errW_some] <;> rfl) | (simp [*, errW_none, errW_some] <;> rfl), by repeat (first | (with_reducible first | exact HB.out | apply below_alloc | apply pw_below_drewN | apply below_drew1) | exact HB.out)⟩

end Go.Proofs.Ytkegfeghdnpajaa.POpaqueStates
