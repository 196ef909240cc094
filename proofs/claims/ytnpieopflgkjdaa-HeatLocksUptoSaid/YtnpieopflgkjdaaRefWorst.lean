import Derived.Test.YtnpieopflgkjdaaRefHeat
import Derived.Test.YtnpieopflgkjdaaBulk
import Derived.OwnWalk
namespace Go.Proofs.Ytnpieopflgkjdaa
open Go.RowKit Go.Bas
open Lay RefLay Of Txs Lock Locks Worst
namespace RefHeat

/-- the document's way: how often it is met most, where, and all -/
def rb (R W : Nat → Int) : Nat → Int × Int × Int
  | 0 => (0, 0, 0)
  | k + 1 => if (rb R W k).1 < wrap64 (R k + W k) then (wrap64 (R k + W k), 3 + (k : Int), wrap64 (wrap64 ((rb R W k).2.2 + R k) + W k))
      else ((rb R W k).1, (rb R W k).2.1, wrap64 (wrap64 ((rb R W k).2.2 + R k) + W k))

set_option maxRecDepth 100000 in
set_option maxHeartbeats 4000000 in
theorem rworst_of {c : Cfg} (F : Fine c) {w : World} {s : Value} {l : List Tx} (h : Many w w.heap.size s l)
    (hsafe : ¬ (rb (rds c l) (wrs c l) c.stripes.toNat).1 = 0 → ¬ (rb (rds c l) (wrs c l) c.stripes.toNat).2.2 = 0) :
    Calls Try.prog 28 #[.agg (cfg c), s] w fun e w' => e = .returned (.tuple (if (rb (rds c l) (wrs c l) c.stripes.toNat).1 = 0 then #[.int .i64 0, .int .i64 0, .bool false]
      else #[.int .i64 (rb (rds c l) (wrs c l) c.stripes.toNat).2.1, .int .i64 (wrap64 ((wrap64 (100 * (rb (rds c l) (wrs c l) c.stripes.toNat).1)).tdiv (rb (rds c l) (wrs c l) c.stripes.toNat).2.2)), .bool true])) ∧ Below w.heap.size w w' := by
  obtain ⟨B, hB⟩ : ∃ B, w.heap.size = B := ⟨_, rfl⟩
  have hM := Lib.hid h
  rw [hB] at hM ⊢
  have FH := Lib.hid F
  have hst := F.stripes
  obtain ⟨m, hmm⟩ : ∃ m : Nat, c.stripes = m := ⟨c.stripes.toNat, by omega⟩
  have hmt : c.stripes.toNat = m := by omega
  rw [hmt] at hsafe ⊢
  have h64 : m ≤ 64 := by omega
  have h1 : 1 ≤ m := by omega
  obtain ⟨w1, hw1⟩ : ∃ w1, w.alloc (.cells (cfg c) 32) = w1 := ⟨_, rfl⟩
  have s1 : w1.heap.size = B + 1 := by rw [← hw1, ← hB]; simp
  have R1 : Hid (∀ w', Below (B + 1) w1 w' → w'.heap[B]? = some (.cells (cfg c) 32 (0, 0))) := fun w' hb => by rw [hb.block _ (by omega), ← hw1, ← hB]; exact new_row _ _ _
  have B1 : Hid (Below B w w1) := by rw [← hw1, Hid, ← hB]; exact (Below.refl _ _).alloc (Nat.le_refl _) _
  have K3 : Hid (∀ w', Below (B + 1) w1 w' → w'.cell? ⟨B, 3, none⟩ = some (.int .i64 (m : Int))) := fun w' hb => by rw [cell_of_row _ _ _ _ _ _ (R1.out w' hb), ← hmm]; rfl
  have LK : Hid (∀ w' (i : Nat), i ≤ 64 → Below (B + 1) w1 w' → Calls Try.prog 26 #[.agg (cfg c), s, .int .i64 i] w' fun e w'' => e = .returned (.tuple #[.int .i64 (rds c l i), .int .i64 (wrs c l i)]) ∧ Below (B + 1) w1 w'') := fun w' i hi hb => by
    have hs := hb.size
    refine (rlocks_of FH.out (many_mono (hM.out.below (B1.out.trans (hb.mono (by omega)))) (by omega)) i hi).mono ?_
    rintro e w'' ⟨rfl, hb2⟩
    exact ⟨rfl, hb.trans (hb2.mono (by omega))⟩
  obtain ⟨R, hR⟩ : ∃ R, rds c l = R := ⟨_, rfl⟩
  obtain ⟨W, hW⟩ : ∃ W, wrs c l = W := ⟨_, rfl⟩
  rw [hR, hW] at LK hsafe ⊢
  obtain ⟨⟨z1, z2, z3⟩, hz⟩ : ∃ z, rb R W m = z := ⟨_, rfl⟩
  rw [hz] at hsafe ⊢
  have HZ := Lib.hid hz
  dsimp only at hsafe ⊢
  have HS := Lib.hid hsafe
  clear hR hW hsafe hmm hmt hst F h hz
  go_enter Try.func28, Try.ntmps28
  go_wp2
  clear hw1
  go_loopw [10, 7, 8, 9] (fun u10 u7 u8 u9 wr => ∃ k : Nat, k ≤ m ∧ u10 = .int .i64 k ∧ u7 = .int .i64 (rb R W k).1 ∧ u8 = .int .i64 (rb R W k).2.1 ∧ u9 = .int .i64 (rb R W k).2.2 ∧ Hid (Below (B + 1) w1 wr)) (fun u10 _ _ _ _ => m - (intOf u10).toNat)
  case atStart => exact ⟨0, by omega, rfl, rfl, rfl, rfl, Below.refl _ _⟩
  case round =>
    obtain ⟨k, hk, rfl, rfl, rfl, rfl, HB⟩ := hrel
    have k3 := K3.out _ HB.out
    by_cases hlt : k < m
    · have hS : Hid (rb R W (k + 1) = if (rb R W k).1 < wrap64 (R k + W k) then (wrap64 (R k + W k), 3 + (k : Int), wrap64 (wrap64 ((rb R W k).2.2 + R k) + W k))
        else ((rb R W k).1, (rb R W k).2.1, wrap64 (wrap64 ((rb R W k).2.2 + R k) + W k))) := rfl
      obtain ⟨⟨x1, x2, x3⟩, hx⟩ : ∃ x, rb R W k = x := ⟨_, rfl⟩
      rw [hx] at hS ⊢
      have LKk := Lib.hid (LK.out wr k (by omega) HB.out)
      have RrH := Lib.hid (R1.out _ HB.out)
      obtain ⟨r, hr⟩ : ∃ r, R k = r := ⟨_, rfl⟩
      obtain ⟨v, hv⟩ : ∃ v, W k = v := ⟨_, rfl⟩
      rw [hr, hv] at LKk hS
      clear hr hv hx
      dsimp only at hS ⊢
      obtain ⟨y, hy⟩ : ∃ y, wrap64 (r + v) = y := ⟨_, rfl⟩
      rw [hy] at hS
      by_cases hyx : x1 < y
      · have hS2 : Hid (rb R W (k + 1) = (y, 3 + (k : Int), wrap64 (wrap64 (x3 + r) + v))) := by rw [Hid, hS.out, if_pos hyx]
        clear hS
        go_wp2_with (first
          | (refine wpList_load_row rfl 32 _ rfl B rfl 32 (cfg c) (0, 0) _ RrH.out Try.underlying32 rfl (cfg2_size c) ?_)
          | (go_at_call 26; refine LKk.out.mono ?_; rintro e w2 ⟨rfl, hb2⟩))
        have HB2 := Lib.hid hb2
        go_roundw
        case rel => exact ⟨k + 1, by omega, by go_num, by first | (rw [hS2.out]; done) | (rw [hS2.out, ← hy]), by rw [hS2.out], by rw [hS2.out], HB2⟩
        case measure => simp [intOf]; omega
      · have hS2 : Hid (rb R W (k + 1) = (x1, x2, wrap64 (wrap64 (x3 + r) + v))) := by rw [Hid, hS.out, if_neg hyx]
        clear hS
        go_wp2_with (first
          | (refine wpList_load_row rfl 32 _ rfl B rfl 32 (cfg c) (0, 0) _ RrH.out Try.underlying32 rfl (cfg2_size c) ?_)
          | (go_at_call 26; refine LKk.out.mono ?_; rintro e w2 ⟨rfl, hb2⟩))
        have HB2 := Lib.hid hb2
        go_roundw
        case rel => exact ⟨k + 1, by omega, by go_num, by first | (rw [hS2.out]; done) | (rw [hS2.out, ← hy]), by rw [hS2.out], by rw [hS2.out], HB2⟩
        case measure => simp [intOf]; omega
    · obtain rfl : m = k := by omega
      rw [HZ.out]
      dsimp only
      have fin : Hid (Below B w wr) := B1.out.trans (HB.out.mono (by omega))
      by_cases h0 : z1 = 0
      · subst h0
        go_wp2
        go_ret3
        exact ⟨rfl, fin.out⟩
      · have h3 := HS.out h0
        go_upto_region 12 with fail
        refine wp_region_mono B (by kernel_rfl) (by kernel_rfl) ?_
        repeat (any_goals (go_big_quiet_step (fail)))
        refine wpQuiet_nil ?_
        rintro ⟨w2, hb2⟩
        dsimp only
        have fin2 : Hid (Below B w w2) := fin.out.trans hb2
        clear fin hb2
        go_wp2
        go_ret3
        exact ⟨by first | rfl | (rw [if_neg h0]; rfl), fin2.out⟩

end RefHeat
end Go.Proofs.Ytnpieopflgkjdaa
