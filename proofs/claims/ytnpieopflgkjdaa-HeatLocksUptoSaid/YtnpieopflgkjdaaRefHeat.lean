import Derived.Test.YtnpieopflgkjdaaShare
import Derived.Test.YtnpieopflgkjdaaRefLay
namespace Go.Proofs.Ytnpieopflgkjdaa
open Go.RowKit Go.Bas
open Lay RefLay Of Txs Lock Locks Worst
namespace RefHeat

set_option maxRecDepth 100000 in
set_option maxHeartbeats 1000000 in
theorem rlock_of (c : Cfg) (a : Int) (w : World) (F : Fine c) :
    Calls Try.prog 57 #[.agg (cfg c), .int .i64 a] w fun e w' => e = .returned (.int .i64 (lockOf c a)) ∧ Below w.heap.size w w' := by
  obtain ⟨W, hW⟩ : ∃ W, words c = W := ⟨_, rfl⟩
  have hin := words_in F
  have hst := F.stripes
  rw [hW] at hin
  have hd : lockOf c a = if a < 0 ∨ W ≤ a then 0 else 3 + a % c.stripes := by unfold lockOf; rw [hW]
  rw [hd]
  have HW := Lib.hid hW
  have FH := Lib.hid F
  clear hd hW F
  obtain ⟨g, hg⟩ : ∃ g, w.heap.size = g := ⟨_, rfl⟩
  obtain ⟨w1, hw1⟩ : ∃ w1, w.alloc (.cells (cfg c) 32) = w1 := ⟨_, rfl⟩
  have hs1 : w1.heap.size = g + 1 := by rw [← hw1, ← hg]; simp
  have R1 : Hid (w1.heap[g]? = some (.cells (cfg c) 32 (0, 0))) := by rw [← hw1, ← hg]; exact new_row _ _ _
  have B1 : Hid (Below g w w1) := by rw [← hw1, ← hg]; exact (Below.refl _ _).alloc (Nat.le_refl _) _
  rw [hg]
  go_enter Try.func57, Try.ntmps57
  by_cases h0 : a < 0
  · go_upto_region 1 with fail
    clear hw1
    go_wp2
    go_ret
    exact ⟨rfl, B1.out⟩
  · go_upto_region 1 with fail
    clear hw1
    by_cases h2 : W ≤ a
    · go_wp2_with (first
        | (refine wpList_load_row_if rfl 32 _ rfl g rfl 32 (cfg c) (0, 0) _ R1.out Try.underlying32 rfl (cfg2_size _) ?_)
        | (go_at_call 51; refine (words_of c _ FH.out).mono ?_; rintro e w2 ⟨rfl, hb2⟩; rw [HW.out]))
      go_ret
      exact ⟨rfl, B1.out.trans (hb2.mono (by omega))⟩
    · have hm : a.tmod c.stripes = a % c.stripes := Int.tmod_eq_emod_of_nonneg (by omega)
      have e1 := Int.emod_nonneg a (b := c.stripes) (by omega)
      have e2 := Int.emod_lt_of_pos a (b := c.stripes) (by omega)
      go_wp2_with (first
        | (refine wpList_load_row_if rfl 32 _ rfl g rfl 32 (cfg c) (0, 0) _ R1.out Try.underlying32 rfl (cfg2_size _) ?_)
        | (go_at_call 51; refine (words_of c _ FH.out).mono ?_; rintro e w2 ⟨rfl, hb2⟩; rw [HW.out]
           have k3 : w2.cell? ⟨g, 3, none⟩ = some (.int .i64 c.stripes) := by rw [hb2.cell (by show g < w1.heap.size; omega), cell_of_row _ _ _ _ _ _ R1.out]; rfl))
      go_ret
      exact ⟨rfl, B1.out.trans (hb2.mono (by omega))⟩

set_option maxRecDepth 100000 in
set_option maxHeartbeats 4000000 in
theorem rlocks_of {c : Cfg} (F : Fine c) {w : World} {s : Value} {l : List Tx} (h : Many w w.heap.size s l) (i : Nat) (hi : i ≤ 64) :
    Calls Try.prog 26 #[.agg (cfg c), s, .int .i64 i] w fun e w' => e = .returned (.tuple #[.int .i64 (rds c l i), .int .i64 (wrs c l i)]) ∧ Below w.heap.size w w' := by
  obtain ⟨A, cp, rfl, hm, hc⟩ := id h
  have hM := Lib.hid h
  have hm : l.length ≤ 9223372036854775807 := hm
  clear hc h
  obtain ⟨n, hn⟩ : ∃ n, l.length = n := ⟨_, rfl⟩
  obtain ⟨B, hB⟩ : ∃ B, w.heap.size = B := ⟨_, rfl⟩
  have HN := Lib.hid hn
  rw [hB] at hM ⊢
  rw [hn] at hM hm ⊢
  have FH := Lib.hid F
  clear hn F
  obtain ⟨w1, hw1⟩ : ∃ w1, w.alloc (.cells (cfg c) 32) = w1 := ⟨_, rfl⟩
  have s1 : w1.heap.size = B + 1 := by rw [← hw1, ← hB]; simp
  have R1 : Hid (∀ w', Below (B + 1) w1 w' → w'.heap[B]? = some (.cells (cfg c) 32 (0, 0))) := fun w' hb => by rw [hb.block _ (by omega), ← hw1, ← hB]; exact new_row _ _ _
  have B1 : Hid (Below B w w1) := by rw [← hw1, Hid, ← hB]; exact (Below.refl _ _).alloc (Nat.le_refl _) _
  have M1 : Hid (∀ w', Below (B + 1) w1 w' → Many w' B (.slice A n cp) l) := fun w' hb => by
    have := hM.out.below (B1.out.trans (hb.mono (by omega)))
    exact this
  go_enter Try.func26, Try.ntmps26
  go_wp2
  go_loopw [10, 8, 9] (fun u10 u8 u9 wr => ∃ k : Nat, k ≤ n ∧ u10 = .int .i64 k ∧ u8 = .int .i64 (rds c (l.take k) i) ∧ u9 = .int .i64 (wrs c (l.take k) i) ∧ Hid (Below (B + 1) w1 wr)) (fun u10 _ _ _ => n - (intOf u10).toNat)
  case atStart => exact ⟨0, by omega, rfl, rfl, rfl, Below.refl _ _⟩
  case round =>
    obtain ⟨k, hk, rfl, rfl, rfl, HB⟩ := hrel
    by_cases hlt : k < n
    · have hlen : k < l.length := by rw [HN.out]; exact hlt
      obtain ⟨b, off, r, z, rfl, hbB, hrow, hp6, hp7⟩ := Heat.at_row (show Many w1 B (.slice A l.length cp) l by rw [HN.out]; exact M1.out w1 (Below.refl _ _)) hlen
      have hnr := rds_next (c := c) hlen i
      have hnw := wrs_next (c := c) hlen i
      obtain ⟨t, ht⟩ : ∃ t, l[k] = t := ⟨_, rfl⟩
      rw [ht] at hrow hp6 hp7 hnr hnw
      obtain ⟨R, hR⟩ : ∃ R, rds c (l.take k) i = R := ⟨_, rfl⟩
      obtain ⟨W, hW⟩ : ∃ W, wrs c (l.take k) i = W := ⟨_, rfl⟩
      rw [hR] at hnr ⊢
      rw [hW] at hnw ⊢
      have HNR := Lib.hid hnr; have HNW := Lib.hid hnw
      clear hnr hnw ht hR hW
      obtain ⟨A6, c6, rfl, m6, _⟩ := id hp6
      obtain ⟨A7, c7, rfl, m7, _⟩ := id hp7
      have m6 : t.reads.length ≤ 9223372036854775807 := m6
      have m7 : t.writes.length ≤ 9223372036854775807 := m7
      have HP6 : Hid (∀ w', Below (B + 1) w1 w' → Pairs w' B (.slice A6 t.reads.length c6) t.reads) := fun w' hb => hp6.below (hb.mono (by omega))
      have HP7 : Hid (∀ w', Below (B + 1) w1 w' → Pairs w' B (.slice A7 t.writes.length c7) t.writes) := fun w' hb => hp7.below (hb.mono (by omega))
      obtain ⟨n6, hn6⟩ : ∃ n6, t.reads.length = n6 := ⟨_, rfl⟩
      obtain ⟨n7, hn7⟩ : ∃ n7, t.writes.length = n7 := ⟨_, rfl⟩
      rw [hn6] at hrow HP6 m6
      rw [hn7] at hrow HP7 m7
      have HN6 := Lib.hid hn6; have HN7 := Lib.hid hn7
      have K5 : Hid (∀ w', Below (B + 1) w1 w' → w'.cell? ⟨b, off + k * 8 + 5, none⟩ = some (.bool t.sure)) := fun w' hb => by rw [hb.cell (show b < B + 1 by omega)]; exact hrow 5 _ rfl
      have K6 : Hid (∀ w', Below (B + 1) w1 w' → w'.cell? ⟨b, off + k * 8 + 6, none⟩ = some (.slice A6 n6 c6)) := fun w' hb => by rw [hb.cell (show b < B + 1 by omega)]; exact hrow 6 _ rfl
      have K7 : Hid (∀ w', Below (B + 1) w1 w' → w'.cell? ⟨b, off + k * 8 + 7, none⟩ = some (.slice A7 n7 c7)) := fun w' hb => by rw [hb.cell (show b < B + 1 by omega)]; exact hrow 7 _ rfl
      clear hn6 hn7 hp6 hp7 hrow ‹0 < t.reads.length → _› ‹0 < t.writes.length → _›
      go_wp2
      go_loopw [11, 8] (fun u11 u8 wr => ∃ j : Nat, j ≤ n6 ∧ u11 = .int .i64 j ∧ u8 = .int .i64 (hit c i R (t.reads.take j)) ∧ Hid (Below (B + 1) w1 wr)) (fun u11 _ _ => n6 - (intOf u11).toNat)
      case atStart => exact ⟨0, by omega, rfl, rfl, HB⟩
      case round =>
        clear HB
        obtain ⟨j, hj, rfl, rfl, HB⟩ := hrel
        have k6 := K6.out _ HB.out
        by_cases hjl : j < n6
        · have hjlen : j < t.reads.length := by rw [HN6.out]; exact hjl
          have hrow := (Meet.pair_row (HP6.out _ HB.out)).2
          obtain ⟨b6, off6, rfl, hb6, hrow⟩ := hrow j hjlen
          have hnx := hit_next (c := c) (i := i) (n := R) hjlen
          obtain ⟨x, hx⟩ : ∃ x, t.reads[j].1 = x := ⟨_, rfl⟩
          rw [hx] at hrow hnx
          have hws := HB.out.size
          have hgB : B + 1 ≤ wr.heap.size := by omega
          have z6 : ∀ e : Ext (B + 1) wr, e.at_.cell? ⟨b, off + k * 8 + 6, none⟩ = some (.slice (some ⟨b6, off6, none⟩) n6 c6) := fun e => K6.out _ (HB.out.trans e.below)
          have z0 : ∀ e : Ext (B + 1) wr, e.at_.cell? ⟨b6, off6 + j * 2, none⟩ = some (.int .i64 x) := fun e => by rw [e.below.cell (show b6 < B + 1 by omega)]; exact hrow 0 _ rfl
          obtain ⟨h0, hh0⟩ : ∃ y, hit c i R (t.reads.take j) = y := ⟨_, rfl⟩
          rw [hh0] at hnx ⊢
          have HX := Lib.hid hnx
          obtain ⟨L, hL⟩ : ∃ L, lockOf c x = L := ⟨_, rfl⟩
          rw [hL] at HX
          have RL : Hid (∀ w, Calls Try.prog 57 #[.agg (cfg c), .int .i64 x] w fun e w' => e = .returned (.int .i64 L) ∧ Below w.heap.size w w') := fun w => by rw [← hL]; exact rlock_of c x w FH.out
          have Rr := R1.out _ HB.out
          have RrH := Lib.hid Rr
          clear Rr hrow hx hh0 hnx hL hjlen
          go_upto_region 8 with fail
          refine wp_region_mono (B + 1) (by kernel_rfl) (by kernel_rfl) ?_
          repeat (any_goals (first
            | (refine wpQuiet_load_row rfl 32 _ rfl B rfl 32 (cfg c) (0, 0) _ (ext_row RrH.out (by omega)) Try.underlying32 rfl (cfg2_size c) ?_; go_simp)
            | go_big_quiet_step ((go_at_call 57; exact Calls.ext hgB (RL.out _)))))
          refine wpQuiet_nil ?_
          rintro ⟨w2, hb2⟩
          dsimp only
          have H2 : Hid (Below (B + 1) w1 w2) := HB.out.trans hb2
          clear z6 z0 hb2 k6 HB RrH
          by_cases hz : L = 3 + i
          · rw [if_pos hz] at HX
            subst hz
            go_wp2
            go_roundw
            case rel => exact ⟨j + 1, by omega, by go_num, by rw [HX.out], H2⟩
            case measure => simp [intOf]; omega
          · rw [if_neg hz] at HX
            go_wp2
            go_roundw
            case rel => exact ⟨j + 1, by omega, by go_num, by rw [HX.out], H2⟩
            case measure => simp [intOf]; omega
        · obtain rfl : n6 = j := by omega
          have e1 : t.reads.take n6 = t.reads := by rw [← HN6.out, List.take_length]
          rw [e1, ← HNR.out]
          clear e1
          go_wp2
          clear HNR HP6 K6 k6
          obtain ⟨R2, hR2⟩ : ∃ R2, rds c (l.take (k + 1)) i = R2 := ⟨_, rfl⟩
          rw [hR2]
          have HR2 := Lib.hid hR2
          clear hR2
          cases hs : t.sure with
          | true =>
            rw [hs] at K5
            have HNW2 : Hid (wrs c (l.take (k + 1)) i = hit c i W t.writes) := by rw [Hid, HNW.out, hs]; rfl
            clear hs HNW
            go_loopw [12, 9] (fun u12 u9 wr => ∃ j : Nat, j ≤ n7 ∧ u12 = .int .i64 j ∧ u9 = .int .i64 (hit c i W (t.writes.take j)) ∧ Hid (Below (B + 1) w1 wr)) (fun u12 _ _ => n7 - (intOf u12).toNat)
            case atStart => exact ⟨0, by omega, rfl, rfl, HB⟩
            case round =>
              clear HB
              obtain ⟨j, hj, rfl, rfl, HB⟩ := hrel
              have k7 := K7.out _ HB.out
              have k5 := K5.out _ HB.out
              by_cases hjl : j < n7
              · have hjlen : j < t.writes.length := by rw [HN7.out]; exact hjl
                have hrow := (Meet.pair_row (HP7.out _ HB.out)).2
                obtain ⟨b6, off6, rfl, hb6, hrow⟩ := hrow j hjlen
                have hnx := hit_next (c := c) (i := i) (n := W) hjlen
                obtain ⟨x, hx⟩ : ∃ x, t.writes[j].1 = x := ⟨_, rfl⟩
                rw [hx] at hrow hnx
                have hws := HB.out.size
                have hgB : B + 1 ≤ wr.heap.size := by omega
                have z6 : ∀ e : Ext (B + 1) wr, e.at_.cell? ⟨b, off + k * 8 + 7, none⟩ = some (.slice (some ⟨b6, off6, none⟩) n7 c7) := fun e => K7.out _ (HB.out.trans e.below)
                have z0 : ∀ e : Ext (B + 1) wr, e.at_.cell? ⟨b6, off6 + j * 2, none⟩ = some (.int .i64 x) := fun e => by rw [e.below.cell (show b6 < B + 1 by omega)]; exact hrow 0 _ rfl
                obtain ⟨h0, hh0⟩ : ∃ y, hit c i W (t.writes.take j) = y := ⟨_, rfl⟩
                rw [hh0] at hnx ⊢
                have HX := Lib.hid hnx
                obtain ⟨L, hL⟩ : ∃ L, lockOf c x = L := ⟨_, rfl⟩
                rw [hL] at HX
                have RL : Hid (∀ w, Calls Try.prog 57 #[.agg (cfg c), .int .i64 x] w fun e w' => e = .returned (.int .i64 L) ∧ Below w.heap.size w w') := fun w => by rw [← hL]; exact rlock_of c x w FH.out
                have Rr := R1.out _ HB.out
                have RrH := Lib.hid Rr
                clear Rr hrow hx hh0 hnx hL hjlen
                go_upto_region 13 with fail
                refine wp_region_mono (B + 1) (by kernel_rfl) (by kernel_rfl) ?_
                repeat (any_goals (first
                  | (refine wpQuiet_load_row rfl 32 _ rfl B rfl 32 (cfg c) (0, 0) _ (ext_row RrH.out (by omega)) Try.underlying32 rfl (cfg2_size c) ?_; go_simp)
                  | go_big_quiet_step ((go_at_call 57; exact Calls.ext hgB (RL.out _)))))
                refine wpQuiet_nil ?_
                rintro ⟨w2, hb2⟩
                dsimp only
                have H2 : Hid (Below (B + 1) w1 w2) := HB.out.trans hb2
                clear z6 z0 hb2 k5 k7 HB RrH
                by_cases hz : L = 3 + i
                · rw [if_pos hz] at HX
                  subst hz
                  go_wp2
                  go_roundw
                  case rel => exact ⟨j + 1, by omega, by go_num, by rw [HX.out], H2⟩
                  case measure => simp [intOf]; omega
                · rw [if_neg hz] at HX
                  go_wp2
                  go_roundw
                  case rel => exact ⟨j + 1, by omega, by go_num, by rw [HX.out], H2⟩
                  case measure => simp [intOf]; omega
              · obtain rfl : n7 = j := by omega
                have e1 : t.writes.take n7 = t.writes := by rw [← HN7.out, List.take_length]
                rw [e1, ← HNW2.out]
                clear e1
                go_wp2
                go_roundw
                case rel => exact ⟨k + 1, by omega, by go_num, by rw [HR2.out], rfl, HB⟩
                case measure => simp [intOf]; omega
          | false =>
            rw [hs] at K5
            have HNW2 : Hid (wrs c (l.take (k + 1)) i = W) := by rw [Hid, HNW.out, hs]; rfl
            clear hs HNW
            go_loopw [12, 9] (fun u12 u9 wr => u12 = .int .i64 0 ∧ u9 = .int .i64 W ∧ Hid (Below (B + 1) w1 wr)) (fun u12 _ _ => 0)
            case atStart => exact ⟨rfl, rfl, HB⟩
            case round =>
              clear HB
              obtain ⟨rfl, rfl, HB⟩ := hrel
              have k7 := K7.out _ HB.out
              have k5 := K5.out _ HB.out
              by_cases h7 : 0 < n7
              · go_wp2
                go_roundw
                case rel => exact ⟨k + 1, by omega, by go_num, by rw [HR2.out], by rw [HNW2.out], HB⟩
                case measure => simp [intOf]; omega
              · go_wp2
                go_roundw
                case rel => exact ⟨k + 1, by omega, by go_num, by rw [HR2.out], by rw [HNW2.out], HB⟩
                case measure => simp [intOf]; omega
    · obtain rfl : n = k := by omega
      have e1 : l.take n = l := by rw [← HN.out, List.take_length]
      rw [e1]
      clear e1
      go_wp2
      go_ret2
      exact ⟨rfl, B1.out.trans (HB.out.mono (by omega))⟩

end RefHeat
end Go.Proofs.Ytnpieopflgkjdaa
