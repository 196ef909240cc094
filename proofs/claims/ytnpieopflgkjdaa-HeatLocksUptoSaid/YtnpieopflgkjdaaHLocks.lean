import Derived.Test.YtnpieopflgkjdaaHPlain
import Derived.Test.YtnpieopflgkjdaaHLives
import Derived.Test.YtnpieopflgkjdaaBegin
import Derived.Test.YtnpieopflgkjdaaCfgIn
namespace Go.Proofs.Ytnpieopflgkjdaa
open Go.RowKit Go.Bas
open Lay RefLay Of Txs Worst
namespace HLocks

set_option maxRecDepth 100000 in
set_option maxHeartbeats 8000000 in
theorem walk_many (c0 : Cfg) {w : World} {s : Value} {l : List Tx} (h : Many w w.heap.size s l) (hT : total l ≤ 1048576) :
    Calls Try.prog 5 #[.agg (cfg c0), s] w fun e w' => e = .returned (.bool true) ∧ Below w.heap.size w w' := by
  obtain ⟨c, hc⟩ : ∃ c, Small_.small c0 = c := ⟨_, rfl⟩
  have F : Fine c := by rw [← hc]; exact Small_.small_fine c0
  obtain ⟨told1, told2, told3⟩ := RefHeat.told F hT
  have hbr := RefHeat.big_rb (Locks.rds c l) (Locks.wrs c l) c.stripes.toNat
  have hst := F.stripes
  have BG := fun w => Begin_.begin_of c0 w
  rw [hc] at BG
  obtain ⟨m, hmm⟩ : ∃ m : Nat, c.stripes = m := ⟨c.stripes.toNat, by omega⟩
  have hmt : c.stripes.toNat = m := by omega
  have h64 : m ≤ 64 := by omega
  have h1 : 1 ≤ m := by omega
  obtain ⟨B, hB⟩ : ∃ B, w.heap.size = B := ⟨_, rfl⟩
  obtain ⟨W, hW⟩ : ∃ W, (words c).toNat = W := ⟨_, rfl⟩
  obtain ⟨p, hp⟩ : ∃ p, places c = p := ⟨_, rfl⟩
  rw [hW, hp] at BG
  have hM := Lib.hid h
  rw [hB] at hM ⊢
  obtain ⟨b, hb⟩ : ∃ b, Heat.greatB l = b := ⟨_, rfl⟩
  -- the contracts, in every world behind w
  have MM : Hid (∀ w', Below B w w' → Many w' w'.heap.size s l) := fun w' hb => many_mono (hM.out.below hb) (by have := hb.size; omega)
  have GR : Hid (∀ w', Below B w w' → Calls Try.prog 20 #[s] w' fun e w'' => e = .returned (.bool b) ∧ ∃ k, w'' = w'.drewN k) := fun w' hb' => by
    have := Heat.great_any (MM.out w' hb')
    rwa [hb] at this
  have c1 : Hid (∀ w', Below B w w' → Calls Try.prog 25 #[.agg (lay c p), s] w' fun e w'' => ∃ q, e = .returned (.slice (some ⟨q, 0, none⟩) m m) ∧ w'.heap.size ≤ q ∧ Locks.Cnts w'' q m (Locks.rds c l) (Locks.wrs c l) ∧ Below w'.heap.size w' w'') := fun w' hb => by
    have := Locks.locks_any F (MM.out w' hb)
    rwa [hmt, hp] at this
  have c2 : Hid (∀ w' (i : Nat), i ≤ 64 → Below B w w' → Calls Try.prog 26 #[.agg (cfg c), s, .int .i64 i] w' fun e w'' => e = .returned (.tuple #[.int .i64 (Locks.rds c l i), .int .i64 (Locks.wrs c l i)]) ∧ Below w'.heap.size w' w'') := fun w' i hi hb => RefHeat.rlocks_of F (MM.out w' hb) i hi
  have c3 : Hid (∀ w', Below B w w' → Calls Try.prog 27 #[.agg (lay c p), s] w' fun e w'' => e = .returned (.tuple #[.int .i64 (RefHeat.rb (Locks.rds c l) (Locks.wrs c l) m).2.1, .bool (decide (0 < (RefHeat.rb (Locks.rds c l) (Locks.wrs c l) m).2.2))]) ∧ Below w'.heap.size w' w'') := fun w' hb => by
    have := most_any F (MM.out w' hb)
    rwa [hbr.2.1, hbr.2.2, hmt, hp] at this
  have c4 : Hid (∀ w', Below B w w' → Calls Try.prog 28 #[.agg (cfg c), s] w' fun e w'' => e = .returned (.tuple (if (RefHeat.rb (Locks.rds c l) (Locks.wrs c l) m).1 = 0 then #[.int .i64 0, .int .i64 0, .bool false]
      else #[.int .i64 (RefHeat.rb (Locks.rds c l) (Locks.wrs c l) m).2.1, .int .i64 (wrap64 ((wrap64 (100 * (RefHeat.rb (Locks.rds c l) (Locks.wrs c l) m).1)).tdiv (RefHeat.rb (Locks.rds c l) (Locks.wrs c l) m).2.2)), .bool true])) ∧ Below w'.heap.size w' w'') := fun w' hb => by
    have := RefHeat.rworst_of F (MM.out w' hb) told1
    rwa [hmt] at this
  have c5 : Hid (∀ w', Below B w w' → Calls Try.prog 29 #[.agg (lay c p), s] w' fun e w'' => e = .returned (.int .i64 (if (RefHeat.rb (Locks.rds c l) (Locks.wrs c l) m).2.2 = 0 then 0 else wrap64 ((wrap64 (100 * (RefHeat.rb (Locks.rds c l) (Locks.wrs c l) m).1)).tdiv (RefHeat.rb (Locks.rds c l) (Locks.wrs c l) m).2.2))) ∧ Below w'.heap.size w' w'') := fun w' hb => by
    have := share_any F (MM.out w' hb)
    rwa [hbr.1, hbr.2.2, hmt, hp] at this
  rw [hmt] at told1 told2 told3
  obtain ⟨⟨z1, z2, z3⟩, hz⟩ : ∃ z, RefHeat.rb (Locks.rds c l) (Locks.wrs c l) m = z := ⟨_, rfl⟩
  rw [hz] at c3 c4 c5 told1 told2 told3
  dsimp only at c3 c4 c5 told1 told2 told3
  obtain ⟨R, hR⟩ : ∃ R, Locks.rds c l = R := ⟨_, rfl⟩
  obtain ⟨V, hV⟩ : ∃ V, Locks.wrs c l = V := ⟨_, rfl⟩
  rw [hR, hV] at c1 c2
  have BGH := Lib.hid BG
  have TD1 := Lib.hid told1; have TD2 := Lib.hid told2; have TD3 := Lib.hid told3; have HMM := Lib.hid hmm
  clear told1 told2 told3 hbr hst BG hmm hmt hW hp hz hR hV F hc hT h hb
  obtain ⟨w1, hw1⟩ : ∃ w1, w.alloc (.cells (cfg c0) 23) = w1 := ⟨_, rfl⟩
  have s1 : w1.heap.size = B + 1 := by rw [← hw1, ← hB]; simp
  have R1 : Hid (w1.heap[B]? = some (.cells (cfg c0) 23 (0, 0))) := by rw [← hw1, ← hB]; exact new_row _ _ _
  have B1 : Hid (Below B w w1) := by rw [← hw1, Hid, ← hB]; exact (Below.refl _ _).alloc (Nat.le_refl _) _
  go_enter Try.func5, Try.ntmps5
  cases b with
  | true =>
    go_wp2_with (first
      | (go_at_call 20; refine (GR.out _ B1.out).mono ?_; rintro e w' ⟨rfl, k, rfl⟩)
      | (go_at_call 21; refine (HLives.lives_any _).mono ?_; rintro e w2 ⟨rfl, hb2⟩))
    go_ret
    exact ⟨rfl, B1.out.trans ((drewN_below B w1 k).trans (hb2.mono (by show B ≤ w1.heap.size; omega)))⟩
  | false =>
    go_upto_region 3 with (first
      | (go_at_call 20; refine (GR.out _ B1.out).mono ?_; rintro e w' ⟨rfl, k, rfl⟩))
    obtain ⟨w2, hw2⟩ : ∃ w2, w1.drewN k = w2 := ⟨_, rfl⟩
    have B2 : Hid (Below B w w2) := by rw [← hw2]; exact B1.out.trans (drewN_below B w1 k)
    have R2 : Hid (w2.heap[B]? = some (.cells (cfg c0) 23 (0, 0))) := by rw [← hw2]; exact R1.out
    rw [hw2]
    clear hw2 hw1 R1 B1 GR s1
    go_upto_region 4 with (first
      | (refine wpList_load_row rfl 23 _ rfl B rfl 23 (cfg c0) (0, 0) _ R2.out Try.underlying23 rfl (cfg_size _) ?_)
      | (go_at_call 24; refine (BGH.out _).mono ?_; rintro e w3 ⟨q0, rfl, hq0, hz0, hb3⟩
         obtain ⟨g, hg⟩ : ∃ g, w3.heap.size = g := ⟨_, rfl⟩
         obtain ⟨w4, hw4⟩ : ∃ w4, (w3.alloc (.cells #[.int .i64 0, .int .i64 0, .int .i64 0, .int .i64 0, .int .i64 0, .int .i64 0, .int .i64 0, .int .i64 0, .int .i64 0, .int .i64 0, .int .i64 0, .int .i64 0, .int .i64 0, .int .i64 0, .int .i64 0, .int .i64 0, .int .i64 0, .int .i64 0, .int .i64 0, .int .i64 0, .int .i64 0, .int .i64 0, .int .i64 0] 27)).alloc (.cells #[.int .i64 0, .int .i64 0, .int .i64 0, .int .i64 0, .int .i64 0, .int .i64 0, .int .i64 0, .int .i64 0, .int .i64 0, .int .i64 0, .int .i64 0] 32) = w4 := ⟨_, rfl⟩
         have L4 : Hid (w4.heap[g]? = some (.cells #[.int .i64 0, .int .i64 0, .int .i64 0, .int .i64 0, .int .i64 0, .int .i64 0, .int .i64 0, .int .i64 0, .int .i64 0, .int .i64 0, .int .i64 0, .int .i64 0, .int .i64 0, .int .i64 0, .int .i64 0, .int .i64 0, .int .i64 0, .int .i64 0, .int .i64 0, .int .i64 0, .int .i64 0, .int .i64 0, .int .i64 0] 27 (0, 0))) := by rw [← hw4, Hid, alloc_heap _ _ _ (by simp; omega), ← hg]; exact new_row _ _ _
         have Z4 : Hid ((w4.setRow g (lay c p)).heap[g + 1]? = some (.cells #[.int .i64 0, .int .i64 0, .int .i64 0, .int .i64 0, .int .i64 0, .int .i64 0, .int .i64 0, .int .i64 0, .int .i64 0, .int .i64 0, .int .i64 0] 32 (0, 0))) := by
           rw [Hid, setRow_other _ _ _ _ (by omega), ← hw4, show g + 1 = (w3.alloc (.cells #[.int .i64 0, .int .i64 0, .int .i64 0, .int .i64 0, .int .i64 0, .int .i64 0, .int .i64 0, .int .i64 0, .int .i64 0, .int .i64 0, .int .i64 0, .int .i64 0, .int .i64 0, .int .i64 0, .int .i64 0, .int .i64 0, .int .i64 0, .int .i64 0, .int .i64 0, .int .i64 0, .int .i64 0, .int .i64 0, .int .i64 0] 27)).heap.size by rw [← hg]; simp]
           exact new_row _ _ _)
      | (refine wpList_store_row rfl 27 _ _ rfl g (lay c p) rfl rfl 27 #[.int .i64 0, .int .i64 0, .int .i64 0, .int .i64 0, .int .i64 0, .int .i64 0, .int .i64 0, .int .i64 0, .int .i64 0, .int .i64 0, .int .i64 0, .int .i64 0, .int .i64 0, .int .i64 0, .int .i64 0, .int .i64 0, .int .i64 0, .int .i64 0, .int .i64 0, .int .i64 0, .int .i64 0, .int .i64 0, .int .i64 0] L4.out (lay_size _ _) rfl (lay_one _ _) ?_)
      | (refine wpList_store_row rfl 32 _ _ rfl (g + 1) (cfg c) rfl rfl 32 #[.int .i64 0, .int .i64 0, .int .i64 0, .int .i64 0, .int .i64 0, .int .i64 0, .int .i64 0, .int .i64 0, .int .i64 0, .int .i64 0, .int .i64 0] Z4.out (cfg2_size _) rfl (cfg_one _) ?_))
    obtain ⟨w5, hw5⟩ : ∃ w5, (w4.setRow g (lay c p)).setRow (g + 1) (cfg c) = w5 := ⟨_, rfl⟩
    have hs2 := B2.out.size
    have hs3 := hb3.size
    have L5 : Hid (w5.heap[g]? = some (.cells (lay c p) 27 (0, 0))) := by rw [← hw5, Hid, setRow_other _ _ _ _ (by omega)]; exact setRow_same L4.out
    have Z5 : Hid (w5.heap[g + 1]? = some (.cells (cfg c) 32 (0, 0))) := by rw [← hw5]; exact setRow_same Z4.out
    have B5 : Hid (Below B w w5) := by rw [← hw5, ← hw4]; exact setRow_below (setRow_below (((B2.out.trans (hb3.mono (by omega))).alloc (by omega) _).alloc (by simp; omega) _) (by omega) _) (by omega) _
    have s5 : w5.heap.size = g + 2 := by rw [← hw5, setRow_size, setRow_size, ← hw4]; simp; omega
    rw [hw5]
    clear hw5 hw4 L4 Z4 B2 R2 hb3 hz0 hq0
    go_upto_region 5 with (first
      | (refine wpList_load_row rfl 27 _ rfl g rfl 27 (lay c p) (0, 0) _ L5.out Try.underlying27 rfl (lay_size _ _) ?_)
      | (go_at_call 25; refine (c1.out _ B5.out).mono ?_; rintro e w6 ⟨q, rfl, hq, hC, hb6⟩))
    have hs6 := hb6.size
    have L6 : Hid (w6.heap[g]? = some (.cells (lay c p) 27 (0, 0))) := by rw [Hid, hb6.block _ (by omega)]; exact L5.out
    have Z6 : Hid (w6.heap[g + 1]? = some (.cells (cfg c) 32 (0, 0))) := by rw [Hid, hb6.block _ (by omega)]; exact Z5.out
    have B6 : Hid (Below B w w6) := B5.out.trans (hb6.mono (by omega))
    have C6 := Lib.hid hC
    have hBw : B ≤ w6.heap.size := by omega
    have hgw : g + 1 < w6.heap.size := by omega
    have hqw := hC.lt
    have k3 : w6.cell? ⟨g + 1, 3, none⟩ = some (.int .i64 (m : Int)) := by rw [cell_of_row _ _ _ _ _ _ Z6.out, ← HMM.out]; rfl
    clear hC hb6 L5 Z5 B5 s5
    go_wp2
    clear k3
    go_loopw [9] (fun u9 wr => ∃ k : Nat, k ≤ m ∧ u9 = .int .i64 k ∧ Hid (Below w6.heap.size w6 wr)) (fun u9 _ => m - (intOf u9).toNat)
    case atStart => exact ⟨0, by omega, rfl, Below.refl _ _⟩
    case round =>
      obtain ⟨k, hk, rfl, HB⟩ := hrel
      have hsr := HB.out.size
      have BR : Hid (Below B w wr) := B6.out.trans (HB.out.mono hBw)
      by_cases hlt : k < m
      · have ZR : Hid (wr.heap[g + 1]? = some (.cells (cfg c) 32 (0, 0))) := by rw [Hid, HB.out.block _ (by omega)]; exact Z6.out
        have CR : Hid (Locks.Cnts wr q m R V) := C6.out.block (HB.out.block _ hqw)
        have ck := Lib.hid (c2.out wr k (by omega) BR.out)
        obtain ⟨r, hr⟩ : ∃ r, R k = r := ⟨_, rfl⟩
        obtain ⟨v, hv⟩ : ∃ v, V k = v := ⟨_, rfl⟩
        have HRow : Hid (∀ w', Below wr.heap.size wr w' → w'.rangeAt q (k * 3) [.int .i64 (3 + (k : Int)), .int .i64 r, .int .i64 v]) := fun w' hb => by rw [← hr, ← hv]; exact cnt_range (CR.out.block (hb.block _ (by omega))) hlt
        rw [hr, hv] at ck
        clear hr hv CR
        go_wp2_with (first
          | (refine wpList_load_row rfl 32 _ rfl (g + 1) rfl 32 (cfg c) (0, 0) _ ZR.out Try.underlying32 rfl (cfg2_size _) ?_)
          | (go_at_call 26; refine ck.out.mono ?_; rintro e w7 ⟨rfl, hb7⟩)
          | (refine wpList_load_mid rfl 51 _ rfl q (k * 3) (by first | rfl | simp) [.int .i64 (3 + (k : Int)), .int .i64 r, .int .i64 v] _ (HRow.out _ hb7) Try.underlying51 rfl lock_size ?_))
        have HB7 : Hid (Below w6.heap.size w6 w7) := HB.out.trans (hb7.mono hsr)
        go_roundw
        case rel => exact ⟨k + 1, by omega, by go_num, HB7⟩
        case measure => simp [intOf]; omega
      · obtain rfl : m = k := by omega
        have LR : Hid (∀ w', Below w6.heap.size w6 w' → w'.heap[g]? = some (.cells (lay c p) 27 (0, 0))) := fun w' hb => by rw [hb.block _ (by omega)]; exact L6.out
        have ZR : Hid (∀ w', Below w6.heap.size w6 w' → w'.heap[g + 1]? = some (.cells (cfg c) 32 (0, 0))) := fun w' hb => by rw [hb.block _ (by omega)]; exact Z6.out
        have BA : Hid (∀ w', Below w6.heap.size w6 w' → Below B w w') := fun w' hb => B6.out.trans (hb.mono hBw)
        have HB0 := HB.out
        clear BR
        by_cases h0 : z1 = 0
        · obtain ⟨g2, g3⟩ := TD2.out h0
          have d3 : Hid (∀ w', Below w6.heap.size w6 w' → Calls Try.prog 27 #[.agg (lay c p), s] w' fun e w'' => e = .returned (.tuple #[.int .i64 0, .bool false]) ∧ Below w6.heap.size w6 w'') := fun w' hb => by
            refine (c3.out w' (BA.out _ hb)).mono ?_
            rintro e w'' ⟨rfl, hb2⟩
            exact ⟨by subst h0 g2 g3; first | rfl | simp, hb.trans (hb2.mono hb.size)⟩
          have d4 : Hid (∀ w', Below w6.heap.size w6 w' → Calls Try.prog 28 #[.agg (cfg c), s] w' fun e w'' => e = .returned (.tuple #[.int .i64 0, .int .i64 0, .bool false]) ∧ Below w6.heap.size w6 w'') := fun w' hb => by
            refine (c4.out w' (BA.out _ hb)).mono ?_
            rintro e w'' ⟨rfl, hb2⟩
            exact ⟨by subst h0 g2 g3; first | rfl | simp, hb.trans (hb2.mono hb.size)⟩
          have d5 : Hid (∀ w', Below w6.heap.size w6 w' → Calls Try.prog 29 #[.agg (lay c p), s] w' fun e w'' => e = .returned (.int .i64 0) ∧ Below w6.heap.size w6 w'') := fun w' hb => by
            refine (c5.out w' (BA.out _ hb)).mono ?_
            rintro e w'' ⟨rfl, hb2⟩
            exact ⟨by subst h0 g2 g3; first | rfl | simp, hb.trans (hb2.mono hb.size)⟩
          clear c3 c4 c5 h0 g2 g3
          go_wp2_with (first
            | (refine wpList_load_row_if rfl 27 _ rfl g rfl 27 (lay c p) (0, 0) _ (LR.out _ (by assumption)) Try.underlying27 rfl (lay_size _ _) ?_)
            | (refine wpList_load_row_if rfl 32 _ rfl (g + 1) rfl 32 (cfg c) (0, 0) _ (ZR.out _ (by assumption)) Try.underlying32 rfl (cfg2_size _) ?_)
            | (go_at_call 27; refine (d3.out _ (by assumption)).mono ?_; rintro e w8 ⟨rfl, hb8⟩)
            | (go_at_call 28; refine (d4.out _ (by assumption)).mono ?_; rintro e w9 ⟨rfl, hb9⟩)
            | (go_at_call 29; refine (d5.out _ (by assumption)).mono ?_; rintro e w10 ⟨rfl, hb10⟩)
            | (go_at_call 21; refine (HLives.lives_any _).mono ?_; rintro e w11 ⟨rfl, hb11⟩))
          go_ret
          exact ⟨rfl, (BA.out _ hb10).trans (hb11.mono (by have := (BA.out _ hb10).size; omega))⟩
        · have g3 := TD1.out h0
          have g4 := TD3.out
          have d3 : Hid (∀ w', Below w6.heap.size w6 w' → Calls Try.prog 27 #[.agg (lay c p), s] w' fun e w'' => e = .returned (.tuple #[.int .i64 z2, .bool true]) ∧ Below w6.heap.size w6 w'') := fun w' hb => by
            refine (c3.out w' (BA.out _ hb)).mono ?_
            rintro e w'' ⟨rfl, hb2⟩
            exact ⟨by first | rfl | (rw [if_neg h0]) | (rw [if_neg g3]) | (rw [show decide (0 < z3) = true from decide_eq_true (by omega)]), hb.trans (hb2.mono hb.size)⟩
          have d4 : Hid (∀ w', Below w6.heap.size w6 w' → Calls Try.prog 28 #[.agg (cfg c), s] w' fun e w'' => e = .returned (.tuple #[.int .i64 z2, .int .i64 (wrap64 ((wrap64 (100 * z1)).tdiv z3)), .bool true]) ∧ Below w6.heap.size w6 w'') := fun w' hb => by
            refine (c4.out w' (BA.out _ hb)).mono ?_
            rintro e w'' ⟨rfl, hb2⟩
            exact ⟨by first | rfl | (rw [if_neg h0]) | (rw [if_neg g3]) | (rw [show decide (0 < z3) = true from decide_eq_true (by omega)]), hb.trans (hb2.mono hb.size)⟩
          have d5 : Hid (∀ w', Below w6.heap.size w6 w' → Calls Try.prog 29 #[.agg (lay c p), s] w' fun e w'' => e = .returned (.int .i64 (wrap64 ((wrap64 (100 * z1)).tdiv z3))) ∧ Below w6.heap.size w6 w'') := fun w' hb => by
            refine (c5.out w' (BA.out _ hb)).mono ?_
            rintro e w'' ⟨rfl, hb2⟩
            exact ⟨by first | rfl | (rw [if_neg h0]) | (rw [if_neg g3]) | (rw [show decide (0 < z3) = true from decide_eq_true (by omega)]), hb.trans (hb2.mono hb.size)⟩
          clear c3 c4 c5 h0 g3 g4
          go_wp2_with (first
            | (refine wpList_load_row_if rfl 27 _ rfl g rfl 27 (lay c p) (0, 0) _ (LR.out _ (by assumption)) Try.underlying27 rfl (lay_size _ _) ?_)
            | (refine wpList_load_row_if rfl 32 _ rfl (g + 1) rfl 32 (cfg c) (0, 0) _ (ZR.out _ (by assumption)) Try.underlying32 rfl (cfg2_size _) ?_)
            | (go_at_call 27; refine (d3.out _ (by assumption)).mono ?_; rintro e w8 ⟨rfl, hb8⟩)
            | (go_at_call 28; refine (d4.out _ (by assumption)).mono ?_; rintro e w9 ⟨rfl, hb9⟩)
            | (go_at_call 29; refine (d5.out _ (by assumption)).mono ?_; rintro e w10 ⟨rfl, hb10⟩)
            | (go_at_call 21; refine (HLives.lives_any _).mono ?_; rintro e w11 ⟨rfl, hb11⟩))
          go_ret
          exact ⟨rfl, (BA.out _ hb10).trans (hb11.mono (by have := (BA.out _ hb10).size; omega))⟩

set_option maxRecDepth 100000 in
theorem walk {H : Type} {enc : TypeId × Value → H} {base : Nat} {spare : Nat → Bool} {held : Bool} {d0 d1 : DataW H} {p0 p1 : List MemPlace} {r : Reach} {b0 : Nat} (v0 v1 : Value) (w : World)
    (hv0 : Value.okWide Try.prog w r b0 23 v0) (t0 : DataW.Trod enc Try.prog w base spare held 23 v0 d0 p0)
    (hv1 : Value.okWide Try.prog w r b0 37 v1) (t1 : DataW.Trod enc Try.prog w base spare held 37 v1 d1 p1) (hb : Rows.uptoBulkAll [d0, d1] ≤ 1048576) :
    Calls Try.prog 5 #[v0, v1] w fun e w' => e = .returned (.bool true) ∧ Below w.heap.size w w' := by
  obtain ⟨c, rfl⟩ := cfg_of hv0 t0
  obtain ⟨l, hl, hT⟩ := many_bulk hv1 t1
  refine walk_many c hl ?_
  simp only [Rows.uptoBulkAll] at hb
  omega

end HLocks
end Go.Proofs.Ytnpieopflgkjdaa
