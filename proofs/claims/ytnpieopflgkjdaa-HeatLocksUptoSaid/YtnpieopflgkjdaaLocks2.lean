import Derived.Test.YtnpieopflgkjdaaLocks1b
import Derived.Deep.Cut
namespace Go.Proofs.Ytnpieopflgkjdaa
open Go.RowKit Go.Bas
open Lay RefLay Of Txs Lock Meet Heat
namespace Locks

@[local go_sem] theorem run_makeFunc' (P : Program) (fn : Fn) (first cap : Array Value) (w : World) : (Instr.makeFunc fn first cap).run P w = .ok (.func fn first cap) w := rfl
@[local go_sem] theorem events_makeFunc' (P : Program) (fn : Fn) (first cap : Array Value) (w : World) (es : Array Event) : (Instr.makeFunc fn first cap).events P w es = es := rfl

set_option maxRecDepth 100000 in
set_option maxHeartbeats 2000000 in
theorem locks_any {c : Cfg} (F : Fine c) {w : World} {s : Value} {l : List Tx} (h : Many w w.heap.size s l) :
    Calls Try.prog 25 #[.agg (lay c (places c)), s] w fun e w' => ∃ q, e = .returned (.slice (some ⟨q, 0, none⟩) c.stripes.toNat c.stripes.toNat) ∧ w.heap.size ≤ q ∧ Cnts w' q c.stripes.toNat (rds c l) (wrs c l) ∧ Below w.heap.size w w' := by
  obtain ⟨A, cp, rfl, hm, hc⟩ := id h
  have hM := Lib.hid h
  have hm : l.length ≤ 9223372036854775807 := hm
  clear hc h
  obtain ⟨n, hn⟩ : ∃ n, l.length = n := ⟨_, rfl⟩
  obtain ⟨B, hB⟩ : ∃ B, w.heap.size = B := ⟨_, rfl⟩
  have HN := Lib.hid hn
  rw [hB] at hM
  rw [hn] at hm ⊢
  rw [hB]
  have FH := Lib.hid F
  have hst := F.stripes
  obtain ⟨m, hmm⟩ : ∃ m : Nat, c.stripes = m := ⟨c.stripes.toNat, by omega⟩
  have hmt : c.stripes.toNat = m := by omega
  rw [hmt]
  clear hn F hmt
  have h64 : m ≤ 64 := by omega
  have h1 : 1 ≤ m := by omega
  have HMM := Lib.hid hmm
  clear hst
  obtain ⟨p, hpp⟩ : ∃ p, places c = p := ⟨_, rfl⟩
  have HPL := Lib.hid hpp
  rw [hpp]
  clear hpp
  obtain ⟨w1, hw1⟩ : ∃ w1, w.alloc (.cells (lay c p) 27) = w1 := ⟨_, rfl⟩
  have s1 : w1.heap.size = B + 1 := by rw [← hw1, ← hB]; simp
  have R1 : Hid (w1.heap[B]? = some (.cells (lay c p) 27 (0, 0))) := by rw [← hw1, ← hB]; exact new_row _ _ _
  have B1 : Hid (Below B w w1) := by rw [← hw1, ← hB]; exact (Below.refl _ _).alloc (Nat.le_refl _) _
  go_enter Try.func25, Try.ntmps25
  go_wp2_with (first
    | (refine wpList_load_row rfl 27 _ rfl B rfl 27 (lay c p) (0, 0) _ R1.out Try.underlying27 rfl (lay_size _ _) ?_)
    | (go_at_call 50; refine (config_any c p _).mono ?_; rintro e w2 ⟨rfl, hb2⟩))
  have hmk := make_locks m h64 w2
  have Z := made_zero m w2
  obtain ⟨q, hq⟩ : ∃ q, w2.heap.size = q := ⟨_, rfl⟩
  rw [hq] at hmk Z
  obtain ⟨w3, hw3⟩ : ∃ w3, w2.alloc (.cells (madeCells #[.int .i64 0, .int .i64 0, .int .i64 0] (m * 3)) 51) = w3 := ⟨_, rfl⟩
  have s3 : w3.heap.size = q + 1 := by rw [← hw3, ← hq]; simp
  have B3 : Hid (Below w2.heap.size w2 w3) := by rw [← hw3]; exact (Below.refl _ _).alloc (Nat.le_refl _) _
  rw [hw3] at hmk Z
  rw [hmk]
  clear hmk
  have ZH := Lib.hid Z
  clear Z hw3 hw1
  go_upto_region 2 with fail
  obtain ⟨w4, hw4⟩ : ∃ w4, w3.alloc (.cells #[.slice (some ⟨q, 0, none⟩) m m] 46) = w4 := ⟨_, rfl⟩
  rw [hw4]
  have hq2 : B + 1 ≤ q := by have := hb2.size; omega
  have hs3 := B3.out.size
  have B4 : Hid (Below B w w4) := by rw [← hw4]; exact (((B1.out.trans (hb2.mono (by omega))).trans (B3.out.mono (by omega))).alloc (by omega) _)
  have R4 : Hid (w4.heap[B]? = some (.cells (lay c p) 27 (0, 0))) := by rw [← hw4, Hid, alloc_heap _ _ _ (by omega), B3.out.block _ (by omega), hb2.block _ (by omega)]; exact R1.out
  have A4 : Hid (w4.heap[q + 1]? = some (.cells #[.slice (some ⟨q, 0, none⟩) m m] 46 (0, 0))) := by rw [← hw4, ← s3]; exact new_row _ _ _
  have C4 : Hid (Cnt3 w4 q m (fun i => if i < 0 then 3 + (i : Int) else 0) (fun _ => 0) (fun _ => 0)) := by
    refine (ZH.out.block (w' := w4) ?_).cong (fun i hi => ⟨?_, rfl, rfl⟩)
    · rw [← hw4, alloc_heap _ _ _ (by omega)]
    · rw [if_neg (by omega)]
  clear hw4 R1 B1 ZH B3 hs3 s3 hq hb2
  have k4 : w4.cell? ⟨q + 1, 0, none⟩ = some (.slice (some ⟨q, 0, none⟩) m m) := by rw [cell_of_row _ _ _ _ _ _ A4.out]; rfl
  go_wp2
  go_loopw [15, 6] (fun u15 u6 wr => ∃ k : Nat, k ≤ m ∧ u15 = .int .i64 k ∧ Hid (Below B w wr) ∧ Hid (wr.heap[B]? = some (.cells (lay c p) 27 (0, 0))) ∧ Hid (wr.heap[q + 1]? = some (.cells #[.slice (some ⟨q, 0, none⟩) m m] 46 (0, 0))) ∧ Hid (Cnt3 wr q m (fun i => if i < k then 3 + (i : Int) else 0) (fun _ => 0) (fun _ => 0))) (fun u15 _ _ => m - (intOf u15).toNat)
  case atStart => exact ⟨0, by omega, rfl, B4, R4, A4, C4⟩
  case round =>
    clear B4 R4 A4 C4 k4
    obtain ⟨k, hk, rfl, HB, HR, HA, HC⟩ := hrel
    have kA : wr.cell? ⟨q + 1, 0, none⟩ = some (.slice (some ⟨q, 0, none⟩) m m) := by rw [cell_of_row _ _ _ _ _ _ HA.out]; rfl
    by_cases hlt : k < m
    · have kf := HC.out.free (k * 3)
      obtain ⟨v, hv⟩ : ∃ v, wr.cell? ⟨q, k * 3, none⟩ = some (.int .i64 v) := ⟨_, (HC.out.at_ hlt).1⟩
      have HC2 := Lib.hid (HC.out.mark hlt (3 + k))
      have HCh : Hid (Chg (fun j => j = q) wr (wr.setCell ⟨q, k * 3, none⟩ (.int .i64 (3 + k)))) := Lib.hid (Chg.setCell _ _ _ rfl)
      have hrs : q < wr.heap.size := HC.out.lt
      have hrs2 : q + 1 < wr.heap.size := (Array.getElem?_eq_some_iff.1 HA.out).1
      go_wp2
      go_roundw
      case rel =>
        refine ⟨k + 1, by omega, by go_num, HB.out.trans (HCh.out.below (by omega) (fun j hj => by omega)), ?_, ?_, ?_⟩
        · rw [Hid, HCh.out.block _ (by omega) (by omega)]; exact HR.out
        · rw [Hid, HCh.out.block _ (by omega) (by omega)]; exact HA.out
        · refine HC2.out.cong (fun i hi => ⟨?_, rfl, rfl⟩)
          show (if i = k then _ else _) = _
          by_cases e : i = k
          · subst e; rw [if_pos rfl, if_pos (by omega)]
          · rw [if_neg e]
            by_cases e2 : i < k
            · rw [if_pos e2, if_pos (by omega)]
            · rw [if_neg e2, if_neg (by omega)]
      case measure => simp [intOf]; omega
    · obtain rfl : m = k := by omega
      have HC0 : Hid (Cnts wr q m (rds c (l.take 0)) (wrs c (l.take 0))) := HC.out.cong (fun i hi => ⟨by simp [hi], rfl, rfl⟩)
      clear HC
      go_wp2
      obtain ⟨x, hx⟩ : ∃ x, wr = x := ⟨_, rfl⟩
      rw [hx] at HB HR HA HC0 ⊢
      clear hx kA hk hlt
      go_loopw [27] (fun u27 wr => ∃ k : Nat, k ≤ n ∧ u27 = .int .i64 k ∧ Hid (Below B w wr) ∧ Hid (wr.heap[B]? = some (.cells (lay c p) 27 (0, 0))) ∧ Hid (wr.heap[q + 1]? = some (.cells #[.slice (some ⟨q, 0, none⟩) m m] 46 (0, 0))) ∧ Hid (Cnts wr q m (rds c (l.take k)) (wrs c (l.take k)))) (fun u27 _ => n - (intOf u27).toNat)
      case atStart => exact ⟨0, by omega, rfl, HB, HR, HA, HC0⟩
      case round =>
        clear HB HR HA HC0
        obtain ⟨k, hk, rfl, HB, HR, HA, HC⟩ := hrel
        have kA : wr.cell? ⟨q + 1, 0, none⟩ = some (.slice (some ⟨q, 0, none⟩) m m) := by rw [cell_of_row _ _ _ _ _ _ HA.out]; rfl
        by_cases hlt : k < n
        · have hlen : k < l.length := by rw [HN.out]; exact hlt
          have hrs2 : q + 1 < wr.heap.size := (Array.getElem?_eq_some_iff.1 HA.out).1
          obtain ⟨b, off, r, z, rfl, hbB, hrow, hp6, hp7⟩ := at_row (hM.out.below HB.out) hlen
          have hnr := fun i => rds_next (c := c) hlen i
          have hnw := fun i => wrs_next (c := c) hlen i
          obtain ⟨t, ht⟩ : ∃ t, l[k] = t := ⟨_, rfl⟩
          rw [ht] at hrow hp6 hp7 hnr hnw
          have HNR := Lib.hid hnr; have HNW := Lib.hid hnw
          clear hnr hnw ht
          obtain ⟨A6, c6, rfl, m6, _⟩ := id hp6
          obtain ⟨A7, c7, rfl, m7, _⟩ := id hp7
          have HP6 := Lib.hid hp6; have HP7 := Lib.hid hp7; have HRow := Lib.hid hrow
          have m6 : t.reads.length ≤ 9223372036854775807 := m6
          have m7 : t.writes.length ≤ 9223372036854775807 := m7
          obtain ⟨n6, hn6⟩ : ∃ n6, t.reads.length = n6 := ⟨_, rfl⟩
          obtain ⟨n7, hn7⟩ : ∃ n7, t.writes.length = n7 := ⟨_, rfl⟩
          rw [hn6] at HRow HP6 m6
          rw [hn7] at HRow HP7 m7
          clear hn6 hn7 hp6 hp7 hrow ‹0 < t.reads.length → _› ‹0 < t.writes.length → _›
          obtain ⟨g, hg⟩ : ∃ g, wr.heap.size = g := ⟨_, rfl⟩
          obtain ⟨w5, hw5⟩ : ∃ w5, wr.alloc (.cells #[.int .i64 0, .int .i64 0, .int .i64 0, .int .i64 0, .bool false, .bool false, .slice none 0 0, .slice none 0 0] 91) = w5 := ⟨_, rfl⟩
          have hg5 : Hid (w5.heap[g]? = some (.cells #[.int .i64 0, .int .i64 0, .int .i64 0, .int .i64 0, .bool false, .bool false, .slice none 0 0, .slice none 0 0] 91 (0, 0))) := by rw [← hw5, ← hg]; exact new_row _ _ _
          go_upto_region 10 with (first
            | (refine wpList_load_mid rfl 91 _ rfl b (off + k * 8) (by first | rfl | simp) [.int .i64 t.worker, .int .i64 t.how, .int .i64 t.seen, .int .i64 t.stamp, .bool t.fall, .bool t.sure, .slice A6 n6 c6, .slice A7 n7 c7] _ HRow.out Try.underlying91 rfl tx_size ?r3)
            | (refine wpList_store_row rfl 91 _ _ rfl g #[.int .i64 t.worker, .int .i64 t.how, .int .i64 t.seen, .int .i64 t.stamp, .bool t.fall, .bool t.sure, .slice A6 n6 c6, .slice A7 n7 c7] rfl rfl 91 #[.int .i64 0, .int .i64 0, .int .i64 0, .int .i64 0, .bool false, .bool false, .slice none 0 0, .slice none 0 0] hg5.out tx_size rfl (by simp [Value.oneCell']) ?s3))
          obtain ⟨w6, hw6⟩ : ∃ w6, w5.setRow g #[.int .i64 t.worker, .int .i64 t.how, .int .i64 t.seen, .int .i64 t.stamp, .bool t.fall, .bool t.sure, .slice A6 n6 c6, .slice A7 n7 c7] = w6 := ⟨_, rfl⟩
          rw [hw6]
          have hb6 : Below wr.heap.size wr w6 := by rw [← hw6, ← hw5]; exact setRow_below ((Below.refl _ _).alloc (Nat.le_refl _) _) (by omega) _
          have hBw : B ≤ wr.heap.size := by omega
          have B6 : Hid (Below B w w6) := HB.out.trans (hb6.mono hBw)
          have G6 : Hid (w6.heap[g]? = some (.cells #[.int .i64 t.worker, .int .i64 t.how, .int .i64 t.seen, .int .i64 t.stamp, .bool t.fall, .bool t.sure, .slice A6 n6 c6, .slice A7 n7 c7] 91 (0, 0))) := by rw [← hw6]; exact setRow_same hg5.out
          have R6 : Hid (w6.heap[B]? = some (.cells (lay c p) 27 (0, 0))) := by rw [Hid, hb6.block _ (by omega)]; exact HR.out
          have A6' : Hid (w6.heap[q + 1]? = some (.cells #[.slice (some ⟨q, 0, none⟩) m m] 46 (0, 0))) := by rw [Hid, hb6.block _ hrs2]; exact HA.out
          have C6 : Hid (Cnts w6 q m (rds c (l.take k)) (wrs c (l.take k))) := HC.out.block (hb6.block _ (by omega))
          have P6 : Hid (Pairs w6 B (.slice A6 n6 c6) t.reads) := HP6.out.below (hb6.mono hBw)
          have P7 : Hid (Pairs w6 B (.slice A7 n7 c7) t.writes) := HP7.out.below (hb6.mono hBw)
          have MR := meet_reads FH.out w6 HMM.out m6 P6.out (by omega) (by omega) A6'.out C6.out
          rw [HPL.out] at MR
          have MRH := Lib.hid MR
          have k6 : w6.cell? ⟨g, 6, none⟩ = some (.slice A6 n6 c6) := by rw [cell_of_row _ _ _ _ _ _ G6.out]; rfl
          have hs6 := hb6.size
          have hgs : g < w6.heap.size := (Array.getElem?_eq_some_iff.1 G6.out).1
          clear hw5 hg5 hw6 hb6 HB HR HA HC HP6 HP7 kA MR
          go_upto_region 11 with (first
            | (refine wpList_load_row rfl 27 _ rfl B rfl 27 (lay c p) (0, 0) _ R6.out Try.underlying27 rfl (lay_size _ _) ?_)
            | (go_at_call 54; refine MRH.out.mono ?_; rintro e w7 ⟨rfl, c7', hch7⟩))
          have hs7 := hch7.size
          have B7 : Hid (Below B w w7) := B6.out.trans (hch7.below (by omega) (fun j hj => by omega))
          have G7 : Hid (w7.heap[g]? = some (.cells #[.int .i64 t.worker, .int .i64 t.how, .int .i64 t.seen, .int .i64 t.stamp, .bool t.fall, .bool t.sure, .slice A6 n6 c6, .slice A7 n7 c7] 91 (0, 0))) := by rw [Hid, hch7.block _ hgs (by omega)]; exact G6.out
          have R7 : Hid (w7.heap[B]? = some (.cells (lay c p) 27 (0, 0))) := by rw [Hid, hch7.block _ (by omega) (by omega)]; exact R6.out
          have A7' : Hid (w7.heap[q + 1]? = some (.cells #[.slice (some ⟨q, 0, none⟩) m m] 46 (0, 0))) := by rw [Hid, hch7.block _ (by omega) (by omega)]; exact A6'.out
          have P7' : Hid (Pairs w7 B (.slice A7 n7 c7) t.writes) := P7.out.below (hch7.below (by omega) (fun j hj => by omega))
          have C7 := Lib.hid c7'
          clear hch7 c7' B6 G6 R6 A6' P7 P6 C6 MRH k6
          have hg7 : g + 1 ≤ w7.heap.size := by omega
          have hgq : q + 1 < g := by omega
          cases hs : t.sure
          all_goals (
            rw [hs] at G7
            refine wp_region_mono_tail (g + 1) 4 (by kernel_rfl) (by kernel_rfl) ?_
            simp only [List.take_succ_cons, List.take_zero, List.drop_succ_cons, List.drop_zero]
            repeat (any_goals (first
              | (refine wpQuiet_load_row rfl 91 _ rfl g rfl 91 _ (0, 0) _ (ext_row G7.out (by omega)) Try.underlying91 rfl tx_size ?_; go_simp)
              | (refine wpQuiet_load_row rfl 27 _ rfl B rfl 27 _ (0, 0) _ (ext_row R7.out (by omega)) Try.underlying27 rfl (lay_size _ _) ?_; go_simp)
              | go_big_quiet_step ((go_at_call 53; exact Calls.ext hg7 (wrote_any _ _ _ _ _ _ _ _ _ _ _ _ _)))))
            refine wpQuiet_nil ?_
            rintro ⟨w9, hb9⟩)
          · change wpList _ _ _ _ _ w9
            have hs9 := hb9.size
            have B9 : Hid (Below B w w9) := B7.out.trans (hb9.mono (by omega))
            have R9 : Hid (w9.heap[B]? = some (.cells (lay c p) 27 (0, 0))) := by rw [Hid, hb9.block _ (by omega)]; exact R7.out
            have A9 : Hid (w9.heap[q + 1]? = some (.cells #[.slice (some ⟨q, 0, none⟩) m m] 46 (0, 0))) := by rw [Hid, hb9.block _ (by omega)]; exact A7'.out
            have C9 : Hid (Cnts w9 q m (fun i => hit c i (rds c (l.take k) i) t.reads) (wrs c (l.take k))) := C7.out.block (hb9.block _ (by omega))
            have P9 : Pairs w9 B (.slice none 0 0) [] := ⟨none, 0, rfl, Nat.zero_le _, fun h => absurd h (by simp)⟩
            rw [wro_false]
            have MW := meet_writes FH.out w9 HMM.out (by omega) P9 (by omega) (by omega) A9.out C9.out
            rw [HPL.out] at MW
            have MWH := Lib.hid MW
            have HNW2 : Hid (∀ i, wrs c (l.take (k + 1)) i = wrs c (l.take k) i) := fun i => by rw [HNW.out i, hs]; rfl
            clear MW P9 hb9 hs G7 R7 A7' C7 P7' B7
            go_wp2_with (first
              | (go_at_call 54; refine MWH.out.mono ?_; rintro e w10 ⟨rfl, c10, hch⟩))
            have hsz := hch.size
            have BX : Hid (Below B w w10) := B9.out.trans (hch.below (by omega) (fun j hj => by omega))
            have RX : Hid (w10.heap[B]? = some (.cells (lay c p) 27 (0, 0))) := by rw [Hid, hch.block _ (by omega) (by omega)]; exact R9.out
            have AX : Hid (w10.heap[q + 1]? = some (.cells #[.slice (some ⟨q, 0, none⟩) m m] 46 (0, 0))) := by rw [Hid, hch.block _ (by omega) (by omega)]; exact A9.out
            have CX : Hid (Cnts w10 q m (rds c (l.take (k + 1))) (wrs c (l.take (k + 1)))) := c10.cong (fun i hi => ⟨rfl, (HNR.out i).symm, (HNW2.out i).symm⟩)
            clear hch c10 MWH
            go_roundw
            case rel => exact ⟨k + 1, by omega, by go_num, BX, RX, AX, CX⟩
            case measure => simp [intOf]; omega
          · change wpList _ _ _ _ _ w9
            have hs9 := hb9.size
            have B9 : Hid (Below B w w9) := B7.out.trans (hb9.mono (by omega))
            have R9 : Hid (w9.heap[B]? = some (.cells (lay c p) 27 (0, 0))) := by rw [Hid, hb9.block _ (by omega)]; exact R7.out
            have A9 : Hid (w9.heap[q + 1]? = some (.cells #[.slice (some ⟨q, 0, none⟩) m m] 46 (0, 0))) := by rw [Hid, hb9.block _ (by omega)]; exact A7'.out
            have C9 : Hid (Cnts w9 q m (fun i => hit c i (rds c (l.take k) i) t.reads) (wrs c (l.take k))) := C7.out.block (hb9.block _ (by omega))
            have P9 : Pairs w9 B (.slice A7 n7 c7) t.writes := P7'.out.below (hb9.mono (by omega))
            rw [wro_true]
            have MW := meet_writes FH.out w9 HMM.out m7 P9 (by omega) (by omega) A9.out C9.out
            rw [HPL.out] at MW
            have MWH := Lib.hid MW
            have HNW2 : Hid (∀ i, wrs c (l.take (k + 1)) i = hit c i (wrs c (l.take k) i) t.writes) := fun i => by rw [HNW.out i, hs]; rfl
            clear MW P9 hb9 hs G7 R7 A7' C7 P7' B7
            go_wp2_with (first
              | (go_at_call 54; refine MWH.out.mono ?_; rintro e w10 ⟨rfl, c10, hch⟩))
            have hsz := hch.size
            have BX : Hid (Below B w w10) := B9.out.trans (hch.below (by omega) (fun j hj => by omega))
            have RX : Hid (w10.heap[B]? = some (.cells (lay c p) 27 (0, 0))) := by rw [Hid, hch.block _ (by omega) (by omega)]; exact R9.out
            have AX : Hid (w10.heap[q + 1]? = some (.cells #[.slice (some ⟨q, 0, none⟩) m m] 46 (0, 0))) := by rw [Hid, hch.block _ (by omega) (by omega)]; exact A9.out
            have CX : Hid (Cnts w10 q m (rds c (l.take (k + 1))) (wrs c (l.take (k + 1)))) := c10.cong (fun i hi => ⟨rfl, (HNR.out i).symm, (HNW2.out i).symm⟩)
            clear hch c10 MWH
            go_roundw
            case rel => exact ⟨k + 1, by omega, by go_num, BX, RX, AX, CX⟩
            case measure => simp [intOf]; omega
        · obtain rfl : n = k := by omega
          have HC' : Hid (Cnts wr q m (rds c l) (wrs c l)) := by have := HC.out; rwa [← HN.out, List.take_length] at this
          clear HC
          go_wp2
          go_ret
          refine ⟨q, rfl, by omega, HC'.out, HB.out⟩

end Locks
end Go.Proofs.Ytnpieopflgkjdaa
