import Derived.Test.YtnpieopflgkjdaaLocks2
import Derived.Deep.Cut
namespace Go.Proofs.Ytnpieopflgkjdaa
open Go.RowKit Go.Bas
open Lay RefLay Of Txs Lock Meet Heat Locks
namespace Worst

/-- the counter that is met most often, of the first k: where, reads, writes; and all that is met -/
def big (R W : Nat → Int) : Nat → Int × Int × Int × Int
  | 0 => (0, 0, 0, 0)
  | k + 1 => if wrap64 ((big R W k).2.1 + (big R W k).2.2.1) < wrap64 (R k + W k) then (3 + (k : Int), R k, W k, wrap64 ((big R W k).2.2.2 + wrap64 (R k + W k)))
      else ((big R W k).1, (big R W k).2.1, (big R W k).2.2.1, wrap64 ((big R W k).2.2.2 + wrap64 (R k + W k)))

theorem lock_size : (Try.prog.info? 51).map (·.size) = some 3 := by kernel_rfl

theorem met_any (a r v : Int) (w : World) :
    Calls Try.prog 59 #[.agg #[.int .i64 a, .int .i64 r, .int .i64 v]] w fun e w' => e = .returned (.int .i64 (wrap64 (r + v))) ∧ Below w.heap.size w w' := by
  obtain ⟨w1, hw1⟩ : ∃ w1, w.alloc (.cells #[.int .i64 a, .int .i64 r, .int .i64 v] 51) = w1 := ⟨_, rfl⟩
  have hrow : w1.heap[w.heap.size]? = some (.cells #[.int .i64 a, .int .i64 r, .int .i64 v] 51 (0, 0)) := by rw [← hw1]; exact new_row _ _ _
  have hb1 : Hid (Below w.heap.size w w1) := by rw [← hw1]; exact (Below.refl _ _).alloc (Nat.le_refl _) _
  have k1 : w1.cell? ⟨w.heap.size, 1, none⟩ = some (.int .i64 r) := by rw [cell_of_row _ _ _ _ _ _ hrow]; rfl
  have k2 : w1.cell? ⟨w.heap.size, 2, none⟩ = some (.int .i64 v) := by rw [cell_of_row _ _ _ _ _ _ hrow]; rfl
  clear hrow
  go_enter Try.func59, Try.ntmps59
  go_wp2
  go_ret
  exact ⟨rfl, hb1.out⟩

theorem pairs_mono {w : World} {B C : Nat} {s : Value} {l : List (Int × Int)} (h : Pairs w B s l) (hb : B ≤ C) : Pairs w C s l := by
  obtain ⟨A, c, rfl, hm, hc⟩ := h
  refine ⟨A, c, rfl, hm, fun hn => ?_⟩
  obtain ⟨b, off, rfl, hlt, hc⟩ := hc hn
  exact ⟨b, off, rfl, by omega, hc⟩
theorem many_mono {w : World} {B C : Nat} {s : Value} {l : List Tx} (h : Many w B s l) (hb : B ≤ C) : Many w C s l := by
  obtain ⟨A, c, rfl, hm, hc⟩ := h
  refine ⟨A, c, rfl, hm, fun hn => ?_⟩
  obtain ⟨b, off, rfl, hlt, hc⟩ := hc hn
  refine ⟨b, off, rfl, by omega, fun i hi => ?_⟩
  obtain ⟨r, q, h1, h2, h3⟩ := hc i hi
  exact ⟨r, q, h1, pairs_mono h2 hb, pairs_mono h3 hb⟩
theorem cnt_range {w : World} {q m : Nat} {R W : Nat → Int} (h : Cnts w q m R W) {i : Nat} (hi : i < m) : w.rangeAt q (i * 3) [.int .i64 (3 + (i : Int)), .int .i64 (R i), .int .i64 (W i)] := by
  obtain ⟨a, b, c⟩ := h.at_ hi
  rintro (_ | _ | _ | j) v hv <;> simp at hv <;> subst hv
  · exact a
  · exact b
  · exact c

set_option maxRecDepth 100000 in
set_option maxHeartbeats 2000000 in
theorem worst_any {c : Cfg} (F : Fine c) {w : World} {s : Value} {l : List Tx} (h : Many w w.heap.size s l) :
    Calls Try.prog 58 #[.agg (lay c (places c)), s] w fun e w' => e = .returned (.tuple #[.agg #[.int .i64 (big (rds c l) (wrs c l) c.stripes.toNat).1, .int .i64 (big (rds c l) (wrs c l) c.stripes.toNat).2.1, .int .i64 (big (rds c l) (wrs c l) c.stripes.toNat).2.2.1], .int .i64 (big (rds c l) (wrs c l) c.stripes.toNat).2.2.2]) ∧ Below w.heap.size w w' := by
  obtain ⟨A, cp, rfl, hm, hc⟩ := id h
  have hM := Lib.hid h
  clear hc h
  obtain ⟨n, hn⟩ : ∃ n, l.length = n := ⟨_, rfl⟩
  obtain ⟨B, hB⟩ : ∃ B, w.heap.size = B := ⟨_, rfl⟩
  have HN := Lib.hid hn
  rw [hB] at hM ⊢
  rw [hn] at hM hm ⊢
  have FH := Lib.hid F
  have hst := F.stripes
  obtain ⟨m, hmm⟩ : ∃ m : Nat, c.stripes.toNat = m := ⟨_, rfl⟩
  have h64 : m ≤ 64 := by omega
  have h1 : 1 ≤ m := by omega
  have HMM := Lib.hid hmm
  rw [hmm]
  clear hn F hmm hst
  obtain ⟨p, hpp⟩ : ∃ p, places c = p := ⟨_, rfl⟩
  have HPL := Lib.hid hpp
  rw [hpp]
  clear hpp
  obtain ⟨R, hR⟩ : ∃ R, rds c l = R := ⟨_, rfl⟩
  obtain ⟨W, hW⟩ : ∃ W, wrs c l = W := ⟨_, rfl⟩
  rw [hR, hW]
  have HRR := Lib.hid hR; have HWW := Lib.hid hW
  clear hR hW
  obtain ⟨w1, hw1⟩ : ∃ w1, w.alloc (.cells (lay c p) 27) = w1 := ⟨_, rfl⟩
  have s1 : w1.heap.size = B + 1 := by rw [← hw1, ← hB]; simp
  obtain ⟨w2, hw2⟩ : ∃ w2, w1.alloc (.cells #[.int .i64 0, .int .i64 0, .int .i64 0] 51) = w2 := ⟨_, rfl⟩
  have s2 : w2.heap.size = B + 2 := by rw [← hw2]; simp; omega
  obtain ⟨w3, hw3⟩ : ∃ w3, w2.alloc (.cells #[.int .i64 0, .int .i64 0, .int .i64 0] 51) = w3 := ⟨_, rfl⟩
  have s3 : w3.heap.size = B + 3 := by rw [← hw3]; simp; omega
  have R3 : Hid (w3.heap[B]? = some (.cells (lay c p) 27 (0, 0))) := by rw [← hw3, Hid, alloc_heap _ _ _ (by omega), ← hw2, alloc_heap _ _ _ (by omega), ← hw1, ← hB]; exact new_row _ _ _
  have H3 : Hid (w3.heap[B + 1]? = some (.cells #[.int .i64 0, .int .i64 0, .int .i64 0] 51 (0, 0))) := by rw [← hw3, Hid, alloc_heap _ _ _ (by omega), ← hw2, ← s1]; exact new_row _ _ _
  have S3 : Hid (w3.heap[B + 2]? = some (.cells #[.int .i64 0, .int .i64 0, .int .i64 0] 51 (0, 0))) := by rw [← hw3, ← s2]; exact new_row _ _ _
  have B3 : Hid (Below B w w3) := by rw [← hw3, ← hw2, ← hw1, Hid, ← hB]; exact (((Below.refl _ _).alloc (Nat.le_refl _) _).alloc (by simp) _).alloc (by simp; omega) _
  have M3 : Many w3 w3.heap.size (.slice A n cp) l := by
    exact many_mono (hM.out.below B3.out) (by omega)
  have LK := locks_any FH.out M3
  rw [HPL.out, HMM.out, HRR.out, HWW.out] at LK
  have LKH := Lib.hid LK
  clear LK M3
  go_enter Try.func58, Try.ntmps58
  go_wp2_with (first
    | (refine wpList_load_row rfl 27 _ rfl B rfl 27 (lay c p) (0, 0) _ R3.out Try.underlying27 rfl (lay_size _ _) ?_)
    | (go_at_call 25; refine LKH.out.mono ?_; rintro e w4 ⟨q, rfl, hq, hC, hb4⟩))
  have hs4 := hb4.size
  have B4 : Hid (Below B w w4) := B3.out.trans (hb4.mono (by omega))
  have R4 : Hid (w4.heap[B]? = some (.cells (lay c p) 27 (0, 0))) := by rw [Hid, hb4.block _ (by omega)]; exact R3.out
  have H4 : Hid (w4.heap[B + 1]? = some (.cells #[.int .i64 0, .int .i64 0, .int .i64 0] 51 (0, 0))) := by rw [Hid, hb4.block _ (by omega)]; exact H3.out
  have S4 : Hid (w4.heap[B + 2]? = some (.cells #[.int .i64 (big R W 0).1, .int .i64 (big R W 0).2.1, .int .i64 (big R W 0).2.2.1] 51 (0, 0))) := by rw [Hid, hb4.block _ (by omega)]; exact S3.out
  have C4 := Lib.hid hC
  have hq : B + 3 ≤ q := by omega
  clear hC hb4 R3 H3 S3 B3 hw1 hw2 hw3 s1 s2 s3 hs4 LKH
  go_loopw [14, 7] (fun u14 u7 wr => ∃ k : Nat, k ≤ m ∧ u14 = .int .i64 k ∧ u7 = .int .i64 (big R W k).2.2.2 ∧ Hid (Below B w wr) ∧ Hid (wr.heap[B + 1]? = some (.cells #[.int .i64 0, .int .i64 0, .int .i64 0] 51 (0, 0))) ∧ Hid (wr.heap[B + 2]? = some (.cells #[.int .i64 (big R W k).1, .int .i64 (big R W k).2.1, .int .i64 (big R W k).2.2.1] 51 (0, 0))) ∧ Hid (Cnts wr q m R W)) (fun u14 _ _ => m - (intOf u14).toNat)
  case atStart => exact ⟨0, by omega, rfl, rfl, B4, H4, S4, C4⟩
  case round =>
    clear B4 R4 H4 S4 C4
    obtain ⟨k, hk, rfl, rfl, HB, HH, HS, HC⟩ := hrel
    have hS : Hid (big R W (k + 1) = if wrap64 ((big R W k).2.1 + (big R W k).2.2.1) < wrap64 (R k + W k) then (3 + (k : Int), R k, W k, wrap64 ((big R W k).2.2.2 + wrap64 (R k + W k))) else ((big R W k).1, (big R W k).2.1, (big R W k).2.2.1, wrap64 ((big R W k).2.2.2 + wrap64 (R k + W k)))) := rfl
    obtain ⟨⟨x1, x2, x3, x4⟩, hx⟩ : ∃ x, big R W k = x := ⟨_, rfl⟩
    by_cases hlt : k < m
    · rw [hx] at HS hS ⊢
      have hqs := HC.out.lt
      have HRow := Lib.hid (cnt_range HC.out hlt)
      obtain ⟨r, hr⟩ : ∃ r, R k = r := ⟨_, rfl⟩
      obtain ⟨v, hv⟩ : ∃ v, W k = v := ⟨_, rfl⟩
      rw [hr, hv] at HRow hS
      clear hr hv hx
      dsimp only at HS hS ⊢
      obtain ⟨g, hg⟩ : ∃ g, wr.heap.size = g := ⟨_, rfl⟩
      obtain ⟨w5, hw5⟩ : ∃ w5, wr.alloc (.cells #[.int .i64 0, .int .i64 0, .int .i64 0] 51) = w5 := ⟨_, rfl⟩
      have hg5 : Hid (w5.heap[g]? = some (.cells #[.int .i64 0, .int .i64 0, .int .i64 0] 51 (0, 0))) := by rw [← hw5, ← hg]; exact new_row _ _ _
      go_upto_region 6 with (first
        | (refine wpList_load_mid rfl 51 _ rfl q (k * 3) (by first | rfl | simp) [.int .i64 (3 + (k : Int)), .int .i64 r, .int .i64 v] _ HRow.out Try.underlying51 rfl lock_size ?r3)
        | (refine wpList_store_row rfl 51 _ _ rfl g #[.int .i64 (3 + (k : Int)), .int .i64 r, .int .i64 v] rfl rfl 51 #[.int .i64 0, .int .i64 0, .int .i64 0] hg5.out lock_size rfl (by simp [Value.oneCell']) ?s3))
      obtain ⟨w6, hw6⟩ : ∃ w6, w5.setRow g #[.int .i64 (3 + (k : Int)), .int .i64 r, .int .i64 v] = w6 := ⟨_, rfl⟩
      rw [hw6]
      have hb6 : Below wr.heap.size wr w6 := by rw [← hw6, ← hw5]; exact setRow_below ((Below.refl _ _).alloc (Nat.le_refl _) _) (by omega) _
      have B6 : Hid (Below B w w6) := HB.out.trans (hb6.mono (by omega))
      have G6 : Hid (w6.heap[g]? = some (.cells #[.int .i64 (3 + (k : Int)), .int .i64 r, .int .i64 v] 51 (0, 0))) := by rw [← hw6]; exact setRow_same hg5.out
      have H6 : Hid (w6.heap[B + 1]? = some (.cells #[.int .i64 0, .int .i64 0, .int .i64 0] 51 (0, 0))) := by rw [Hid, hb6.block _ (by omega)]; exact HH.out
      have S6 : Hid (w6.heap[B + 2]? = some (.cells #[.int .i64 x1, .int .i64 x2, .int .i64 x3] 51 (0, 0))) := by rw [Hid, hb6.block _ (by omega)]; exact HS.out
      have C6 : Hid (Cnts w6 q m R W) := HC.out.block (hb6.block _ (by omega))
      clear hw5 hg5 hw6 hb6 HB HH HS HC
      have hgs : g < w6.heap.size := (Array.getElem?_eq_some_iff.1 G6.out).1
      go_upto_region 7 with (first
        | (refine wpList_load_row rfl 51 _ rfl g rfl 51 _ (0, 0) _ G6.out Try.underlying51 rfl lock_size ?_)
        | (go_at_call 59; refine (met_any _ _ _ _).mono ?_; rintro e w7 ⟨rfl, hb7⟩))
      have hs7 := hb7.size
      have B7 : Hid (Below B w w7) := B6.out.trans (hb7.mono (by omega))
      have G7 : Hid (w7.heap[g]? = some (.cells #[.int .i64 (3 + (k : Int)), .int .i64 r, .int .i64 v] 51 (0, 0))) := by rw [Hid, hb7.block _ hgs]; exact G6.out
      have H7 : Hid (w7.heap[B + 1]? = some (.cells #[.int .i64 0, .int .i64 0, .int .i64 0] 51 (0, 0))) := by rw [Hid, hb7.block _ (by omega)]; exact H6.out
      have S7 : Hid (w7.heap[B + 2]? = some (.cells #[.int .i64 x1, .int .i64 x2, .int .i64 x3] 51 (0, 0))) := by rw [Hid, hb7.block _ (by omega)]; exact S6.out
      have C7 : Hid (Cnts w7 q m R W) := C6.out.block (hb7.block _ (by omega))
      clear hb7 B6 G6 H6 S6 C6
      have hg7 : g + 1 ≤ w7.heap.size := by omega
      obtain ⟨y, hy⟩ : ∃ y, wrap64 (r + v) = y := ⟨_, rfl⟩
      obtain ⟨z, hz⟩ : ∃ z, wrap64 (x2 + x3) = z := ⟨_, rfl⟩
      rw [hy, hz] at hS
      rw [hy]
      refine wp_region_mono (g + 1) (by kernel_rfl) (by kernel_rfl) ?_
      repeat (any_goals (first
        | (refine wpQuiet_load_row rfl 51 _ rfl g rfl 51 _ (0, 0) _ (ext_row G7.out (by omega)) Try.underlying51 rfl lock_size ?_; go_simp)
        | (refine wpQuiet_load_row rfl 51 _ rfl (B + 2) rfl 51 _ (0, 0) _ (ext_row S7.out (by omega)) Try.underlying51 rfl lock_size ?_; go_simp)
        | go_big_quiet_step ((go_at_call 59; exact Calls.ext hg7 (met_any _ _ _ _)))))
      refine wpQuiet_nil ?_
      rintro ⟨w8, hb8⟩
      dsimp only
      have hs8 := hb8.size
      have B8 : Hid (Below B w w8) := B7.out.trans (hb8.mono (by omega))
      have G8 : Hid (w8.heap[g]? = some (.cells #[.int .i64 (3 + (k : Int)), .int .i64 r, .int .i64 v] 51 (0, 0))) := by rw [Hid, hb8.block _ (by omega)]; exact G7.out
      have H8 : Hid (w8.heap[B + 1]? = some (.cells #[.int .i64 0, .int .i64 0, .int .i64 0] 51 (0, 0))) := by rw [Hid, hb8.block _ (by omega)]; exact H7.out
      have S8 : Hid (w8.heap[B + 2]? = some (.cells #[.int .i64 x1, .int .i64 x2, .int .i64 x3] 51 (0, 0))) := by rw [Hid, hb8.block _ (by omega)]; exact S7.out
      have C8 : Hid (Cnts w8 q m R W) := C7.out.block (hb8.block _ (by omega))
      clear hb8 G7 H7 S7 C7 B7
      by_cases hzy : z < y
      · have hS2 : Hid (big R W (k + 1) = (3 + (k : Int), r, v, wrap64 (x4 + y))) := by rw [Hid, hS.out, if_pos hzy]
        have fin := Lib.hid (setRow_same (cs := #[.int .i64 (3 + (k : Int)), .int .i64 r, .int .i64 v]) S8.out)
        have q1 : ∀ j, w8.cell? ⟨B + 2, j, none⟩ = (#[.int .i64 x1, .int .i64 x2, .int .i64 x3] : Array Value)[j]? := fun j => cell_of_row _ _ _ _ _ _ S8.out
        have q2 : ∀ j v, w8.setCell ⟨B + 2, j, none⟩ v = w8.setRow (B + 2) ((#[.int .i64 x1, .int .i64 x2, .int .i64 x3] : Array Value).setIfInBounds j v) := fun j v => setCell_row S8.out
        have q3 : ∀ j, w8.frozen? ⟨B + 2, j, none⟩ = false := fun j => row_frozen S8.out j
        have q4 : ∀ cs j, (w8.setRow (B + 2) cs).cell? ⟨B + 2, j, none⟩ = cs[j]? := fun cs j => setRow_cell S8.out cs j
        have q5 : ∀ cs j v, (w8.setRow (B + 2) cs).setCell ⟨B + 2, j, none⟩ v = w8.setRow (B + 2) (cs.setIfInBounds j v) := fun cs j v => setRow_setCell S8.out cs j v
        have q6 : ∀ cs j, (w8.setRow (B + 2) cs).frozen? ⟨B + 2, j, none⟩ = false := fun cs j => row_frozen (setRow_same S8.out) j
        clear hS hy hz
        go_wp2_with (first
          | (refine wpList_load_row rfl 51 _ rfl g rfl 51 _ (0, 0) _ G8.out Try.underlying51 rfl lock_size ?_))
        go_roundw
        case rel =>
          refine ⟨k + 1, by omega, by go_num, by rw [hS2.out], setRow_below B8.out (by omega) _, ?_, ?_, ?_⟩
          · rw [Hid, setRow_other _ _ _ _ (by omega)]; exact H8.out
          · rw [hS2.out]; exact fin.out
          · exact C8.out.block (setRow_other _ _ _ _ (by omega))
        case measure => simp [intOf]; omega
      · have hS2 : Hid (big R W (k + 1) = (x1, x2, x3, wrap64 (x4 + y))) := by rw [Hid, hS.out, if_neg hzy]
        clear hS hy hz
        go_wp2
        go_roundw
        case rel =>
          refine ⟨k + 1, by omega, by go_num, by rw [hS2.out], B8, H8, ?_, C8⟩
          rw [hS2.out]; exact S8.out
        case measure => simp [intOf]; omega
    · obtain rfl : m = k := by omega
      rw [hx] at HS ⊢
      have q1 : ∀ j, wr.cell? ⟨B + 1, j, none⟩ = (#[.int .i64 0, .int .i64 0, .int .i64 0] : Array Value)[j]? := fun j => cell_of_row _ _ _ _ _ _ HH.out
      have q2 : ∀ j v, wr.setCell ⟨B + 1, j, none⟩ v = wr.setRow (B + 1) ((#[.int .i64 0, .int .i64 0, .int .i64 0] : Array Value).setIfInBounds j v) := fun j v => setCell_row HH.out
      have q3 : ∀ j, wr.frozen? ⟨B + 1, j, none⟩ = false := fun j => row_frozen HH.out j
      have q4 : ∀ cs j, (wr.setRow (B + 1) cs).cell? ⟨B + 1, j, none⟩ = cs[j]? := fun cs j => setRow_cell HH.out cs j
      have q5 : ∀ cs j v, (wr.setRow (B + 1) cs).setCell ⟨B + 1, j, none⟩ v = wr.setRow (B + 1) (cs.setIfInBounds j v) := fun cs j v => setRow_setCell HH.out cs j v
      have q6 : ∀ cs j, (wr.setRow (B + 1) cs).frozen? ⟨B + 1, j, none⟩ = false := fun cs j => row_frozen (setRow_same HH.out) j
      go_wp2_with (first
        | (refine wpList_load_row rfl 51 _ rfl (B + 2) rfl 51 _ (0, 0) _ HS.out Try.underlying51 rfl lock_size ?_))
      have fin := Lib.hid (setRow_same (cs := #[.int .i64 x1, .int .i64 x2, .int .i64 x3]) HH.out)
      exact bodyPost_ret (results_row_tmp rfl _ _ (B + 1) 51 #[.int .i64 x1, .int .i64 x2, .int .i64 x3] (0, 0) _ rfl fin.out Try.underlying51 rfl lock_size) rfl ⟨rfl, setRow_below HB.out (by omega) _⟩

end Worst
end Go.Proofs.Ytnpieopflgkjdaa
