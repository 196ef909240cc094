import Derived.Test.YtnpieopflgkjdaaShare
import Derived.Test.YtnpieopflgkjdaaSmall
import Derived.Test.YtnpieopflgkjdaaBuilt
namespace Go.Proofs.Ytnpieopflgkjdaa
open Go.RowKit Go.Bas
open Lay RefLay Of Txs Lock Meet Locks Worst Small_ Built
namespace HLives

def c0 : Cfg := small ⟨0, 0, 0, 0, 0, 0, 0, 0, 0, 0, 0⟩
def lc : Cfg := ⟨c0.workers, c0.cpus, c0.pages, 1, c0.tries, c0.wait, c0.clock, c0.priv, c0.cache, c0.bin, c0.batch⟩
theorem lc_fine : Fine lc := by
  obtain ⟨h0, h1, h2, h3, h4, h5, h6, h7, h8, h9, ha⟩ := small_fine ⟨0, 0, 0, 0, 0, 0, 0, 0, 0, 0, 0⟩
  exact ⟨h0, h1, h2, by show (1 : Int) ≤ 1 ∧ (1 : Int) ≤ 64; omega, h4, h5, h6, h7, h8, h9, ha⟩
def tx : Tx := ⟨0, 1, 0, 0, false, false, [(2, 0)], []⟩
theorem lock2 : lockOf lc 2 = 3 := by
  have h := words_in lc_fine
  unfold lockOf
  rw [if_neg (by omega)]
  show (3 : Int) + 2 % 1 = 3
  rfl
theorem rds2 : rds lc [tx, tx] 0 = 2 := by simp [rds, hit, tx, lock2, wrap64]
theorem wrs2 : wrs lc [tx, tx] 0 = 0 := by simp [wrs, tx]
theorem rds1 : rds lc [tx] 0 = 1 := by simp [rds, hit, tx, lock2, wrap64]
theorem wrs1 : wrs lc [tx] 0 = 0 := by simp [wrs, tx]
theorem big1 : Worst.big (rds lc [tx]) (wrs lc [tx]) 1 = (3, 1, 0, 1) := by
  simp [Worst.big, rds1, wrs1, wrap64]
theorem row1 : Heat.rowE [tx] = #[.int .i64 1, .int .i64 0, .int .i64 0, .int .i64 0, .int .i64 0, .int .i64 1, .int .i64 0] := by
  simp [Heat.rowE, Heat.cnt, Heat.step, Heat.how, tx, wrap64]

theorem pairs_built {w : World} {gp : Nat} (h : w.heap[gp]? = some (.cells #[.int .i64 2, .int .i64 0] 93 (0, 0))) : Pairs w w.heap.size (.slice (some ⟨gp, 0, none⟩) 1 1) [(2, 0)] := by
  refine ⟨_, 1, rfl, by decide, fun _ => ⟨gp, 0, rfl, (Array.getElem?_eq_some_iff.1 h).1, fun i hi => ?_⟩⟩
  obtain rfl : i = 0 := by simpa using hi
  simp only [cell_of_row _ _ _ _ _ _ h]
  exact ⟨rfl, rfl⟩
theorem pairs_nil (w : World) (B : Nat) : Pairs w B (.slice none 0 0) [] := ⟨none, 0, rfl, Nat.zero_le _, fun h => absurd h (by simp)⟩
theorem many1 {w : World} {gp g : Nat} (h : w.heap[gp]? = some (.cells #[.int .i64 2, .int .i64 0] 93 (0, 0)))
    (hg : w.heap[g]? = some (.cells #[.int .i64 0, .int .i64 1, .int .i64 0, .int .i64 0, .bool false, .bool false, .slice (some ⟨gp, 0, none⟩) 1 1, .slice none 0 0] 91 (0, 0))) : Many w w.heap.size (.slice (some ⟨g, 0, none⟩) 1 1) [tx] := by
  refine ⟨_, 1, rfl, by decide, fun _ => ⟨g, 0, rfl, (Array.getElem?_eq_some_iff.1 hg).1, fun i hi => ?_⟩⟩
  obtain rfl : i = 0 := by simpa using hi
  refine ⟨_, _, row_range hg _ _ ?_, pairs_built h, pairs_nil w _⟩
  rintro (_ | _ | _ | _ | _ | _ | _ | _ | j) v hv <;> simp [row, tx] at hv <;> subst hv <;> rfl
theorem many2 {w : World} {gp g : Nat} (h : w.heap[gp]? = some (.cells #[.int .i64 2, .int .i64 0] 93 (0, 0)))
    (hg : w.heap[g]? = some (.cells #[.int .i64 0, .int .i64 1, .int .i64 0, .int .i64 0, .bool false, .bool false, .slice (some ⟨gp, 0, none⟩) 1 1, .slice none 0 0, .int .i64 0, .int .i64 1, .int .i64 0, .int .i64 0, .bool false, .bool false, .slice (some ⟨gp, 0, none⟩) 1 1, .slice none 0 0] 91 (0, 0))) : Many w w.heap.size (.slice (some ⟨g, 0, none⟩) 2 2) [tx, tx] := by
  refine ⟨_, 2, rfl, by decide, fun _ => ⟨g, 0, rfl, (Array.getElem?_eq_some_iff.1 hg).1, fun i hi => ?_⟩⟩
  have hi : i = 0 ∨ i = 1 := by simp at hi; omega
  rcases hi with rfl | rfl
  all_goals
    refine ⟨_, _, row_range hg _ _ ?_, pairs_built h, pairs_nil w _⟩
    rintro (_ | _ | _ | _ | _ | _ | _ | _ | j) v hv <;> simp [row, tx] at hv <;> subst hv <;> rfl

set_option maxRecDepth 100000 in
set_option maxHeartbeats 2000000 in
theorem lives_any (w : World) : Calls Try.prog 21 #[] w fun e w' => e = .returned (.bool true) ∧ Below w.heap.size w w' := by
  obtain ⟨B, hB⟩ : ∃ B, w.heap.size = B := ⟨_, rfl⟩
  rw [hB]
  obtain ⟨⟨a0, a1, a2, a3, a4, a5, a6, a7, a8, a9, a10⟩, hc0⟩ : ∃ c, c0 = c := ⟨_, rfl⟩
  have SM : Hid (∀ w, Calls Try.prog 52 #[.agg #[.int .i64 0, .int .i64 0, .int .i64 0, .int .i64 0, .int .i64 0, .int .i64 0, .int .i64 0, .int .i64 0, .int .i64 0, .int .i64 0, .int .i64 0]] w fun e w' => e = .returned (.agg #[.int .i64 a0, .int .i64 a1, .int .i64 a2, .int .i64 a3, .int .i64 a4, .int .i64 a5, .int .i64 a6, .int .i64 a7, .int .i64 a8, .int .i64 a9, .int .i64 a10]) ∧ Below w.heap.size w w') := fun w => by
    have h := small_of ⟨0, 0, 0, 0, 0, 0, 0, 0, 0, 0, 0⟩ w
    have e : small ⟨0, 0, 0, 0, 0, 0, 0, 0, 0, 0, 0⟩ = ⟨a0, a1, a2, a3, a4, a5, a6, a7, a8, a9, a10⟩ := hc0
    rw [e] at h
    exact h
  have hlc : Hid (cfg lc = #[.int .i64 a0, .int .i64 a1, .int .i64 a2, .int .i64 1, .int .i64 a4, .int .i64 a5, .int .i64 a6, .int .i64 a7, .int .i64 a8, .int .i64 a9, .int .i64 a10]) := by unfold lc; rw [Hid, hc0]; rfl
  clear hc0
  go_enter Try.func21, Try.ntmps21
  go_upto_region 2 with (first
    | (go_at_call 52; refine (SM.out _).mono ?_; rintro e w1 ⟨rfl, hb1⟩)
    | (refine wpList_store_row rfl 23 _ _ rfl _ #[.int .i64 a0, .int .i64 a1, .int .i64 a2, .int .i64 a3, .int .i64 a4, .int .i64 a5, .int .i64 a6, .int .i64 a7, .int .i64 a8, .int .i64 a9, .int .i64 a10] rfl rfl 23 #[.int .i64 0, .int .i64 0, .int .i64 0, .int .i64 0, .int .i64 0, .int .i64 0, .int .i64 0, .int .i64 0, .int .i64 0, .int .i64 0, .int .i64 0] (new_row _ _ _) (cfg_size ⟨0, 0, 0, 0, 0, 0, 0, 0, 0, 0, 0⟩) rfl (by simp [Value.oneCell']) ?_))
  obtain ⟨g1, hg1⟩ : ∃ g, w1.heap.size = g := ⟨_, rfl⟩
  rw [hg1]
  obtain ⟨w2, hw2⟩ : ∃ w2, (w1.alloc (.cells #[.int .i64 0, .int .i64 0, .int .i64 0, .int .i64 0, .int .i64 0, .int .i64 0, .int .i64 0, .int .i64 0, .int .i64 0, .int .i64 0, .int .i64 0] 23)).setRow g1 #[.int .i64 a0, .int .i64 a1, .int .i64 a2, .int .i64 a3, .int .i64 a4, .int .i64 a5, .int .i64 a6, .int .i64 a7, .int .i64 a8, .int .i64 a9, .int .i64 a10] = w2 := ⟨_, rfl⟩
  have G2 : Hid (w2.heap[g1]? = some (.cells #[.int .i64 a0, .int .i64 a1, .int .i64 a2, .int .i64 a3, .int .i64 a4, .int .i64 a5, .int .i64 a6, .int .i64 a7, .int .i64 a8, .int .i64 a9, .int .i64 a10] 23 (0, 0))) := by rw [← hw2, ← hg1]; exact setRow_same (new_row _ _ _)
  have hs1 := hb1.size
  have B2 : Hid (Below B w w2) := by rw [← hw2]; exact setRow_below ((hb1.mono (by omega)).alloc (by omega) _) (by omega) _
  rw [hw2]
  clear hw2 hb1
  have q1 : w2.cell? ⟨g1, 3, none⟩ = some (.int .i64 a3) := by rw [cell_of_row _ _ _ _ _ _ G2.out]; rfl
  have q2 : ∀ v, w2.setCell ⟨g1, 3, none⟩ v = w2.setRow g1 ((#[.int .i64 a0, .int .i64 a1, .int .i64 a2, .int .i64 a3, .int .i64 a4, .int .i64 a5, .int .i64 a6, .int .i64 a7, .int .i64 a8, .int .i64 a9, .int .i64 a10] : Array Value).setIfInBounds 3 v) := fun v => setCell_row G2.out
  have q3 : w2.frozen? ⟨g1, 3, none⟩ = false := row_frozen G2.out _
  go_upto_region 3 with fail
  obtain ⟨w3, hw3⟩ : ∃ w3, w2.setRow g1 #[.int .i64 a0, .int .i64 a1, .int .i64 a2, .int .i64 1, .int .i64 a4, .int .i64 a5, .int .i64 a6, .int .i64 a7, .int .i64 a8, .int .i64 a9, .int .i64 a10] = w3 := ⟨_, rfl⟩
  have G3 : Hid (w3.heap[g1]? = some (.cells #[.int .i64 a0, .int .i64 a1, .int .i64 a2, .int .i64 1, .int .i64 a4, .int .i64 a5, .int .i64 a6, .int .i64 a7, .int .i64 a8, .int .i64 a9, .int .i64 a10] 23 (0, 0))) := by rw [← hw3]; exact setRow_same G2.out
  have B3 : Hid (Below B w w3) := by rw [← hw3]; exact setRow_below B2.out (by omega) _
  rw [hw3]
  clear hw3 B2 G2 q1 q2 q3
  have LO : Hid (∀ w, Calls Try.prog 10 #[.agg #[.int .i64 a0, .int .i64 a1, .int .i64 a2, .int .i64 1, .int .i64 a4, .int .i64 a5, .int .i64 a6, .int .i64 a7, .int .i64 a8, .int .i64 a9, .int .i64 a10]] w fun e w' => e = .returned (.tuple #[.agg (lay lc (places lc)), .int .i64 0]) ∧ Below w.heap.size w w') := fun w => by
    have h := of_of lc w lc_fine
    rwa [hlc.out] at h
  obtain ⟨p, hp⟩ : ∃ p, places lc = p := ⟨_, rfl⟩
  have HP := Lib.hid hp
  rw [hp] at LO
  clear hp
  go_upto_region 4 with (first
    | (refine wpList_load_row rfl 23 _ rfl g1 rfl 23 #[.int .i64 a0, .int .i64 a1, .int .i64 a2, .int .i64 1, .int .i64 a4, .int .i64 a5, .int .i64 a6, .int .i64 a7, .int .i64 a8, .int .i64 a9, .int .i64 a10] (0, 0) _ G3.out Try.underlying23 rfl (cfg_size ⟨0, 0, 0, 0, 0, 0, 0, 0, 0, 0, 0⟩) ?_)
    | (go_at_call 10; refine (LO.out _).mono ?_; rintro e w4 ⟨rfl, hb4⟩)
    | (refine wpList_store_row rfl 27 _ _ rfl _ (lay lc p) rfl rfl 27 #[.int .i64 0, .int .i64 0, .int .i64 0, .int .i64 0, .int .i64 0, .int .i64 0, .int .i64 0, .int .i64 0, .int .i64 0, .int .i64 0, .int .i64 0, .int .i64 0, .int .i64 0, .int .i64 0, .int .i64 0, .int .i64 0, .int .i64 0, .int .i64 0, .int .i64 0, .int .i64 0, .int .i64 0, .int .i64 0, .int .i64 0] (new_row _ _ _) (lay_size _ _) rfl (lay_one _ _) ?_))
  obtain ⟨g2, hg2⟩ : ∃ g, w4.heap.size = g := ⟨_, rfl⟩
  rw [hg2]
  have hs3 := B3.out.size
  have hg13 : g1 < w3.heap.size := (Array.getElem?_eq_some_iff.1 G3.out).1
  have hs4 := hb4.size
  obtain ⟨w5, hw5⟩ : ∃ w5, (w4.alloc (.cells #[.int .i64 0, .int .i64 0, .int .i64 0, .int .i64 0, .int .i64 0, .int .i64 0, .int .i64 0, .int .i64 0, .int .i64 0, .int .i64 0, .int .i64 0, .int .i64 0, .int .i64 0, .int .i64 0, .int .i64 0, .int .i64 0, .int .i64 0, .int .i64 0, .int .i64 0, .int .i64 0, .int .i64 0, .int .i64 0, .int .i64 0] 27)).setRow g2 (lay lc p) = w5 := ⟨_, rfl⟩
  have R5 : Hid (w5.heap[g2]? = some (.cells (lay lc p) 27 (0, 0))) := by rw [← hw5, ← hg2]; exact setRow_same (new_row _ _ _)
  have B5 : Hid (Below B w w5) := by rw [← hw5]; exact setRow_below ((B3.out.trans (hb4.mono (by omega))).alloc (by omega) _) (by omega) _
  have s5 : w5.heap.size = g2 + 1 := by rw [← hw5, setRow_size, ← hg2]; simp
  rw [hw5]
  clear hw5 hb4 B3 G3
  go_upto_region 5 with (first
    | (refine wpList_pair1 rfl _ rfl _ _ rfl ?_)
    | (refine wpList_store_row rfl 91 _ _ rfl _ #[.int .i64 0, .int .i64 1, .int .i64 0, .int .i64 0, .bool false, .bool false, .slice (some ⟨g2 + 1, 0, none⟩) 1 1, .slice none 0 0] rfl rfl 91 #[.int .i64 0, .int .i64 0, .int .i64 0, .int .i64 0, .bool false, .bool false, .slice none 0 0, .slice none 0 0] (new_row _ _ _) Heat.tx_size rfl (by simp [Value.oneCell']) ?_))
  obtain ⟨w6, hw6⟩ : ∃ w6, w5.alloc (.cells #[.int .i64 2, .int .i64 0] 93) = w6 := ⟨_, rfl⟩
  have s6 : w6.heap.size = g2 + 2 := by rw [← hw6]; simp; omega
  obtain ⟨w7, hw7⟩ : ∃ w7, w6.alloc (.cells #[.int .i64 0, .int .i64 1, .int .i64 0, .int .i64 0, .bool false, .bool false, .slice (some ⟨g2 + 1, 0, none⟩) 1 1, .slice none 0 0] 91) = w7 := ⟨_, rfl⟩
  have s7 : w7.heap.size = g2 + 3 := by rw [← hw7]; simp; omega
  have B7 : Hid (Below B w w7) := by rw [← hw7, ← hw6]; exact (B5.out.alloc (by omega) _).alloc (by simp; omega) _
  have R7 : Hid (w7.heap[g2]? = some (.cells (lay lc p) 27 (0, 0))) := by rw [← hw7, Hid, alloc_heap _ _ _ (by omega), ← hw6, alloc_heap _ _ _ (by omega)]; exact R5.out
  have P7 : Hid (w7.heap[g2 + 1]? = some (.cells #[.int .i64 2, .int .i64 0] 93 (0, 0))) := by rw [← hw7, Hid, alloc_heap _ _ _ (by omega), ← hw6, ← s5]; exact new_row _ _ _
  have T7 : Hid (w7.heap[g2 + 2]? = some (.cells #[.int .i64 0, .int .i64 1, .int .i64 0, .int .i64 0, .bool false, .bool false, .slice (some ⟨g2 + 1, 0, none⟩) 1 1, .slice none 0 0] 91 (0, 0))) := by rw [← hw7, ← s6]; exact new_row _ _ _
  obtain ⟨w8, hw8⟩ : ∃ w8, w7.alloc (.cells #[.int .i64 0, .int .i64 1, .int .i64 0, .int .i64 0, .bool false, .bool false, .slice (some ⟨g2 + 1, 0, none⟩) 1 1, .slice none 0 0, .int .i64 0, .int .i64 1, .int .i64 0, .int .i64 0, .bool false, .bool false, .slice (some ⟨g2 + 1, 0, none⟩) 1 1, .slice none 0 0] 91) = w8 := ⟨_, rfl⟩
  have s8 : w8.heap.size = g2 + 4 := by rw [← hw8]; simp; omega
  have B8 : Hid (Below B w w8) := by rw [← hw8]; exact B7.out.alloc (by omega) _
  have R8 : Hid (w8.heap[g2]? = some (.cells (lay lc p) 27 (0, 0))) := by rw [← hw8, Hid, alloc_heap _ _ _ (by omega)]; exact R7.out
  have P8 : Hid (w8.heap[g2 + 1]? = some (.cells #[.int .i64 2, .int .i64 0] 93 (0, 0))) := by rw [← hw8, Hid, alloc_heap _ _ _ (by omega)]; exact P7.out
  have T8 : Hid (w8.heap[g2 + 2]? = some (.cells #[.int .i64 0, .int .i64 1, .int .i64 0, .int .i64 0, .bool false, .bool false, .slice (some ⟨g2 + 1, 0, none⟩) 1 1, .slice none 0 0] 91 (0, 0))) := by rw [← hw8, Hid, alloc_heap _ _ _ (by omega)]; exact T7.out
  have D8 : w8.heap[g2 + 3]? = some (.cells #[.int .i64 0, .int .i64 1, .int .i64 0, .int .i64 0, .bool false, .bool false, .slice (some ⟨g2 + 1, 0, none⟩) 1 1, .slice none 0 0, .int .i64 0, .int .i64 1, .int .i64 0, .int .i64 0, .bool false, .bool false, .slice (some ⟨g2 + 1, 0, none⟩) 1 1, .slice none 0 0] 91 (0, 0)) := by rw [← hw8, ← s7]; exact new_row _ _ _
  have LK := locks_any lc_fine (many2 P8.out D8)
  clear D8
  rw [HP.out] at LK
  have LKH : Hid (Calls Try.prog 25 #[.agg (lay lc p), .slice (some ⟨g2 + 3, 0, none⟩) 2 2] w8 fun e w' => ∃ q, e = .returned (.slice (some ⟨q, 0, none⟩) 1 1) ∧ w8.heap.size ≤ q ∧ Cnts w' q 1 (rds lc [tx, tx]) (wrs lc [tx, tx]) ∧ Below w8.heap.size w8 w') := LK
  clear LK
  rw [hw6, hw7]
  clear hw6 hw7
  go_upto_region 6 with (first
    | (refine wpList_tx2 rfl _ _ rfl _ _ _ _ _ _ _ _ _ _ _ _ _ _ _ _ rfl rfl ?_)
    | (refine wpList_load_row rfl 27 _ rfl g2 rfl 27 (lay lc p) (0, 0) _ R7.out Try.underlying27 rfl (lay_size _ _) ?_)
    | (refine wpList_load_row rfl 91 _ rfl (g2 + 2) rfl 91 #[.int .i64 0, .int .i64 1, .int .i64 0, .int .i64 0, .bool false, .bool false, .slice (some ⟨g2 + 1, 0, none⟩) 1 1, .slice none 0 0] (0, 0) _ T7.out Try.underlying91 rfl Heat.tx_size ?_)
    | (go_at_call 25; refine LKH.out.mono ?_; rintro e w9 ⟨q, rfl, hq, hC, hb9⟩))
  have hs9 := hb9.size
  have B9 : Hid (Below B w w9) := B8.out.trans (hb9.mono (by omega))
  have R9 : Hid (w9.heap[g2]? = some (.cells (lay lc p) 27 (0, 0))) := by rw [Hid, hb9.block _ (by omega)]; exact R8.out
  have P9 : Hid (w9.heap[g2 + 1]? = some (.cells #[.int .i64 2, .int .i64 0] 93 (0, 0))) := by rw [Hid, hb9.block _ (by omega)]; exact P8.out
  have T9 : Hid (w9.heap[g2 + 2]? = some (.cells #[.int .i64 0, .int .i64 1, .int .i64 0, .int .i64 0, .bool false, .bool false, .slice (some ⟨g2 + 1, 0, none⟩) 1 1, .slice none 0 0] 91 (0, 0))) := by rw [Hid, hb9.block _ (by omega)]; exact T8.out
  obtain ⟨k0, k1, k2⟩ := hC.at_ (i := 0) (by omega)
  rw [rds2] at k1
  rw [wrs2] at k2
  have k0 : w9.cell? ⟨q, 0, none⟩ = some (.int .i64 3) := k0
  have k1 : w9.cell? ⟨q, 1, none⟩ = some (.int .i64 2) := k1
  have k2 : w9.cell? ⟨q, 2, none⟩ = some (.int .i64 0) := k2
  have key : ∀ w', Below w9.heap.size w9 w' → Many (w'.alloc (.cells #[.int .i64 0, .int .i64 1, .int .i64 0, .int .i64 0, .bool false, .bool false, .slice (some ⟨g2 + 1, 0, none⟩) 1 1, .slice none 0 0] 91)) (w'.alloc (.cells #[.int .i64 0, .int .i64 1, .int .i64 0, .int .i64 0, .bool false, .bool false, .slice (some ⟨g2 + 1, 0, none⟩) 1 1, .slice none 0 0] 91)).heap.size (.slice (some ⟨w'.heap.size, 0, none⟩) 1 1) [tx] := fun w' hb => by
    have hs := hb.size
    refine many1 (gp := g2 + 1) ?_ (new_row _ _ _)
    rw [alloc_heap _ _ _ (by omega), hb.block _ (by omega)]
    exact P9.out
  have SH : Hid (∀ w', Below w9.heap.size w9 w' → Calls Try.prog 29 #[.agg (lay lc p), .slice (some ⟨w'.heap.size, 0, none⟩) 1 1] (w'.alloc (.cells #[.int .i64 0, .int .i64 1, .int .i64 0, .int .i64 0, .bool false, .bool false, .slice (some ⟨g2 + 1, 0, none⟩) 1 1, .slice none 0 0] 91)) fun e w2 => e = .returned (.int .i64 100) ∧ Below w9.heap.size w9 w2) := fun w' hb => by
    have hs := hb.size
    have h := share_any lc_fine (key w' hb)
    rw [HP.out, show lc.stripes.toNat = 1 from rfl, big1] at h
    refine h.mono ?_
    rintro e w2 ⟨rfl, hb2⟩
    exact ⟨by simp [wrap64], (hb.alloc (by omega) _).trans (hb2.mono (by simp; omega))⟩
  have TT : Hid (∀ w', Below w9.heap.size w9 w' → Calls Try.prog 22 #[.slice (some ⟨w'.heap.size, 0, none⟩) 1 1] (w'.alloc (.cells #[.int .i64 0, .int .i64 1, .int .i64 0, .int .i64 0, .bool false, .bool false, .slice (some ⟨g2 + 1, 0, none⟩) 1 1, .slice none 0 0] 91)) fun e w2 => e = .returned (.agg #[.int .i64 1, .int .i64 0, .int .i64 0, .int .i64 0, .int .i64 0, .int .i64 1, .int .i64 0]) ∧ Below w9.heap.size w9 w2) := fun w' hb => by
    have hs := hb.size
    have h := Heat.total_any (key w' hb) (by decide)
    rw [row1] at h
    refine h.mono ?_
    rintro e w2 ⟨rfl, hb2⟩
    exact ⟨rfl, (hb.alloc (by omega) _).trans (hb2.mono (by simp; omega))⟩
  have hq9 := hC.lt
  have L9 : Hid (∀ w', Below w9.heap.size w9 w' → w'.heap[g2 + 2]? = some (.cells #[.int .i64 0, .int .i64 1, .int .i64 0, .int .i64 0, .bool false, .bool false, .slice (some ⟨g2 + 1, 0, none⟩) 1 1, .slice none 0 0] 91 (0, 0))) := fun w' hb => by rw [hb.block _ (by omega)]; exact T9.out
  clear key hC hb9 B8 R8 P8 T8 LKH R7 P7 T7 B7 hw8 B5 R5 LO SM hlc
  go_wp2_with (first
    | (refine wpList_load_row_if rfl 27 _ rfl g2 rfl 27 (lay lc p) (0, 0) _ R9.out Try.underlying27 rfl (lay_size _ _) ?_)
    | (refine wpList_load_row_if rfl 91 _ rfl (g2 + 2) rfl 91 #[.int .i64 0, .int .i64 1, .int .i64 0, .int .i64 0, .bool false, .bool false, .slice (some ⟨g2 + 1, 0, none⟩) 1 1, .slice none 0 0] (0, 0) _ (L9.out _ ‹_›) Try.underlying91 rfl Heat.tx_size ?_)
    | (refine wpList_load_row_if rfl 91 _ rfl (g2 + 2) rfl 91 #[.int .i64 0, .int .i64 1, .int .i64 0, .int .i64 0, .bool false, .bool false, .slice (some ⟨g2 + 1, 0, none⟩) 1 1, .slice none 0 0] (0, 0) _ (L9.out _ (Below.refl _ _)) Try.underlying91 rfl Heat.tx_size ?_)
    | (refine wpList_tx1_if rfl _ rfl _ _ _ _ _ _ _ _ rfl ?_)
    | (go_at_call 29; refine (SH.out _ (Below.refl _ _)).mono ?_; rintro e w10 ⟨rfl, hb10⟩)
    | (go_at_call 22; refine (TT.out _ hb10).mono ?_; rintro e w11 ⟨rfl, hb11⟩))
  go_ret
  exact ⟨rfl, B9.out.trans (hb11.mono (by omega))⟩
end HLives
end Go.Proofs.Ytnpieopflgkjdaa
