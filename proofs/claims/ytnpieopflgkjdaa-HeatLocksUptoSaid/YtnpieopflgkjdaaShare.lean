import Derived.Test.YtnpieopflgkjdaaWorst
namespace Go.Proofs.Ytnpieopflgkjdaa
open Go.RowKit Go.Bas
open Lay RefLay Of Txs Lock Meet Heat Locks Worst
namespace Worst

set_option maxRecDepth 100000 in
set_option maxHeartbeats 2000000 in
theorem share_any {c : Cfg} (F : Fine c) {w : World} {s : Value} {l : List Tx} (h : Many w w.heap.size s l) :
    Calls Try.prog 29 #[.agg (lay c (places c)), s] w fun e w' => e = .returned (.int .i64 (if (big (rds c l) (wrs c l) c.stripes.toNat).2.2.2 = 0 then 0 else wrap64 ((wrap64 (100 * wrap64 ((big (rds c l) (wrs c l) c.stripes.toNat).2.1 + (big (rds c l) (wrs c l) c.stripes.toNat).2.2.1))).tdiv (big (rds c l) (wrs c l) c.stripes.toNat).2.2.2))) ∧ Below w.heap.size w w' := by
  obtain ⟨B, hB⟩ : ∃ B, w.heap.size = B := ⟨_, rfl⟩
  obtain ⟨w1, hw1⟩ : ∃ w1, w.alloc (.cells (lay c (places c)) 27) = w1 := ⟨_, rfl⟩
  have s1 : w1.heap.size = B + 1 := by rw [← hw1, ← hB]; simp
  have R1 : Hid (w1.heap[B]? = some (.cells (lay c (places c)) 27 (0, 0))) := by rw [← hw1, ← hB]; exact new_row _ _ _
  have B1 : Hid (Below B w w1) := by rw [← hw1, Hid, ← hB]; exact (Below.refl _ _).alloc (Nat.le_refl _) _
  have LK := worst_any F (many_mono (h.below (hB ▸ B1.out)) (show w.heap.size ≤ w1.heap.size by omega))
  clear h
  obtain ⟨⟨x1, x2, x3, x4⟩, hx⟩ : ∃ x, big (rds c l) (wrs c l) c.stripes.toNat = x := ⟨_, rfl⟩
  rw [hx] at LK ⊢
  clear hx
  obtain ⟨p, hpp⟩ : ∃ p, places c = p := ⟨_, rfl⟩
  rw [hpp] at LK R1 hw1 ⊢
  clear hpp
  dsimp only at LK ⊢
  have LKH := Lib.hid LK
  clear LK F
  rw [hB]
  go_enter Try.func29, Try.ntmps29
  go_upto_region 2 with (first
    | (refine wpList_load_row rfl 27 _ rfl B rfl 27 (lay c p) (0, 0) _ R1.out Try.underlying27 rfl (lay_size _ _) ?_)
    | (go_at_call 58; refine LKH.out.mono ?_; rintro e w2 ⟨rfl, hb2⟩))
  have hs2 := hb2.size
  obtain ⟨g, hg⟩ : ∃ g, w2.heap.size = g := ⟨_, rfl⟩
  obtain ⟨w3, hw3⟩ : ∃ w3, w2.alloc (.cells #[.int .i64 x1, .int .i64 x2, .int .i64 x3] 51) = w3 := ⟨_, rfl⟩
  have G3 : Hid (w3.heap[g]? = some (.cells #[.int .i64 x1, .int .i64 x2, .int .i64 x3] 51 (0, 0))) := by rw [← hw3, ← hg]; exact new_row _ _ _
  have B3 : Hid (Below B w w3) := by rw [← hw3]; exact (B1.out.trans (hb2.mono (by omega))).alloc (by omega) _
  rw [hw3, hg]
  clear hw3 hw1 hb2 R1 B1
  by_cases h0 : x4 = 0
  · subst h0
    go_wp2
    go_ret
    exact ⟨rfl, B3.out⟩
  · skip
    go_wp2_with (first
      | (refine wpList_load_row rfl 51 _ rfl g rfl 51 _ (0, 0) _ G3.out Try.underlying51 rfl lock_size ?_)
      | (go_at_call 59; refine (met_any _ _ _ _).mono ?_; rintro e w4 ⟨rfl, hb4⟩))
    go_ret
    exact ⟨rfl, B3.out.trans (hb4.mono (by have := (Array.getElem?_eq_some_iff.1 G3.out).1; omega))⟩

set_option maxRecDepth 100000 in
set_option maxHeartbeats 2000000 in
theorem most_any {c : Cfg} (F : Fine c) {w : World} {s : Value} {l : List Tx} (h : Many w w.heap.size s l) :
    Calls Try.prog 27 #[.agg (lay c (places c)), s] w fun e w' => e = .returned (.tuple #[.int .i64 (big (rds c l) (wrs c l) c.stripes.toNat).1, .bool (decide (0 < (big (rds c l) (wrs c l) c.stripes.toNat).2.2.2))]) ∧ Below w.heap.size w w' := by
  obtain ⟨B, hB⟩ : ∃ B, w.heap.size = B := ⟨_, rfl⟩
  obtain ⟨w1, hw1⟩ : ∃ w1, w.alloc (.cells (lay c (places c)) 27) = w1 := ⟨_, rfl⟩
  have s1 : w1.heap.size = B + 1 := by rw [← hw1, ← hB]; simp
  have R1 : Hid (w1.heap[B]? = some (.cells (lay c (places c)) 27 (0, 0))) := by rw [← hw1, ← hB]; exact new_row _ _ _
  have B1 : Hid (Below B w w1) := by rw [← hw1, Hid, ← hB]; exact (Below.refl _ _).alloc (Nat.le_refl _) _
  have LK := worst_any F (many_mono (h.below (hB ▸ B1.out)) (show w.heap.size ≤ w1.heap.size by omega))
  clear h
  obtain ⟨⟨x1, x2, x3, x4⟩, hx⟩ : ∃ x, big (rds c l) (wrs c l) c.stripes.toNat = x := ⟨_, rfl⟩
  rw [hx] at LK ⊢
  clear hx
  obtain ⟨p, hpp⟩ : ∃ p, places c = p := ⟨_, rfl⟩
  rw [hpp] at LK R1 hw1 ⊢
  clear hpp
  dsimp only at LK ⊢
  have LKH := Lib.hid LK
  clear LK F
  rw [hB]
  go_enter Try.func27, Try.ntmps27
  go_upto_region 2 with (first
    | (refine wpList_load_row rfl 27 _ rfl B rfl 27 (lay c p) (0, 0) _ R1.out Try.underlying27 rfl (lay_size _ _) ?_)
    | (go_at_call 58; refine LKH.out.mono ?_; rintro e w2 ⟨rfl, hb2⟩))
  have hs2 := hb2.size
  obtain ⟨g, hg⟩ : ∃ g, w2.heap.size = g := ⟨_, rfl⟩
  obtain ⟨w3, hw3⟩ : ∃ w3, w2.alloc (.cells #[.int .i64 x1, .int .i64 x2, .int .i64 x3] 51) = w3 := ⟨_, rfl⟩
  have G3 : Hid (w3.heap[g]? = some (.cells #[.int .i64 x1, .int .i64 x2, .int .i64 x3] 51 (0, 0))) := by rw [← hw3, ← hg]; exact new_row _ _ _
  have B3 : Hid (Below B w w3) := by rw [← hw3]; exact (B1.out.trans (hb2.mono (by omega))).alloc (by omega) _
  rw [hw3, hg]
  clear hw3 hw1 hb2 R1 B1
  have k0 : w3.cell? ⟨g, 0, none⟩ = some (.int .i64 x1) := by rw [cell_of_row _ _ _ _ _ _ G3.out]; rfl
  go_wp2
  go_ret2
  exact ⟨rfl, B3.out⟩

end Worst
end Go.Proofs.Ytnpieopflgkjdaa
