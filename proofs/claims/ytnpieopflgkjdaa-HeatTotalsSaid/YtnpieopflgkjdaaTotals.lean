import Derived.Test.YtnpieopflgkjdaaHLives
namespace Go.Proofs.Ytnpieopflgkjdaa
open Go.RowKit Go.Bas
open Lay RefLay Of Txs Worst
namespace Totals

set_option maxRecDepth 100000 in
set_option maxHeartbeats 2000000 in
theorem walk_many {w : World} {s : Value} {l : List Tx} (h : Many w w.heap.size s l) :
    Calls Try.prog 4 #[s] w fun e w' => e = .returned (.bool true) ∧ Below w.heap.size w w' := by
  obtain ⟨A, cp, rfl, hm, hc⟩ := id h
  have hM := Lib.hid h
  have hm : l.length ≤ 9223372036854775807 := hm
  clear hc h
  obtain ⟨n, hn⟩ : ∃ n, l.length = n := ⟨_, rfl⟩
  obtain ⟨B, hB⟩ : ∃ B, w.heap.size = B := ⟨_, rfl⟩
  have HN := Lib.hid hn
  rw [hB] at hM ⊢
  rw [hn] at hM hm ⊢
  clear hn
  have GR := Lib.hid (Heat.great_any hM.out)
  obtain ⟨b, hb⟩ : ∃ b, Heat.greatB l = b := ⟨_, rfl⟩
  rw [hb] at GR
  have HB := Lib.hid hb
  clear hb
  go_enter Try.func4, Try.ntmps4
  cases b with
  | true =>
    go_wp2_with (first
      | (go_at_call 20; refine GR.out.mono ?_; rintro e w' ⟨rfl, m, rfl⟩)
      | (go_at_call 21; refine (HLives.lives_any _).mono ?_; rintro e w2 ⟨rfl, hb2⟩))
    go_ret
    exact ⟨rfl, (drewN_below B w m).trans (hb2.mono (by show B ≤ w.heap.size; omega))⟩
  | false =>
    have hfew : l.length ≤ 60 := Heat.great_not HB.out
    obtain ⟨⟨p0, p1, p2, p3⟩, psum⟩ := Heat.four (l := l) l.length (Nat.le_refl _) hfew
    rw [List.take_length] at p0 p1 p2 p3 psum
    rw [HN.out] at hfew psum
    have TT : Hid (∀ w', Below B w w' → Calls Try.prog 22 #[.slice A n cp] w' fun e w'' => e = .returned (.agg (Heat.rowE l)) ∧ Below B w w'') := fun w' hb => by
      have hs := hb.size
      refine (Heat.total_any (many_mono (hM.out.below hb) (by omega)) (by rw [HN.out]; exact hfew)).mono ?_
      rintro e w'' ⟨rfl, hb2⟩
      exact ⟨rfl, hb.trans (hb2.mono (by omega))⟩
    unfold Heat.rowE at TT
    go_upto_region 4 with (first
      | (go_at_call 20; refine GR.out.mono ?_; rintro e w' ⟨rfl, m, rfl⟩)
      | (go_at_call 22; refine (TT.out _ (drewN_below B w m)).mono ?_; rintro e w2 ⟨rfl, hb2⟩))
    obtain ⟨g, hg⟩ : ∃ g, w2.heap.size = g := ⟨_, rfl⟩
    have hs2 := hb2.size
    obtain ⟨w3, hw3⟩ : ∃ w3, w2.alloc (.cells #[.int .i64 (Heat.cnt 1 l), .int .i64 (Heat.cnt 2 l), .int .i64 (Heat.cnt 3 l), .int .i64 (Heat.cnt 0 l), .int .i64 (Heat.cnt 4 l), .int .i64 (Heat.cnt 5 l), .int .i64 (Heat.cnt 6 l)] 40) = w3 := ⟨_, rfl⟩
    have s3 : w3.heap.size = g + 1 := by rw [← hw3, ← hg]; simp
    have G3 : Hid (w3.heap[g]? = some (.cells #[.int .i64 (Heat.cnt 1 l), .int .i64 (Heat.cnt 2 l), .int .i64 (Heat.cnt 3 l), .int .i64 (Heat.cnt 0 l), .int .i64 (Heat.cnt 4 l), .int .i64 (Heat.cnt 5 l), .int .i64 (Heat.cnt 6 l)] 40 (0, 0))) := by rw [← hw3, ← hg]; exact new_row _ _ _
    have B3 : Hid (Below B w w3) := by rw [← hw3]; exact hb2.alloc (by omega) _
    have CT : Hid (∀ w' k, Below w3.heap.size w3 w' → 0 ≤ k ∧ k ≤ 6 → Calls Try.prog 23 #[.slice A n cp, .int .i64 k] w' fun e w'' => e = .returned (.int .i64 (Heat.cnt k l)) ∧ Below w3.heap.size w3 w'') := fun w' k hb hk => by
      have hs := hb.size
      refine (Heat.count_any k hk (many_mono (hM.out.below (B3.out.trans (hb.mono (by omega)))) (by omega))).mono ?_
      rintro e w'' ⟨rfl, hb2⟩
      exact ⟨rfl, hb.trans (hb2.mono (by omega))⟩
    rw [hw3]
    clear hw3 hb2
    go_upto_region 5 with (first
      | (go_at_call 23; refine (CT.out _ _ (by first | exact Below.refl _ _ | assumption) (by omega)).mono ?_; rintro e w46 ⟨rfl, h6⟩))
    have hs46 := h6.size
    obtain ⟨g2, hg2⟩ : ∃ g, w46.heap.size = g := ⟨_, rfl⟩
    rw [hg2]
    obtain ⟨w5, hw5⟩ : ∃ w5, w46.alloc (.cells #[.int .i64 (Heat.cnt 1 l), .int .i64 (Heat.cnt 2 l), .int .i64 (Heat.cnt 3 l), .int .i64 (Heat.cnt 0 l), .int .i64 (Heat.cnt 4 l), .int .i64 (Heat.cnt 5 l), .int .i64 (Heat.cnt 6 l)] 40) = w5 := ⟨_, rfl⟩
    have G5 : Hid (w5.heap[g2]? = some (.cells #[.int .i64 (Heat.cnt 1 l), .int .i64 (Heat.cnt 2 l), .int .i64 (Heat.cnt 3 l), .int .i64 (Heat.cnt 0 l), .int .i64 (Heat.cnt 4 l), .int .i64 (Heat.cnt 5 l), .int .i64 (Heat.cnt 6 l)] 40 (0, 0))) := by rw [← hw5, ← hg2]; exact new_row _ _ _
    have H5 : Hid (w5.heap[g]? = some (.cells #[.int .i64 (Heat.cnt 1 l), .int .i64 (Heat.cnt 2 l), .int .i64 (Heat.cnt 3 l), .int .i64 (Heat.cnt 0 l), .int .i64 (Heat.cnt 4 l), .int .i64 (Heat.cnt 5 l), .int .i64 (Heat.cnt 6 l)] 40 (0, 0))) := by rw [← hw5, Hid, alloc_heap _ _ _ (by omega), h6.block _ (by omega)]; exact G3.out
    have B5 : Hid (Below B w w5) := by rw [← hw5]; exact (B3.out.trans (h6.mono (by omega))).alloc (by omega) _
    rw [hw5]
    clear hw5 h6 CT TT G3 B3
    have hs5 : B ≤ w5.heap.size := by have := B5.out.size; omega
    have q0 : ∀ j, w5.cell? ⟨g, j, none⟩ = (#[.int .i64 (Heat.cnt 1 l), .int .i64 (Heat.cnt 2 l), .int .i64 (Heat.cnt 3 l), .int .i64 (Heat.cnt 0 l), .int .i64 (Heat.cnt 4 l), .int .i64 (Heat.cnt 5 l), .int .i64 (Heat.cnt 6 l)] : Array Value)[j]? := fun j => cell_of_row _ _ _ _ _ _ H5.out
    go_wp2_with (first
      | (refine wpList_load_row rfl 40 _ rfl g rfl 40 _ (0, 0) _ H5.out Try.underlying40 rfl Heat.sum_size ?_)
      | (refine wpList_load_row rfl 40 _ rfl g2 rfl 40 _ (0, 0) _ G5.out Try.underlying40 rfl Heat.sum_size ?_)
      | (go_at_call 21; refine (HLives.lives_any _).mono ?_; rintro e w6 ⟨rfl, hb6⟩))
    go_ret
    exact ⟨rfl, B5.out.trans (hb6.mono (by omega))⟩

set_option maxRecDepth 100000 in
theorem walk {H : Type} {enc : TypeId × Value → H} {base : Nat} {spare : Nat → Bool} {held : Bool} {d : DataW H} {p : List MemPlace} {r : Reach} {b0 : Nat} (v : Value) (w : World)
    (hv : Value.okWide Try.prog w r b0 37 v) (h : DataW.Trod enc Try.prog w base spare held 37 v d p) :
    Calls Try.prog 4 #[v] w fun e w' => e = .returned (.bool true) ∧ Below w.heap.size w w' := by
  obtain ⟨l, hl⟩ := many_of hv h
  exact walk_many hl

end Totals
end Go.Proofs.Ytnpieopflgkjdaa
