import Derived.Test.YtnpieopflgkjdaaHeat
import Derived.Deep.RegionHeld3
import Derived.Test.YtnpieopflgkjdaaBase4
namespace Go.Proofs.Ytnpieopflgkjdaa
open Go.RowKit Go.Bas
open Txs
namespace Heat

/-- what a try wrote, if that is sure, as a slice -/
def wro (sure : Bool) (s : Value) : Value := if sure then s else .slice none 0 0

@[go_sem] theorem wro_true (s : Value) : wro true s = s := rfl
@[go_sem] theorem wro_false (s : Value) : wro false s = .slice none 0 0 := rfl

set_option maxRecDepth 100000 in
theorem wrote_any (a b c d : Int) (f s : Bool) (A6 : Option Addr) (n6 c6 : Nat) (A7 : Option Addr) (n7 c7 : Nat) (w : World) :
    Calls Try.prog 53 #[.agg #[.int .i64 a, .int .i64 b, .int .i64 c, .int .i64 d, .bool f, .bool s, .slice A6 n6 c6, .slice A7 n7 c7]] w fun e w' => e = .returned (wro s (.slice A7 n7 c7)) ∧ Below w.heap.size w w' := by
  obtain ⟨w1, hw1⟩ : ∃ w1, w.alloc (.cells #[.int .i64 a, .int .i64 b, .int .i64 c, .int .i64 d, .bool f, .bool s, .slice A6 n6 c6, .slice A7 n7 c7] 91) = w1 := ⟨_, rfl⟩
  have hrow : w1.heap[w.heap.size]? = some (.cells #[.int .i64 a, .int .i64 b, .int .i64 c, .int .i64 d, .bool f, .bool s, .slice A6 n6 c6, .slice A7 n7 c7] 91 (0, 0)) := by rw [← hw1]; exact new_row _ _ _
  have hb1 : Hid (Below w.heap.size w w1) := by rw [← hw1]; exact (Below.refl _ _).alloc (Nat.le_refl _) _
  have k5 : w1.cell? ⟨w.heap.size, 5, none⟩ = some (.bool s) := by rw [cell_of_row _ _ _ _ _ _ hrow]; rfl
  have k7 : w1.cell? ⟨w.heap.size, 7, none⟩ = some (.slice A7 n7 c7) := by rw [cell_of_row _ _ _ _ _ _ hrow]; rfl
  clear hrow
  go_enter Try.func53, Try.ntmps53
  go_upto_region 1 with fail
  clear hw1
  cases s with
  | true =>
    go_wp2
    go_ret
    exact ⟨rfl, hb1.out⟩
  | false =>
    go_wp2
    go_ret
    exact ⟨rfl, hb1.out⟩

/-- the counters behind some tries -/
def rowH (l : List Tx) : Array Value := #[.int .i64 (cnt 0 l), .int .i64 (cnt 1 l), .int .i64 (cnt 2 l), .int .i64 (cnt 3 l)]
def rowS (l : List Tx) : Array Value := #[.int .i64 0, .int .i64 0, .int .i64 0, .int .i64 0, .int .i64 (cnt 4 l), .int .i64 (cnt 5 l), .int .i64 (cnt 6 l)]
def rowE (l : List Tx) : Array Value := #[.int .i64 (cnt 1 l), .int .i64 (cnt 2 l), .int .i64 (cnt 3 l), .int .i64 (cnt 0 l), .int .i64 (cnt 4 l), .int .i64 (cnt 5 l), .int .i64 (cnt 6 l)]

theorem sum_size : (Try.prog.info? 40).map (·.size) = some 7 := by kernel_rfl

theorem rowH_at (l : List Tx) (h : Int) (hh : 0 ≤ h ∧ h ≤ 3) : (rowH l)[h.toNat]? = some (.int .i64 (cnt h l)) := by
  have : h = 0 ∨ h = 1 ∨ h = 2 ∨ h = 3 := by omega
  rcases this with rfl | rfl | rfl | rfl <;> rfl
theorem rowH_next {l : List Tx} {i : Nat} (hi : i < l.length) : (rowH (l.take i)).setIfInBounds (how l[i]).toNat (.int .i64 (wrap64 (cnt (how l[i]) (l.take i) + 1))) = rowH (l.take (i + 1)) := by
  have hh := how_in l[i]
  have s1 : cnt (how l[i]) (l.take (i + 1)) = wrap64 (cnt (how l[i]) (l.take i) + 1) := by
    rw [cnt_next _ hi, step_how hh, if_pos rfl]
  have s0 : ∀ k, 0 ≤ k ∧ k ≤ 3 → ¬ how l[i] = k → cnt k (l.take (i + 1)) = cnt k (l.take i) := fun k hk hn => cnt_same k hi (by rw [step_how hk, if_neg hn])
  have : how l[i] = 0 ∨ how l[i] = 1 ∨ how l[i] = 2 ∨ how l[i] = 3 := by omega
  rcases this with g | g | g | g
  all_goals (rw [g] at s1 s0 ⊢; unfold rowH)
  · rw [s1, s0 1 (by omega) (by omega), s0 2 (by omega) (by omega), s0 3 (by omega) (by omega)]; rfl
  · rw [s1, s0 0 (by omega) (by omega), s0 2 (by omega) (by omega), s0 3 (by omega) (by omega)]; rfl
  · rw [s1, s0 0 (by omega) (by omega), s0 1 (by omega) (by omega), s0 3 (by omega) (by omega)]; rfl
  · rw [s1, s0 0 (by omega) (by omega), s0 1 (by omega) (by omega), s0 2 (by omega) (by omega)]; rfl

set_option maxRecDepth 100000 in
set_option maxHeartbeats 2000000 in
theorem total_any {w : World} {s : Value} {l : List Tx} (h : Many w w.heap.size s l) (h60 : l.length ≤ 60) :
    Calls Try.prog 22 #[s] w fun e w' => e = .returned (.agg (rowE l)) ∧ Below w.heap.size w w' := by
  obtain ⟨A, c, rfl, hm, hc⟩ := id h
  have hM := Lib.hid h
  clear hc h
  obtain ⟨n, hn⟩ : ∃ n, l.length = n := ⟨_, rfl⟩
  obtain ⟨B, hB⟩ : ∃ B, w.heap.size = B := ⟨_, rfl⟩
  have HN := Lib.hid hn
  rw [hB] at hM
  rw [hn] at h60 ⊢
  rw [hB]
  clear hn hm
  obtain ⟨w1, hw1⟩ : ∃ w1, w.alloc (.cells #[.int .i64 0, .int .i64 0, .int .i64 0, .int .i64 0, .int .i64 0, .int .i64 0, .int .i64 0] 40) = w1 := ⟨_, rfl⟩
  have s1 : w1.heap.size = B + 1 := by rw [← hw1, ← hB]; simp
  obtain ⟨w2, hw2⟩ : ∃ w2, w1.alloc (.cells #[.int .i64 0, .int .i64 0, .int .i64 0, .int .i64 0] 94) = w2 := ⟨_, rfl⟩
  have s2 : w2.heap.size = B + 2 := by rw [← hw2]; simp; omega
  obtain ⟨w3, hw3⟩ : ∃ w3, w2.alloc (.cells #[.int .i64 0, .int .i64 0, .int .i64 0, .int .i64 0, .int .i64 0, .int .i64 0, .int .i64 0] 40) = w3 := ⟨_, rfl⟩
  have s3 : w3.heap.size = B + 3 := by rw [← hw3]; simp; omega
  have R3 : Hid (w3.heap[B]? = some (.cells #[.int .i64 0, .int .i64 0, .int .i64 0, .int .i64 0, .int .i64 0, .int .i64 0, .int .i64 0] 40 (0, 0))) := by rw [← hw3, Hid, alloc_heap _ _ _ (by omega), ← hw2, alloc_heap _ _ _ (by omega), ← hw1, ← hB]; exact new_row _ _ _
  have H3 : Hid (w3.heap[B + 1]? = some (.cells (rowH []) 94 (0, 0))) := by rw [← hw3, Hid, alloc_heap _ _ _ (by omega), ← hw2, ← s1]; exact new_row _ _ _
  have S3 : Hid (w3.heap[B + 2]? = some (.cells (rowS []) 40 (0, 0))) := by rw [← hw3, ← s2]; exact new_row _ _ _
  have B3 : Hid (Below B w w3) := by rw [← hw3, ← hw2, ← hw1, Hid, ← hB]; exact (((Below.refl _ _).alloc (Nat.le_refl _) _).alloc (by simp) _).alloc (by simp; omega) _
  go_enter Try.func22, Try.ntmps22
  go_wp2
  clear hw1 hw2 hw3 s1 s2 s3
  go_loopw [10] (fun u10 wr => ∃ i : Nat, i ≤ n ∧ u10 = .int .i64 i ∧ Hid (Below B w wr) ∧ Hid (wr.heap[B]? = some (.cells #[.int .i64 0, .int .i64 0, .int .i64 0, .int .i64 0, .int .i64 0, .int .i64 0, .int .i64 0] 40 (0, 0))) ∧ Hid (wr.heap[B + 1]? = some (.cells (rowH (l.take i)) 94 (0, 0))) ∧ Hid (wr.heap[B + 2]? = some (.cells (rowS (l.take i)) 40 (0, 0)))) (fun u10 _ => n - (intOf u10).toNat)
  case atStart => exact ⟨0, by omega, rfl, B3, R3, H3, S3⟩
  case round =>
    clear R3 H3 S3 B3
    obtain ⟨i, hi, rfl, HB, HR3, HH3, HS3⟩ := hrel
    by_cases hlt : i < n
    · have hlen : i < l.length := by rw [HN.out]; exact hlt
      have hsr : B + 3 ≤ wr.heap.size := (Array.getElem?_eq_some_iff.1 HS3.out).1
      obtain ⟨b, off, r, q, rfl, hbB, hrow, ⟨A6, c6, rfl, m6, _⟩, ⟨A7, c7, rfl, m7, _⟩⟩ := at_row (hM.out.below HB.out) hlen
      have hN := rowH_next hlen
      have c4 := cnt_next 4 hlen; have c5 := cnt_next 5 hlen; have c6' := cnt_next 6 hlen
      obtain ⟨t, ht⟩ : ∃ t, l[i] = t := ⟨_, rfl⟩
      rw [ht] at hrow m6 m7 hN c4 c5 c6'
      have s4 : step 4 t = if t.fall then 1 else 0 := rfl
      have s5 : step 5 t = t.reads.length := rfl
      have s6 : step 6 t = if t.sure then (t.writes.length : Int) else 0 := rfl
      rw [s4] at c4; rw [s5] at c5; rw [s6] at c6'
      have HR := Lib.hid hrow
      clear hrow ht s4 s5 s6
      obtain ⟨n6, hn6⟩ : ∃ n6, t.reads.length = n6 := ⟨_, rfl⟩
      obtain ⟨n7, hn7⟩ : ∃ n7, t.writes.length = n7 := ⟨_, rfl⟩
      rw [hn6, hn7] at HR
      rw [hn6] at c5
      rw [hn7] at c6'
      have m6 : n6 ≤ 9223372036854775807 := by rw [← hn6]; exact m6
      have m7 : n7 ≤ 9223372036854775807 := by rw [← hn7]; exact m7
      obtain ⟨P, hP⟩ : ∃ P, l.take i = P := ⟨_, rfl⟩
      have cP4 := @cnt_in 4 l i (by omega)
      have cP6 := @cnt_in 6 l i (by omega)
      rw [hP] at hN c4 c5 c6' HH3 HS3 cP4 cP6
      clear hP hn6 hn7 ‹0 < l[i].reads.length → _› ‹0 < l[i].writes.length → _›
      obtain ⟨P', hP'⟩ : ∃ P', l.take (i + 1) = P' := ⟨_, rfl⟩
      have HP' := Lib.hid hP'
      rw [hP'] at hN c4 c5 c6'
      clear hP'
      obtain ⟨g, hg⟩ : ∃ g, wr.heap.size = g := ⟨_, rfl⟩
      obtain ⟨w4, hw4⟩ : ∃ w4, wr.alloc (.cells #[.int .i64 0, .int .i64 0, .int .i64 0, .int .i64 0, .bool false, .bool false, .slice none 0 0, .slice none 0 0] 91) = w4 := ⟨_, rfl⟩
      have hg4 : Hid (w4.heap[g]? = some (.cells #[.int .i64 0, .int .i64 0, .int .i64 0, .int .i64 0, .bool false, .bool false, .slice none 0 0, .slice none 0 0] 91 (0, 0))) := by rw [← hw4, ← hg]; exact new_row _ _ _
      go_upto_region 6 with (first
        | (refine wpList_load_mid rfl 91 _ rfl b (off + i * 8) (by first | rfl | simp) [.int .i64 t.worker, .int .i64 t.how, .int .i64 t.seen, .int .i64 t.stamp, .bool t.fall, .bool t.sure, .slice A6 n6 c6, .slice A7 n7 c7] _ HR.out Try.underlying91 rfl tx_size ?r3)
        | (refine wpList_store_row rfl 91 _ _ rfl g #[.int .i64 t.worker, .int .i64 t.how, .int .i64 t.seen, .int .i64 t.stamp, .bool t.fall, .bool t.sure, .slice A6 n6 c6, .slice A7 n7 c7] rfl rfl 91 #[.int .i64 0, .int .i64 0, .int .i64 0, .int .i64 0, .bool false, .bool false, .slice none 0 0, .slice none 0 0] hg4.out tx_size rfl (by simp [Value.oneCell']) ?s3))
      obtain ⟨w5, hw5⟩ : ∃ w5, w4.setRow g #[.int .i64 t.worker, .int .i64 t.how, .int .i64 t.seen, .int .i64 t.stamp, .bool t.fall, .bool t.sure, .slice A6 n6 c6, .slice A7 n7 c7] = w5 := ⟨_, rfl⟩
      have B5 : Hid (Below B w w5) := by rw [← hw5, ← hw4]; exact setRow_below (HB.out.alloc (by omega) _) (by omega) _
      have G5 : Hid (w5.heap[g]? = some (.cells #[.int .i64 t.worker, .int .i64 t.how, .int .i64 t.seen, .int .i64 t.stamp, .bool t.fall, .bool t.sure, .slice A6 n6 c6, .slice A7 n7 c7] 91 (0, 0))) := by rw [← hw5]; exact setRow_same hg4.out
      have R5 : Hid (w5.heap[B]? = some (.cells #[.int .i64 0, .int .i64 0, .int .i64 0, .int .i64 0, .int .i64 0, .int .i64 0, .int .i64 0] 40 (0, 0))) := by rw [← hw5, Hid, setRow_other _ _ _ _ (by omega), ← hw4, alloc_heap _ _ _ (by omega)]; exact HR3.out
      have H5 : Hid (w5.heap[B + 1]? = some (.cells (rowH P) 94 (0, 0))) := by rw [← hw5, Hid, setRow_other _ _ _ _ (by omega), ← hw4, alloc_heap _ _ _ (by omega)]; exact HH3.out
      have S5 : Hid (w5.heap[B + 2]? = some (.cells (rowS P) 40 (0, 0))) := by rw [← hw5, Hid, setRow_other _ _ _ _ (by omega), ← hw4, alloc_heap _ _ _ (by omega)]; exact HS3.out
      rw [hw5]
      clear hw5 hw4 hg4 HR3 HH3 HS3 HB
      obtain ⟨w6, hw6⟩ : ∃ w6, w5.setRow (B + 1) (rowH P') = w6 := ⟨_, rfl⟩
      have B6 : Hid (Below B w w6) := by rw [← hw6]; exact setRow_below B5.out (by omega) _
      have G6 : Hid (w6.heap[g]? = some (.cells #[.int .i64 t.worker, .int .i64 t.how, .int .i64 t.seen, .int .i64 t.stamp, .bool t.fall, .bool t.sure, .slice A6 n6 c6, .slice A7 n7 c7] 91 (0, 0))) := by rw [← hw6, Hid, setRow_other _ _ _ _ (by omega)]; exact G5.out
      have R6 : Hid (w6.heap[B]? = some (.cells #[.int .i64 0, .int .i64 0, .int .i64 0, .int .i64 0, .int .i64 0, .int .i64 0, .int .i64 0] 40 (0, 0))) := by rw [← hw6, Hid, setRow_other _ _ _ _ (by omega)]; exact R5.out
      have H6 : Hid (w6.heap[B + 1]? = some (.cells (rowH P') 94 (0, 0))) := by rw [← hw6]; exact setRow_same H5.out
      have S6 : Hid (w6.heap[B + 2]? = some (.cells (rowS P) 40 (0, 0))) := by rw [← hw6, Hid, setRow_other _ _ _ _ (by omega)]; exact S5.out
      have k1 : w5.cell? ⟨g, 1, none⟩ = some (.int .i64 t.how) := by rw [cell_of_row _ _ _ _ _ _ G5.out]; rfl
      have q1 : ∀ j, w5.cell? ⟨B + 1, j, none⟩ = (rowH P)[j]? := fun j => cell_of_row _ _ _ _ _ _ H5.out
      have q2 : ∀ j v, w5.setCell ⟨B + 1, j, none⟩ v = w5.setRow (B + 1) ((rowH P).setIfInBounds j v) := fun j v => setCell_row H5.out
      have q3 : ∀ j, w5.frozen? ⟨B + 1, j, none⟩ = false := fun j => row_frozen H5.out j
      have key : ∃ H : Int, how t = H ∧ ((t.how < 0 ∧ H = 0) ∨ (¬ t.how < 0 ∧ 3 < t.how ∧ H = 0) ∨ (¬ t.how < 0 ∧ ¬ 3 < t.how ∧ H = t.how)) := by
        refine ⟨how t, rfl, ?_⟩
        unfold how
        split
        · omega
        · split <;> omega
      obtain ⟨H, hH, hcase⟩ := key
      have gA := rowH_at P H (by rw [← hH]; exact how_in t)
      rw [hH] at hN
      clear hH hM
      have C4 := Lib.hid c4; have C5 := Lib.hid c5; have C6 := Lib.hid c6'
      clear c4 c5 c6'
      rcases hcase with ⟨h1, hH⟩ | ⟨h1, h3, hH⟩ | ⟨h1, h3, hH⟩
      all_goals (subst hH; try simp only [Int.toNat_zero] at gA hN)
      all_goals (go_upto_region 10 with fail)
      all_goals (clear q1 q2 q3 gA hN k1 hw6 B5 G5 R5 H5 S5)
      all_goals (
        have k4' : w6.cell? ⟨g, 4, none⟩ = some (.bool t.fall) := by rw [cell_of_row _ _ _ _ _ _ G6.out]; rfl
        have k6' : w6.cell? ⟨g, 6, none⟩ = some (.slice A6 n6 c6) := by rw [cell_of_row _ _ _ _ _ _ G6.out]; rfl
        have k6 : ∀ cs, (w6.setRow (B + 2) cs).cell? ⟨g, 6, none⟩ = some (.slice A6 n6 c6) := fun cs => by rw [setRow_cell_other _ _ _ _ _ (by omega), cell_of_row _ _ _ _ _ _ G6.out]; rfl
        have q1 : ∀ j, w6.cell? ⟨B + 2, j, none⟩ = (#[.int .i64 0, .int .i64 0, .int .i64 0, .int .i64 0, .int .i64 (cnt 4 P), .int .i64 (cnt 5 P), .int .i64 (cnt 6 P)] : Array Value)[j]? := fun j => cell_of_row _ _ _ _ _ _ S6.out
        have q2 : ∀ j v, w6.setCell ⟨B + 2, j, none⟩ v = w6.setRow (B + 2) ((#[.int .i64 0, .int .i64 0, .int .i64 0, .int .i64 0, .int .i64 (cnt 4 P), .int .i64 (cnt 5 P), .int .i64 (cnt 6 P)] : Array Value).setIfInBounds j v) := fun j v => setCell_row S6.out
        have q3 : ∀ j, w6.frozen? ⟨B + 2, j, none⟩ = false := fun j => row_frozen S6.out j
        have r1 : ∀ cs j, (w6.setRow (B + 2) cs).cell? ⟨B + 2, j, none⟩ = cs[j]? := fun cs j => setRow_cell S6.out cs j
        have r2 : ∀ cs j v, (w6.setRow (B + 2) cs).setCell ⟨B + 2, j, none⟩ v = w6.setRow (B + 2) (cs.setIfInBounds j v) := fun cs j v => setRow_setCell S6.out cs j v
        have r3 : ∀ cs j, (w6.setRow (B + 2) cs).frozen? ⟨B + 2, j, none⟩ = false := fun cs j => row_frozen (setRow_same S6.out) j
        have E5 : wrap64 (cnt 5 P + ↑n6) = cnt 5 P' := C5.out.symm
        have D4 := C4.out
        cases hf : t.fall
        all_goals (rw [hf] at D4; simp at D4)
        all_goals (try rw [IntWalk.wrap64_in _ cP4] at D4)
        all_goals (have E4 := D4.symm; clear D4)
        all_goals (go_upto_region 13 with fail)
        all_goals (
          clear E4 E5 q1 q2 q3 k4' k6'
          obtain ⟨w8, hw8⟩ : ∃ w8, w6.setRow (B + 2) #[.int .i64 0, .int .i64 0, .int .i64 0, .int .i64 0, .int .i64 (cnt 4 P'), .int .i64 (cnt 5 P'), .int .i64 (cnt 6 P)] = w8 := ⟨_, rfl⟩
          have B8 : Hid (Below B w w8) := by rw [← hw8]; exact setRow_below B6.out (by omega) _
          have S8 : Hid (w8.heap[B + 2]? = some (.cells #[.int .i64 0, .int .i64 0, .int .i64 0, .int .i64 0, .int .i64 (cnt 4 P'), .int .i64 (cnt 5 P'), .int .i64 (cnt 6 P)] 40 (0, 0))) := by rw [← hw8]; exact setRow_same S6.out
          have G8 : Hid (w8.heap[g]? = some (.cells #[.int .i64 t.worker, .int .i64 t.how, .int .i64 t.seen, .int .i64 t.stamp, .bool t.fall, .bool t.sure, .slice A6 n6 c6, .slice A7 n7 c7] 91 (0, 0))) := by rw [← hw8, Hid, setRow_other _ _ _ _ (by omega)]; exact G6.out
          have R8 : Hid (w8.heap[B]? = some (.cells #[.int .i64 0, .int .i64 0, .int .i64 0, .int .i64 0, .int .i64 0, .int .i64 0, .int .i64 0] 40 (0, 0))) := by rw [← hw8, Hid, setRow_other _ _ _ _ (by omega)]; exact R6.out
          have H8 : Hid (w8.heap[B + 1]? = some (.cells (rowH P') 94 (0, 0))) := by rw [← hw8, Hid, setRow_other _ _ _ _ (by omega)]; exact H6.out
          rw [hw8]
          clear hw8 r1 r2 r3 k6 hf
          have hg8 : g + 1 ≤ w8.heap.size := (Array.getElem?_eq_some_iff.1 G8.out).1
          have hBg : B + 3 ≤ g := by omega
          have z6 : ∀ e : Ext (g + 1) w8, e.at_.cell? ⟨B + 2, 6, none⟩ = some (.int .i64 (cnt 6 P)) := ext_cell S8.out (by omega) rfl
          cases hs : t.sure
          all_goals (
            rw [hs] at G8
            refine wp_region_mono_tail (g + 1) 7 (by kernel_rfl) (by kernel_rfl) ?_
            simp only [List.take_succ_cons, List.take_zero, List.drop_succ_cons, List.drop_zero]
            repeat (any_goals (first
              | (refine wpQuiet_load_row rfl 91 _ rfl g rfl 91 _ (0, 0) _ (ext_row G8.out (by omega)) Try.underlying91 rfl tx_size ?_; go_simp)
              | go_big_quiet_step ((go_at_call 53; exact Calls.ext hg8 (wrote_any _ _ _ _ _ _ _ _ _ _ _ _ _)))))
            refine wpQuiet_nil ?_
            rintro ⟨w9, hb9⟩
            have hs9 := hb9.size
            have S9 : Hid (w9.heap[B + 2]? = some (.cells #[.int .i64 0, .int .i64 0, .int .i64 0, .int .i64 0, .int .i64 (cnt 4 P'), .int .i64 (cnt 5 P'), .int .i64 (cnt 6 P)] 40 (0, 0))) := by rw [Hid, hb9.block _ (by omega)]; exact S8.out
            have R9 : Hid (w9.heap[B]? = some (.cells #[.int .i64 0, .int .i64 0, .int .i64 0, .int .i64 0, .int .i64 0, .int .i64 0, .int .i64 0] 40 (0, 0))) := by rw [Hid, hb9.block _ (by omega)]; exact R8.out
            have H9 : Hid (w9.heap[B + 1]? = some (.cells (rowH P') 94 (0, 0))) := by rw [Hid, hb9.block _ (by omega)]; exact H8.out
            have B9 : Hid (Below B w w9) := B8.out.trans (hb9.mono (by omega))
            have D6 := C6.out
            rw [hs] at D6
            simp at D6
            try rw [IntWalk.wrap64_in _ cP6] at D6
            have E6 := D6.symm
            clear D6 z6 hs G8
            have q1 : ∀ j, w9.cell? ⟨B + 2, j, none⟩ = (#[.int .i64 0, .int .i64 0, .int .i64 0, .int .i64 0, .int .i64 (cnt 4 P'), .int .i64 (cnt 5 P'), .int .i64 (cnt 6 P)] : Array Value)[j]? := fun j => cell_of_row _ _ _ _ _ _ S9.out
            have q2 : ∀ j v, w9.setCell ⟨B + 2, j, none⟩ v = w9.setRow (B + 2) ((#[.int .i64 0, .int .i64 0, .int .i64 0, .int .i64 0, .int .i64 (cnt 4 P'), .int .i64 (cnt 5 P'), .int .i64 (cnt 6 P)] : Array Value).setIfInBounds j v) := fun j v => setCell_row S9.out
            have q3 : ∀ j, w9.frozen? ⟨B + 2, j, none⟩ = false := fun j => row_frozen S9.out j
            have fin : Hid (Below B w (w9.setRow (B + 2) (rowS P')) ∧ (w9.setRow (B + 2) (rowS P')).heap[B]? = some (.cells #[.int .i64 0, .int .i64 0, .int .i64 0, .int .i64 0, .int .i64 0, .int .i64 0, .int .i64 0] 40 (0, 0)) ∧ (w9.setRow (B + 2) (rowS P')).heap[B + 1]? = some (.cells (rowH P') 94 (0, 0)) ∧ (w9.setRow (B + 2) (rowS P')).heap[B + 2]? = some (.cells (rowS P') 40 (0, 0))) :=
              ⟨setRow_below B9.out (by omega) _, by rw [setRow_other _ _ _ _ (by omega)]; exact R9.out, by rw [setRow_other _ _ _ _ (by omega)]; exact H9.out, setRow_same S9.out⟩
            change wpList _ _ _ _ _ w9
            go_wp2
            go_roundw)))
      all_goals (first | exact ⟨i + 1, by omega, by go_num, fin.out.1, fin.out.2.1, (by rw [HP'.out]; exact fin.out.2.2.1), (by rw [HP'.out]; exact fin.out.2.2.2)⟩ | (simp [intOf]; omega))
    · obtain rfl : n = i := by omega
      have hP : l.take n = l := List.take_of_length_le (by rw [HN.out]; exact Nat.le_refl _)
      rw [hP] at HH3 HS3
      clear hP hM HN
      have k0 : wr.cell? ⟨B + 1, 0, none⟩ = some (.int .i64 (cnt 0 l)) ∧ wr.cell? ⟨B + 1, 1, none⟩ = some (.int .i64 (cnt 1 l)) ∧ wr.cell? ⟨B + 1, 2, none⟩ = some (.int .i64 (cnt 2 l)) ∧ wr.cell? ⟨B + 1, 3, none⟩ = some (.int .i64 (cnt 3 l)) := by
        refine ⟨?_, ?_, ?_, ?_⟩ <;> (rw [cell_of_row _ _ _ _ _ _ HH3.out]; rfl)
      have kk : ∀ cs, (wr.setRow (B + 2) cs).cell? ⟨B + 1, 0, none⟩ = some (.int .i64 (cnt 0 l)) ∧ (wr.setRow (B + 2) cs).cell? ⟨B + 1, 1, none⟩ = some (.int .i64 (cnt 1 l)) ∧ (wr.setRow (B + 2) cs).cell? ⟨B + 1, 2, none⟩ = some (.int .i64 (cnt 2 l)) ∧ (wr.setRow (B + 2) cs).cell? ⟨B + 1, 3, none⟩ = some (.int .i64 (cnt 3 l)) := by
        intro cs
        rw [setRow_cell_other _ _ _ _ _ (by omega), setRow_cell_other _ _ _ _ _ (by omega), setRow_cell_other _ _ _ _ _ (by omega), setRow_cell_other _ _ _ _ _ (by omega)]
        exact k0
      have KK := Lib.hid kk
      have q1 : ∀ j, wr.cell? ⟨B + 2, j, none⟩ = (#[.int .i64 0, .int .i64 0, .int .i64 0, .int .i64 0, .int .i64 (cnt 4 l), .int .i64 (cnt 5 l), .int .i64 (cnt 6 l)] : Array Value)[j]? := fun j => cell_of_row _ _ _ _ _ _ HS3.out
      have q2 : ∀ j v, wr.setCell ⟨B + 2, j, none⟩ v = wr.setRow (B + 2) ((#[.int .i64 0, .int .i64 0, .int .i64 0, .int .i64 0, .int .i64 (cnt 4 l), .int .i64 (cnt 5 l), .int .i64 (cnt 6 l)] : Array Value).setIfInBounds j v) := fun j v => setCell_row HS3.out
      have q3 : ∀ j, wr.frozen? ⟨B + 2, j, none⟩ = false := fun j => row_frozen HS3.out j
      have r1 : ∀ cs j, (wr.setRow (B + 2) cs).cell? ⟨B + 2, j, none⟩ = cs[j]? := fun cs j => setRow_cell HS3.out cs j
      have r2 : ∀ cs j v, (wr.setRow (B + 2) cs).setCell ⟨B + 2, j, none⟩ v = wr.setRow (B + 2) (cs.setIfInBounds j v) := fun cs j v => setRow_setCell HS3.out cs j v
      have r3 : ∀ cs j, (wr.setRow (B + 2) cs).frozen? ⟨B + 2, j, none⟩ = false := fun cs j => row_frozen (setRow_same HS3.out) j
      clear kk
      go_upto_region 15 with fail
      go_region_held3 (fun wx => wx.cell? ⟨B + 1, 0, none⟩ = some (.int .i64 (cnt 0 l)) ∧ wx.cell? ⟨B + 1, 1, none⟩ = some (.int .i64 (cnt 1 l)) ∧ wx.cell? ⟨B + 1, 2, none⟩ = some (.int .i64 (cnt 2 l)) ∧ wx.cell? ⟨B + 1, 3, none⟩ = some (.int .i64 (cnt 3 l))) (first | exact k0 | exact KK.out _) (first | fail)
      obtain ⟨wE, hwE⟩ : ∃ wE, (wr.setRow (B + 2) #[.int .i64 (cnt 1 l), .int .i64 (cnt 2 l), .int .i64 (cnt 3 l), .int .i64 (cnt 0 l), .int .i64 (cnt 4 l), .int .i64 (cnt 5 l), .int .i64 (cnt 6 l)]).drew = wE := ⟨_, rfl⟩
      have SE : Hid (wE.heap[B + 2]? = some (.cells (rowE l) 40 (0, 0))) := by rw [← hwE]; exact setRow_same HS3.out
      have RE : Hid (wE.heap[B]? = some (.cells #[.int .i64 0, .int .i64 0, .int .i64 0, .int .i64 0, .int .i64 0, .int .i64 0, .int .i64 0] 40 (0, 0))) := by rw [← hwE]; exact (setRow_other _ _ _ _ (by omega)).trans HR3.out
      have BE : Hid (Below B w wE) := by rw [← hwE]; exact (setRow_below HB.out (by omega) _).drew
      have RF : Hid ((wE.setRow B (rowE l)).heap[B]? = some (.cells (rowE l) 40 (0, 0))) := setRow_same RE.out
      rw [hwE]
      clear hwE q1 q2 q3 r1 r2 r3 k0 KK
      go_wp2_with (first
        | (refine wpList_load_row rfl 40 _ rfl (B + 2) rfl 40 (rowE l) (0, 0) _ SE.out Try.underlying40 rfl sum_size ?_)
        | (refine wpList_store_row rfl 40 _ _ rfl B (rowE l) rfl rfl 40 #[.int .i64 0, .int .i64 0, .int .i64 0, .int .i64 0, .int .i64 0, .int .i64 0, .int .i64 0] RE.out sum_size rfl (by simp [rowE, Value.oneCell']) ?_))
      exact bodyPost_ret (results_cell_row rfl _ _ B 40 (rowE l) (0, 0) _ rfl RF.out Try.underlying40 rfl sum_size) rfl ⟨rfl, setRow_below BE.out (Nat.le_refl _) _⟩

end Heat
end Go.Proofs.Ytnpieopflgkjdaa
