import Derived.Test.YtnpieopflgkjdaaCheck
import Derived.Deep.Cut
namespace Go.Proofs.Ytnpieopflgkjdaa
open Go.RowKit Go.Bas
open Lay RefLay Chk
namespace Of

/-- how many words each part has; where the next one may begin; where it begins -/
def size (c : Cfg) : Nat → Int
  | 0 => (c.pages + 3) / 4 | 1 => c.pages | 2 => c.pages | 3 => c.pages | 4 => c.pages | 5 => c.pages | 6 => 62 | 7 => c.cpus * 5 * (c.cache + 1) | 8 => 5 * (c.bin + 1) | 9 => c.pages * 32 | 10 => c.pages * 32 | _ => 0
def up (p : Nat) (a : Int) : Int := if p = 10 then (a + 127) / 128 * 128 else a
def start (c : Cfg) : Nat → Int
  | 0 => 3 + c.stripes
  | p + 1 => up p (start c p) + size c p
def place (c : Cfg) (p : Nat) : Int := up p (start c p)
def num (b : Bool) (x : Int) : Int := if b then x else 0
def part (c : Cfg) (p : Nat) : At := ⟨num (0 < p) (place c 0), num (1 < p) (place c 1), num (2 < p) (place c 2), num (3 < p) (place c 3), num (4 < p) (place c 4), num (5 < p) (place c 5), num (6 < p) (place c 6),
  num (7 < p) (place c 7), num (8 < p) (place c 8), num (9 < p) (place c 9), num (10 < p) (place c 10), 0⟩
def row1 (c : Cfg) (k : Nat) : Array Value := #[.int .i64 (size c 0), .int .i64 (num (0 < k) c.pages), .int .i64 (num (1 < k) c.pages), .int .i64 (num (2 < k) c.pages), .int .i64 (num (3 < k) c.pages), .int .i64 (num (4 < k) c.pages),
  .int .i64 0, .int .i64 0, .int .i64 0, .int .i64 0, .int .i64 0, .int .i64 0]
def row2 (c : Cfg) : Array Value := #[.int .i64 (size c 0), .int .i64 (size c 1), .int .i64 (size c 2), .int .i64 (size c 3), .int .i64 (size c 4), .int .i64 (size c 5), .int .i64 (size c 6), .int .i64 (size c 7), .int .i64 (size c 8), .int .i64 (size c 9), .int .i64 (size c 10), .int .i64 0]

theorem row1_next (c : Cfg) (k : Nat) (h : k < 5) : (row1 c k).setIfInBounds (k + 1) (.int .i64 c.pages) = row1 c (k + 1) := by
  match k, h with
  | 0, _ | 1, _ | 2, _ | 3, _ | 4, _ => rfl
theorem row1_at (c : Cfg) (k : Nat) (h : k < 5) : (row1 c k)[k + 1]? = some (.int .i64 0) := by
  match k, h with
  | 0, _ | 1, _ | 2, _ | 3, _ | 4, _ => rfl
theorem part_next (c : Cfg) (p : Nat) (h : p < 11) : (lay c (part c p)).setIfInBounds (11 + p) (.int .i64 (place c p)) = lay c (part c (p + 1)) := by
  match p, h with
  | 0, _ | 1, _ | 2, _ | 3, _ | 4, _ | 5, _ | 6, _ | 7, _ | 8, _ | 9, _ | 10, _ => rfl
theorem part_at (c : Cfg) (p : Nat) (h : p < 11) : (lay c (part c p))[11 + p]? = some (.int .i64 0) := by
  match p, h with
  | 0, _ | 1, _ | 2, _ | 3, _ | 4, _ | 5, _ | 6, _ | 7, _ | 8, _ | 9, _ | 10, _ => rfl
theorem row2_at (c : Cfg) (p : Nat) (h : p < 11) : (row2 c)[p]? = some (.int .i64 (size c p)) := by
  match p, h with
  | 0, _ | 1, _ | 2, _ | 3, _ | 4, _ | 5, _ | 6, _ | 7, _ | 8, _ | 9, _ | 10, _ => rfl

theorem cch_in' {c : Cfg} (F : Fine c) : 0 ≤ c.cpus * 5 * (c.cache + 1) ∧ c.cpus * 5 * (c.cache + 1) ≤ 360 := by
  have := cch_in F
  unfold cch at this
  rwa [Int.mul_comm 5 c.cpus] at this
theorem size_in {c : Cfg} (F : Fine c) (p : Nat) : 0 ≤ size c p ∧ size c p ≤ 10000 := by
  have h := cch_in' F; have := F.pages; have := F.bin
  unfold size; split <;> omega
theorem up_in {p : Nat} {a : Int} (h : 0 ≤ a) : a ≤ up p a ∧ up p a ≤ a + 127 := by unfold up; split <;> omega
theorem start_in {c : Cfg} (F : Fine c) : ∀ p : Nat, 0 ≤ start c p ∧ start c p ≤ 100 + p * 20000
  | 0 => by have := F.stripes; unfold start; omega
  | p + 1 => by
    have h := start_in F p; have := size_in F p; have := @up_in p _ h.1
    unfold start; omega
theorem place_in {c : Cfg} (F : Fine c) (p : Nat) : 0 ≤ place c p ∧ place c p ≤ 300 + p * 20000 := by
  have h := start_in F p; have := @up_in p _ h.1
  unfold place; omega

/-- where everything stands -/
def places (c : Cfg) : At := ⟨place c 0, place c 1, place c 2, place c 3, place c 4, place c 5, place c 6, place c 7, place c 8, place c 9, place c 10, start c 11⟩
theorem places_words {c : Cfg} : (places c).a11 = words c := by
  show start c 11 = words c
  have e : c.cpus * 5 * (c.cache + 1) = 5 * c.cpus * (c.cache + 1) := by rw [Int.mul_comm 5 c.cpus]
  simp [start, up, size, words, user, live, bins, caches, heads, table, RefLay.chunks, cch, e]
  omega
theorem part_end (c : Cfg) : (lay c (part c 11)).setIfInBounds 22 (.int .i64 (start c 11)) = lay c (places c) := rfl

theorem chunks_fn (p : Int) (w : World) (h : 0 ≤ p ∧ p ≤ 1000000) :
    Calls Try.prog 47 #[.int .i64 p] w fun e w' => e = .returned (.int .i64 ((p + 3) / 4)) ∧ w' = w := by
  go_enter Try.func47, Try.ntmps47
  go_wp2
  go_ret
  refine ⟨?_, rfl⟩
  simp
  omega

set_option maxRecDepth 100000 in
theorem built_lay (c : Cfg) : Try.prog.built 27 [(0, .agg (cfg c))] = some (lay c (part c 0)) := by kernel_rfl

set_option maxRecDepth 100000 in
set_option maxHeartbeats 600000 in
theorem of_of (c : Cfg) (w : World) (F : Fine c) :
    Calls Try.prog 10 #[.agg (cfg c)] w fun e w' => e = .returned (.tuple #[.agg (lay c (places c)), .int .i64 0]) ∧ Below w.heap.size w w' := by
  obtain ⟨w1, hw1⟩ : ∃ w1, w.alloc (.cells (cfg c) 23) = w1 := ⟨_, rfl⟩
  have hrow : Hid (w1.heap[w.heap.size]? = some (.cells (cfg c) 23 (0, 0))) := by rw [← hw1]; exact new_row _ _ _
  have hb1 : Hid (Below w.heap.size w w1) := by rw [← hw1]; exact (Below.refl _ _).alloc (Nat.le_refl _) _
  have hs1 : w1.heap.size = w.heap.size + 1 := by rw [← hw1]; simp
  have FH := Lib.hid F
  obtain ⟨w2, hw2⟩ : ∃ w2, w1.alloc (.cells #[.int .i64 0, .int .i64 0, .int .i64 0, .int .i64 0, .int .i64 0, .int .i64 0, .int .i64 0, .int .i64 0, .int .i64 0, .int .i64 0, .int .i64 0, .int .i64 0, .int .i64 0, .int .i64 0, .int .i64 0, .int .i64 0, .int .i64 0, .int .i64 0, .int .i64 0, .int .i64 0, .int .i64 0, .int .i64 0, .int .i64 0] 27) = w2 := ⟨_, rfl⟩
  have hb2 : Hid (Below w.heap.size w w2) := by rw [← hw2]; exact hb1.out.alloc (by omega) _
  have hs2 : w2.heap.size = w.heap.size + 2 := by rw [← hw2]; simp; omega
  have hrow2 : Hid (w2.heap[w.heap.size]? = some (.cells (cfg c) 23 (0, 0))) := by rw [← hw2, Hid, alloc_heap _ _ _ (by omega)]; exact hrow.out
  have hz2 : Hid (w2.heap[w.heap.size + 1]? = some (.cells #[.int .i64 0, .int .i64 0, .int .i64 0, .int .i64 0, .int .i64 0, .int .i64 0, .int .i64 0, .int .i64 0, .int .i64 0, .int .i64 0, .int .i64 0, .int .i64 0, .int .i64 0, .int .i64 0, .int .i64 0, .int .i64 0, .int .i64 0, .int .i64 0, .int .i64 0, .int .i64 0, .int .i64 0, .int .i64 0, .int .i64 0] 27 (0, 0))) := by rw [← hw2, ← hs1]; exact new_row _ _ _
  go_enter Try.func10, Try.ntmps10
  go_upto_region 4 with (first
    | (refine wpList_load_row rfl 23 _ rfl w.heap.size rfl 23 (cfg c) (0, 0) _ hrow2.out Try.underlying23 rfl (cfg_size c) ?_)
    | (go_at_call 46; refine (check_of c _ FH.out).mono ?_; rintro e w3 ⟨rfl, hb3⟩))
  have hs3 := hb3.size
  have HB3 := Lib.hid (hb2.out.trans (hb3.mono (by omega)))
  have hrow3 : Hid (w3.heap[w.heap.size]? = some (.cells (cfg c) 23 (0, 0))) := by rw [Hid, hb3.block _ (by omega)]; exact hrow2.out
  have hz3 : Hid (w3.heap[w.heap.size + 1]? = some (.cells #[.int .i64 0, .int .i64 0, .int .i64 0, .int .i64 0, .int .i64 0, .int .i64 0, .int .i64 0, .int .i64 0, .int .i64 0, .int .i64 0, .int .i64 0, .int .i64 0, .int .i64 0, .int .i64 0, .int .i64 0, .int .i64 0, .int .i64 0, .int .i64 0, .int .i64 0, .int .i64 0, .int .i64 0, .int .i64 0, .int .i64 0] 27 (0, 0))) := by rw [Hid, hb3.block _ (by omega)]; exact hz2.out
  clear hb3 hw2 hb2 hrow2 hz2 hw1 hb1 hrow hs1
  obtain ⟨b, hb⟩ : ∃ b, w3.heap.size = b := ⟨_, rfl⟩
  rw [hb, hs2] at hs3
  clear hs2
  obtain ⟨w4, hw4⟩ : ∃ w4, w3.alloc (.cells #[.int .i64 0, .int .i64 0, .int .i64 0, .int .i64 0, .int .i64 0, .int .i64 0, .int .i64 0, .int .i64 0, .int .i64 0, .int .i64 0, .int .i64 0, .int .i64 0, .int .i64 0, .int .i64 0, .int .i64 0, .int .i64 0, .int .i64 0, .int .i64 0, .int .i64 0, .int .i64 0, .int .i64 0, .int .i64 0, .int .i64 0] 27) = w4 := ⟨_, rfl⟩
  have hs4 : w4.heap.size = b + 1 := by rw [← hw4, ← hb]; simp
  have hl4 : Hid (w4.heap[b]? = some (.cells #[.int .i64 0, .int .i64 0, .int .i64 0, .int .i64 0, .int .i64 0, .int .i64 0, .int .i64 0, .int .i64 0, .int .i64 0, .int .i64 0, .int .i64 0, .int .i64 0, .int .i64 0, .int .i64 0, .int .i64 0, .int .i64 0, .int .i64 0, .int .i64 0, .int .i64 0, .int .i64 0, .int .i64 0, .int .i64 0, .int .i64 0] 27 (0, 0))) := by rw [← hw4, ← hb]; exact new_row _ _ _
  have ho4 : Hid (∀ k, k < b → w4.heap[k]? = w3.heap[k]?) := fun k hk => by rw [← hw4]; exact alloc_heap _ _ _ (by omega)
  have hb4 : Hid (Below w.heap.size w w4) := by rw [← hw4]; exact HB3.out.alloc (by omega) _
  clear HB3
  go_upto_region 5 with (first
    | (refine wpList_load_row rfl 23 _ rfl w.heap.size rfl 23 (cfg c) (0, 0) _ hrow3.out Try.underlying23 rfl (cfg_size c) ?_)
    | (refine wpList_built rfl 27 _ rfl [(0, .agg (cfg c))] rfl (lay c (part c 0)) (built_lay c) ?_)
    | (refine wpList_store_row rfl 27 _ _ rfl b (lay c (part c 0)) rfl rfl 27 #[.int .i64 0, .int .i64 0, .int .i64 0, .int .i64 0, .int .i64 0, .int .i64 0, .int .i64 0, .int .i64 0, .int .i64 0, .int .i64 0, .int .i64 0, .int .i64 0, .int .i64 0, .int .i64 0, .int .i64 0, .int .i64 0, .int .i64 0, .int .i64 0, .int .i64 0, .int .i64 0, .int .i64 0, .int .i64 0, .int .i64 0] hl4.out (lay_size _ _) rfl (lay_one _ _) ?_))
  obtain ⟨w5, hw5⟩ : ∃ w5, w4.setRow b (lay c (part c 0)) = w5 := ⟨_, rfl⟩
  have hs5 : w5.heap.size = b + 1 := by rw [← hw5, setRow_size]; exact hs4
  have hl5 : Hid (w5.heap[b]? = some (.cells (lay c (part c 0)) 27 (0, 0))) := by rw [← hw5]; exact setRow_same hl4.out
  have ho5 : Hid (∀ k, k < b → w5.heap[k]? = w3.heap[k]?) := fun k hk => by rw [← hw5, setRow_other _ _ _ _ (by omega)]; exact ho4.out k hk
  have hb5 : Hid (Below w.heap.size w w5) := by rw [← hw5]; exact setRow_below hb4.out (by omega) _
  rw [hw5]
  clear hw5 hw4 hs4 hl4 ho4 hb4
  obtain ⟨w6, hw6⟩ : ∃ w6, w5.alloc (.cells #[.int .i64 0, .int .i64 0, .int .i64 0, .int .i64 0, .int .i64 0, .int .i64 0, .int .i64 0, .int .i64 0, .int .i64 0, .int .i64 0, .int .i64 0, .int .i64 0] 25) = w6 := ⟨_, rfl⟩
  have hs6 : w6.heap.size = b + 2 := by rw [← hw6]; simp; omega
  have hS6 : Hid (w6.heap[b + 1]? = some (.cells #[.int .i64 0, .int .i64 0, .int .i64 0, .int .i64 0, .int .i64 0, .int .i64 0, .int .i64 0, .int .i64 0, .int .i64 0, .int .i64 0, .int .i64 0, .int .i64 0] 25 (0, 0))) := by rw [← hw6, ← hs5]; exact new_row _ _ _
  have hl6 : Hid (w6.heap[b]? = some (.cells (lay c (part c 0)) 27 (0, 0))) := by rw [← hw6, Hid, alloc_heap _ _ _ (by omega)]; exact hl5.out
  have hc6 : Hid (w6.heap[w.heap.size]? = some (.cells (cfg c) 23 (0, 0))) := by rw [← hw6, Hid, alloc_heap _ _ _ (by omega), ho5.out _ (by omega)]; exact hrow3.out
  have hz6 : Hid (w6.heap[w.heap.size + 1]? = some (.cells #[.int .i64 0, .int .i64 0, .int .i64 0, .int .i64 0, .int .i64 0, .int .i64 0, .int .i64 0, .int .i64 0, .int .i64 0, .int .i64 0, .int .i64 0, .int .i64 0, .int .i64 0, .int .i64 0, .int .i64 0, .int .i64 0, .int .i64 0, .int .i64 0, .int .i64 0, .int .i64 0, .int .i64 0, .int .i64 0, .int .i64 0] 27 (0, 0))) := by rw [← hw6, Hid, alloc_heap _ _ _ (by omega), ho5.out _ (by omega)]; exact hz3.out
  have hb6 : Hid (Below w.heap.size w w6) := by rw [← hw6]; exact hb5.out.alloc (by omega) _
  clear hl5 ho5 hb5 hrow3 hz3
  have hp := FH.out.pages
  go_upto_region 6 with fail
  clear hw6 hs5
  have hk1 : w6.cell? ⟨w.heap.size, 1, none⟩ = some (.int .i64 c.cpus) := by rw [cell_of_row _ _ _ _ _ _ hc6.out]; rfl
  have hk2 : w6.cell? ⟨w.heap.size, 2, none⟩ = some (.int .i64 c.pages) := by rw [cell_of_row _ _ _ _ _ _ hc6.out]; rfl
  have hk3 : w6.cell? ⟨w.heap.size, 3, none⟩ = some (.int .i64 c.stripes) := by rw [cell_of_row _ _ _ _ _ _ hc6.out]; rfl
  have hk8 : w6.cell? ⟨w.heap.size, 8, none⟩ = some (.int .i64 c.cache) := by rw [cell_of_row _ _ _ _ _ _ hc6.out]; rfl
  have hk9 : w6.cell? ⟨w.heap.size, 9, none⟩ = some (.int .i64 c.bin) := by rw [cell_of_row _ _ _ _ _ _ hc6.out]; rfl
  have q1 : ∀ j, w6.cell? ⟨b + 1, j, none⟩ = (#[.int .i64 0, .int .i64 0, .int .i64 0, .int .i64 0, .int .i64 0, .int .i64 0, .int .i64 0, .int .i64 0, .int .i64 0, .int .i64 0, .int .i64 0, .int .i64 0] : Array Value)[j]? := fun j => cell_of_row _ _ _ _ _ _ hS6.out
  have q2 : ∀ i v, w6.setCell ⟨b + 1, i, none⟩ v = w6.setRow (b + 1) ((#[.int .i64 0, .int .i64 0, .int .i64 0, .int .i64 0, .int .i64 0, .int .i64 0, .int .i64 0, .int .i64 0, .int .i64 0, .int .i64 0, .int .i64 0, .int .i64 0] : Array Value).setIfInBounds i v) := fun i v => setCell_row hS6.out
  have q3 : ∀ j, w6.frozen? ⟨b + 1, j, none⟩ = false := fun j => row_frozen hS6.out j
  obtain ⟨w7, hw7⟩ : ∃ w7, (w6.setRow (b + 1) #[.int .i64 ((c.pages + 3) / 4), .int .i64 0, .int .i64 0, .int .i64 0, .int .i64 0, .int .i64 0, .int .i64 0, .int .i64 0, .int .i64 0, .int .i64 0, .int .i64 0, .int .i64 0]).alloc (.cells #[.int .i64 1, .int .i64 2, .int .i64 3, .int .i64 4, .int .i64 5] 3) = w7 := ⟨_, rfl⟩
  have hs7 : w7.heap.size = b + 3 := by rw [← hw7]; simp [setRow_size]; omega
  have hS7 : Hid (w7.heap[b + 1]? = some (.cells (row1 c 0) 25 (0, 0))) := by rw [← hw7, Hid, alloc_heap _ _ _ (by rw [setRow_size]; omega)]; exact setRow_same hS6.out
  have hA7 : Hid (w7.heap[b + 2]? = some (.cells #[.int .i64 1, .int .i64 2, .int .i64 3, .int .i64 4, .int .i64 5] 3 (0, 0))) := by
    rw [← hw7]
    have := new_row (w6.setRow (b + 1) #[.int .i64 ((c.pages + 3) / 4), .int .i64 0, .int .i64 0, .int .i64 0, .int .i64 0, .int .i64 0, .int .i64 0, .int .i64 0, .int .i64 0, .int .i64 0, .int .i64 0, .int .i64 0]) #[.int .i64 1, .int .i64 2, .int .i64 3, .int .i64 4, .int .i64 5] 3
    rwa [setRow_size, hs6] at this
  have ho7 : Hid (∀ k, k < b + 1 → w7.heap[k]? = w6.heap[k]?) := fun k hk => by rw [← hw7, alloc_heap _ _ _ (by rw [setRow_size]; omega), setRow_other _ _ _ _ (by omega)]
  have hl7 : Hid (w7.heap[b]? = some (.cells (lay c (part c 0)) 27 (0, 0))) := by rw [Hid, ho7.out _ (by omega)]; exact hl6.out
  have hc7 : Hid (w7.heap[w.heap.size]? = some (.cells (cfg c) 23 (0, 0))) := by rw [Hid, ho7.out _ (by omega)]; exact hc6.out
  have hz7 : Hid (w7.heap[w.heap.size + 1]? = some (.cells #[.int .i64 0, .int .i64 0, .int .i64 0, .int .i64 0, .int .i64 0, .int .i64 0, .int .i64 0, .int .i64 0, .int .i64 0, .int .i64 0, .int .i64 0, .int .i64 0, .int .i64 0, .int .i64 0, .int .i64 0, .int .i64 0, .int .i64 0, .int .i64 0, .int .i64 0, .int .i64 0, .int .i64 0, .int .i64 0, .int .i64 0] 27 (0, 0))) := by rw [Hid, ho7.out _ (by omega)]; exact hz6.out
  have hb7 : Hid (Below w.heap.size w w7) := by rw [← hw7]; exact (setRow_below hb6.out (by omega) _).alloc (by rw [setRow_size]; omega) _
  go_wp2_with (go_at_call 47; refine (chunks_fn c.pages _ (by omega)).mono ?_; rintro e w6 ⟨rfl, rfl⟩)
  clear hw7 q1 q2 q3 hk1 hk2 hk3 hk8 hk9 ho7 hl6 hc6 hz6 hb6 hS6 hs6
  have hk1 : ∀ cs, (w7.setRow (b + 1) cs).cell? ⟨w.heap.size, 1, none⟩ = some (.int .i64 c.cpus) := fun cs => by rw [setRow_cell_other _ _ _ _ _ (by omega), cell_of_row _ _ _ _ _ _ hc7.out]; rfl
  have hk2 : ∀ cs, (w7.setRow (b + 1) cs).cell? ⟨w.heap.size, 2, none⟩ = some (.int .i64 c.pages) := fun cs => by rw [setRow_cell_other _ _ _ _ _ (by omega), cell_of_row _ _ _ _ _ _ hc7.out]; rfl
  have hk3 : ∀ cs, (w7.setRow (b + 1) cs).cell? ⟨w.heap.size, 3, none⟩ = some (.int .i64 c.stripes) := fun cs => by rw [setRow_cell_other _ _ _ _ _ (by omega), cell_of_row _ _ _ _ _ _ hc7.out]; rfl
  have hk8 : ∀ cs, (w7.setRow (b + 1) cs).cell? ⟨w.heap.size, 8, none⟩ = some (.int .i64 c.cache) := fun cs => by rw [setRow_cell_other _ _ _ _ _ (by omega), cell_of_row _ _ _ _ _ _ hc7.out]; rfl
  have hk9 : ∀ cs, (w7.setRow (b + 1) cs).cell? ⟨w.heap.size, 9, none⟩ = some (.int .i64 c.bin) := fun cs => by rw [setRow_cell_other _ _ _ _ _ (by omega), cell_of_row _ _ _ _ _ _ hc7.out]; rfl
  have r1 : ∀ cs j, (w7.setRow (b + 1) cs).cell? ⟨b + 1, j, none⟩ = cs[j]? := fun cs j => setRow_cell hS7.out cs j
  have r2 : ∀ cs i v, (w7.setRow (b + 1) cs).setCell ⟨b + 1, i, none⟩ v = w7.setRow (b + 1) (cs.setIfInBounds i v) := fun cs i v => setRow_setCell hS7.out cs i v
  have r3 : ∀ cs j, (w7.setRow (b + 1) cs).frozen? ⟨b + 1, j, none⟩ = false := fun cs j => row_frozen (setRow_same hS7.out) j
  have hA : Hid (∀ cs k, k < 5 → (w7.setRow (b + 1) cs).cell? ⟨b + 2, k, none⟩ = some (.int .i64 (k + 1))) := by
    intro cs k hk
    rw [setRow_cell_other _ _ _ _ _ (by omega), cell_of_row _ _ _ _ _ _ hA7.out]
    match k, hk with
    | 0, _ | 1, _ | 2, _ | 3, _ | 4, _ => rfl
  go_loopw [25] (fun u25 wr => ∃ k : Nat, k ≤ 5 ∧ u25 = .int .i64 k ∧ wr = w7.setRow (b + 1) (row1 c k)) (fun u25 _ => 5 - (intOf u25).toNat)
  case atStart => exact ⟨0, by omega, rfl, (setRow_is hS7.out).symm⟩
  case round =>
    obtain ⟨k, hk, rfl, rfl⟩ := hrel
    by_cases hlt : k < 5
    · have g1 := row1_at c k hlt
      have g2 := row1_next c k hlt
      have g3 := hA.out (row1 c k) k hlt
      go_wp2
      go_roundw
      case rel => exact ⟨k + 1, by omega, by go_num, rfl⟩
      case measure => simp [intOf]; omega
    · obtain rfl : k = 5 := by omega
      have g5 : row1 c 5 = #[.int .i64 ((c.pages + 3) / 4), .int .i64 c.pages, .int .i64 c.pages, .int .i64 c.pages, .int .i64 c.pages, .int .i64 c.pages, .int .i64 0, .int .i64 0, .int .i64 0, .int .i64 0, .int .i64 0, .int .i64 0] := rfl
      have p1 := FH.out.cpus; have p3 := FH.out.stripes; have p8 := FH.out.cache; have p9 := FH.out.bin; have pc := cch_in' FH.out
      obtain ⟨w8, hw8⟩ : ∃ w8, w7.setRow (b + 1) #[.int .i64 ((c.pages + 3) / 4), .int .i64 c.pages, .int .i64 c.pages, .int .i64 c.pages, .int .i64 c.pages, .int .i64 c.pages, .int .i64 62, .int .i64 (c.cpus * 5 * (c.cache + 1)), .int .i64 (5 * (c.bin + 1)), .int .i64 (c.pages * 32), .int .i64 (c.pages * 32), .int .i64 0] = w8 := ⟨_, rfl⟩
      have hS8 : Hid (w8.heap[b + 1]? = some (.cells (row2 c) 25 (0, 0))) := by rw [← hw8]; exact setRow_same hS7.out
      have hl8 : Hid (w8.heap[b]? = some (.cells (lay c (part c 0)) 27 (0, 0))) := by rw [← hw8, Hid, setRow_other _ _ _ _ (by omega)]; exact hl7.out
      have hz8 : Hid (w8.heap[w.heap.size + 1]? = some (.cells #[.int .i64 0, .int .i64 0, .int .i64 0, .int .i64 0, .int .i64 0, .int .i64 0, .int .i64 0, .int .i64 0, .int .i64 0, .int .i64 0, .int .i64 0, .int .i64 0, .int .i64 0, .int .i64 0, .int .i64 0, .int .i64 0, .int .i64 0, .int .i64 0, .int .i64 0, .int .i64 0, .int .i64 0, .int .i64 0, .int .i64 0] 27 (0, 0))) := by rw [← hw8, Hid, setRow_other _ _ _ _ (by omega)]; exact hz7.out
      have hb8 : Hid (Below w.heap.size w w8) := by rw [← hw8]; exact setRow_below hb7.out (by omega) _
      have hq3 : w8.cell? ⟨w.heap.size, 3, none⟩ = some (.int .i64 c.stripes) := by rw [← hw8]; exact hk3 _
      go_wp2
      clear hw8 hq3 r1 r2 r3 hA hk1 hk2 hk3 hk8 hk9 g5
      have r1 : ∀ cs j, (w8.setRow b cs).cell? ⟨b, j, none⟩ = cs[j]? := fun cs j => setRow_cell hl8.out cs j
      have r2 : ∀ cs i v, (w8.setRow b cs).setCell ⟨b, i, none⟩ v = w8.setRow b (cs.setIfInBounds i v) := fun cs i v => setRow_setCell hl8.out cs i v
      have r3 : ∀ cs j, (w8.setRow b cs).frozen? ⟨b, j, none⟩ = false := fun cs j => row_frozen (setRow_same hl8.out) j
      have r4 : ∀ cs j, (w8.setRow b cs).cell? ⟨b + 1, j, none⟩ = (row2 c)[j]? := fun cs j => by rw [setRow_cell_other _ _ _ _ _ (by omega), cell_of_row _ _ _ _ _ _ hS8.out]
      go_loopw [9, 59] (fun u9 u59 wr => ∃ p : Nat, p ≤ 11 ∧ u59 = .int .i64 p ∧ u9 = .int .i64 (start c p) ∧ wr = w8.setRow b (lay c (part c p))) (fun _ u59 _ => 11 - (intOf u59).toNat)
      case atStart => exact ⟨0, by omega, rfl, rfl, (setRow_is hl8.out).symm⟩
      case round =>
        obtain ⟨p, hp11, rfl, rfl, rfl⟩ := hrel
        have b1 := start_in FH.out p
        have b2 := place_in FH.out p
        have b3 := size_in FH.out p
        by_cases hlt : p < 11
        · have g1 := part_at c p hlt
          have g2 := part_next c p hlt
          have g3 := row2_at c p hlt
          by_cases h10 : p = 10
          · have hpl : place c p = (start c p + 127) / 128 * 128 := by unfold place up; rw [if_pos h10]
            have hst : start c (p + 1) = place c p + size c p := rfl
            obtain ⟨x, hx⟩ : ∃ x, start c p = x := ⟨_, rfl⟩
            rw [hx] at b1 hpl ⊢
            clear hx
            subst h10
            go_wp2
            go_roundw
            case rel =>
              have e : (x + 128 - 1) / 128 * 128 = place c 10 := by rw [hpl]; omega
              refine ⟨11, by omega, rfl, ?_, ?_⟩
              · rw [e]; exact congrArg _ hst.symm
              · rw [e]; exact congrArg _ g2
            case measure => simp [intOf]
          · have hpl : place c p = start c p := by unfold place up; rw [if_neg h10]
            have hst : start c (p + 1) = start c p + size c p := by rw [← hpl]; rfl
            rw [hpl] at g2
            have h10' : ((p : Int) == 10) = false := by simp; omega
            go_wp2
            go_roundw
            case rel => exact ⟨p + 1, by omega, by go_num, by rw [hst], rfl⟩
            case measure => simp [intOf]; omega
        · obtain rfl : p = 11 := by omega
          have g1 : (lay c (part c 11))[22]? = some (.int .i64 0) := rfl
          have g2 := part_end c
          have hl9 : Hid ((w8.setRow b (lay c (places c))).heap[b]? = some (.cells (lay c (places c)) 27 (0, 0))) := setRow_same hl8.out
          have hz9 : Hid ((w8.setRow b (lay c (places c))).heap[w.heap.size + 1]? = some (.cells #[.int .i64 0, .int .i64 0, .int .i64 0, .int .i64 0, .int .i64 0, .int .i64 0, .int .i64 0, .int .i64 0, .int .i64 0, .int .i64 0, .int .i64 0, .int .i64 0, .int .i64 0, .int .i64 0, .int .i64 0, .int .i64 0, .int .i64 0, .int .i64 0, .int .i64 0, .int .i64 0, .int .i64 0, .int .i64 0, .int .i64 0] 27 (0, 0))) := by rw [Hid, setRow_other _ _ _ _ (by omega)]; exact hz8.out
          have hb9 : Hid (Below w.heap.size w (w8.setRow b (lay c (places c)))) := setRow_below hb8.out (by omega) _
          have hr9 : Hid (((w8.setRow b (lay c (places c))).setRow (w.heap.size + 1) (lay c (places c))).heap[w.heap.size + 1]? = some (.cells (lay c (places c)) 27 (0, 0))) := setRow_same hz9.out
          go_wp2_with (first
            | (refine wpList_load_row rfl 27 _ rfl b rfl 27 (lay c (places c)) (0, 0) _ hl9.out Try.underlying27 rfl (lay_size c _) ?_)
            | (refine wpList_store_row rfl 27 _ _ rfl (w.heap.size + 1) (lay c (places c)) rfl rfl 27 #[.int .i64 0, .int .i64 0, .int .i64 0, .int .i64 0, .int .i64 0, .int .i64 0, .int .i64 0, .int .i64 0, .int .i64 0, .int .i64 0, .int .i64 0, .int .i64 0, .int .i64 0, .int .i64 0, .int .i64 0, .int .i64 0, .int .i64 0, .int .i64 0, .int .i64 0, .int .i64 0, .int .i64 0, .int .i64 0, .int .i64 0] hz9.out (lay_size _ _) rfl (lay_one _ _) ?_))
          exact bodyPost_ret (results_row_tmp rfl _ _ (w.heap.size + 1) 27 (lay c (places c)) (0, 0) _ rfl hr9.out Try.underlying27 rfl (lay_size _ _)) rfl ⟨rfl, setRow_below hb9.out (by omega) _⟩

end Of
end Go.Proofs.Ytnpieopflgkjdaa
