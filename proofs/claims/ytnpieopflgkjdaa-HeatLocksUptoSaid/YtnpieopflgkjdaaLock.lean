import Derived.Test.YtnpieopflgkjdaaOf
namespace Go.Proofs.Ytnpieopflgkjdaa
open Go.RowKit Go.Bas
open Lay RefLay Of
namespace Lock

/-- the lock of a word -/
def lockOf (c : Cfg) (a : Int) : Int := if a < 0 ∨ words c ≤ a then 0 else 3 + a % c.stripes
theorem lock_in {c : Cfg} (F : Fine c) (a : Int) : 0 ≤ lockOf c a ∧ lockOf c a < 3 + c.stripes := by
  have h := F.stripes
  unfold lockOf
  split
  · omega
  · have h1 := Int.emod_nonneg a (b := c.stripes) (by omega)
    have h2 := Int.emod_lt_of_pos a (b := c.stripes) (by omega)
    omega

set_option maxRecDepth 100000 in
set_option maxHeartbeats 1000000 in
theorem lock_of (c : Cfg) (a : Int) (w : World) (F : Fine c) :
    Calls Try.prog 83 #[.agg (lay c (places c)), .int .i64 a] w fun e w' => e = .returned (.int .i64 (lockOf c a)) ∧ Below w.heap.size w w' := by
  obtain ⟨W, hW⟩ : ∃ W, words c = W := ⟨_, rfl⟩
  have hin := words_in F
  have hst := F.stripes
  have hpl : (places c).a11 = W := by rw [places_words]; exact hW
  rw [hW] at hin
  have hd : lockOf c a = if a < 0 ∨ W ≤ a then 0 else 3 + a % c.stripes := by unfold lockOf; rw [hW]
  obtain ⟨p, hp⟩ : ∃ p, places c = p := ⟨_, rfl⟩
  rw [hp] at hpl ⊢
  rw [hd]
  clear hp hd hW F
  obtain ⟨g, hg⟩ : ∃ g, w.heap.size = g := ⟨_, rfl⟩
  obtain ⟨w1, hw1⟩ : ∃ w1, w.alloc (.cells (lay c p) 27) = w1 := ⟨_, rfl⟩
  have hs1 : w1.heap.size = g + 1 := by rw [← hw1, ← hg]; simp
  have R1 : Hid (w1.heap[g]? = some (.cells (lay c p) 27 (0, 0))) := by rw [← hw1, ← hg]; exact new_row _ _ _
  have B1 : Hid (Below g w w1) := by rw [← hw1, ← hg]; exact (Below.refl _ _).alloc (Nat.le_refl _) _
  rw [hg]
  go_enter Try.func83, Try.ntmps83
  by_cases h0 : a < 0
  · go_upto_region 1 with fail
    clear hw1
    go_wp2
    go_ret
    exact ⟨rfl, B1.out⟩
  · go_upto_region 1 with fail
    clear hw1
    by_cases h2 : W ≤ a
    · go_wp2_with (first
        | (refine wpList_load_row_if rfl 27 _ rfl g rfl 27 (lay c p) (0, 0) _ R1.out Try.underlying27 rfl (lay_size _ _) ?_)
        | (go_at_call 81; refine (words_any c p _).mono ?_; rintro e w2 ⟨rfl, hb2⟩; rw [hpl]))
      go_ret
      exact ⟨rfl, B1.out.trans (hb2.mono (by omega))⟩
    · have hm : a.tmod c.stripes = a % c.stripes := Int.tmod_eq_emod_of_nonneg (by omega)
      have e1 := Int.emod_nonneg a (b := c.stripes) (by omega)
      have e2 := Int.emod_lt_of_pos a (b := c.stripes) (by omega)
      go_wp2_with (first
        | (refine wpList_load_row_if rfl 27 _ rfl g rfl 27 (lay c p) (0, 0) _ R1.out Try.underlying27 rfl (lay_size _ _) ?_)
        | (go_at_call 81; refine (words_any c p _).mono ?_; rintro e w2 ⟨rfl, hb2⟩; rw [hpl]
           have k3 : w2.cell? ⟨g, 3, none⟩ = some (.int .i64 c.stripes) := by rw [hb2.cell (by show g < w1.heap.size; omega), cell_of_row _ _ _ _ _ _ R1.out]; rfl))
      go_ret
      exact ⟨rfl, B1.out.trans (hb2.mono (by omega))⟩

end Lock
end Go.Proofs.Ytnpieopflgkjdaa
