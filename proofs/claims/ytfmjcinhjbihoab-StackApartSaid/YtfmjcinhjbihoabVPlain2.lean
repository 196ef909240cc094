import Derived.Test.YtfmjcinhjbihoabVPlain
/- what is written: plain Lean -/
namespace Go.Proofs.Ytfmjcinhjbihoab
open SorPlain IMap_ VIn VPlain
namespace VPlain

theorem put_cons (a x : Int) (q : Int × Int) (r : M) : put a x (q :: r) = if q.1 < a then q :: put a x r else if q.1 = a then (a, x) :: r else (a, x) :: q :: r := by
  by_cases h1 : q.1 < a
  · have hp : place a (q :: r) = place a r + 1 := by simp [place, keys, lower, h1]
    have hh : has a (q :: r) = has a r := by simp [has, keys, lower, h1]
    rw [if_pos h1]
    unfold put
    rw [hp, hh, show place a r + 1 + (if has a r = true then 1 else 0) = (place a r + (if has a r = true then 1 else 0)) + 1 by omega]
    simp
  · have hp : place a (q :: r) = 0 := by simp [place, keys, lower, h1]
    rw [if_neg h1]
    by_cases h2 : q.1 = a
    · have hh : has a (q :: r) = true := by simp [has, keys, lower, h1, h2]
      rw [if_pos h2]
      unfold put
      rw [hp, hh]; simp
    · have hh : has a (q :: r) = false := by simp [has, keys, lower, h1, h2]
      rw [if_neg h2]
      unfold put
      rw [hp, hh]; simp
/-- the first pair of an address -/
def first (l : M) (a : Int) : Option Int := (l.find? (fun p => p.1 == a)).map (·.2)
theorem first_rising {m : M} (hs : Rising m) (a : Int) : first m a = if has a m then some (getD a 0 m) else none := by
  induction m with
  | nil => simp [first, has, keys, lower]
  | cons q r ih =>
    have hs' : Rising r := by unfold Rising keys at *; simp at hs; exact hs.2
    have hlt : ∀ p ∈ r, q.1 < p.1 := fun p hp => by
      unfold Rising keys at hs
      rw [List.map_cons, List.pairwise_cons] at hs
      exact hs.1 _ (List.mem_map_of_mem hp)
    by_cases h1 : q.1 < a
    · have hp : place a (q :: r) = place a r + 1 := by simp [place, keys, lower, h1]
      have hh : has a (q :: r) = has a r := by simp [has, keys, lower, h1]
      have hne : ¬ q.1 = a := by omega
      have e : first (q :: r) a = first r a := by simp [first, hne]
      rw [e, ih hs', hh]
      unfold getD
      rw [hh, hp]
      simp
    · by_cases h2 : q.1 = a
      · have hp : place a (q :: r) = 0 := by simp [place, keys, lower, h1]
        have hh : has a (q :: r) = true := by simp [has, keys, lower, h1, h2]
        rw [hh]
        unfold getD
        rw [hh, hp]
        simp [first, h2]
      · have hh : has a (q :: r) = false := by simp [has, keys, lower, h1, h2]
        rw [hh]
        have : r.find? (fun p => p.1 == a) = none := by
          rw [List.find?_eq_none]
          intro p hp
          have := hlt p hp
          simp; omega
        simp [first, h2, this]
theorem mem_put (a x : Int) (p : Int × Int) : ∀ {m : M}, Rising m → (p ∈ put a x m ↔ p = (a, x) ∨ (p ∈ m ∧ p.1 ≠ a))
  | [], _ => by simp [put, place, has, keys, lower]
  | q :: r, hs => by
    have hs' : Rising r := by unfold Rising keys at *; simp at hs; exact hs.2
    have hlt : ∀ p ∈ r, q.1 < p.1 := fun p hp => by
      unfold Rising keys at hs
      rw [List.map_cons, List.pairwise_cons] at hs
      exact hs.1 _ (List.mem_map_of_mem hp)
    rw [put_cons]
    by_cases h1 : q.1 < a
    · rw [if_pos h1, List.mem_cons, mem_put a x p hs', List.mem_cons]
      constructor
      · rintro (rfl | rfl | ⟨h, h'⟩)
        · exact .inr ⟨.inl rfl, by omega⟩
        · exact .inl rfl
        · exact .inr ⟨.inr h, h'⟩
      · rintro (rfl | ⟨rfl | h, h'⟩)
        · exact .inr (.inl rfl)
        · exact .inl rfl
        · exact .inr (.inr ⟨h, h'⟩)
    · rw [if_neg h1]
      by_cases h2 : q.1 = a
      · rw [if_pos h2, List.mem_cons, List.mem_cons]
        constructor
        · rintro (rfl | h)
          · exact .inl rfl
          · exact .inr ⟨.inr h, by have := hlt p h; omega⟩
        · rintro (rfl | ⟨rfl | h, h'⟩)
          · exact .inl rfl
          · exact absurd h2 h'
          · exact .inr h
      · rw [if_neg h2, List.mem_cons]
        constructor
        · rintro (rfl | h)
          · exact .inl rfl
          · refine .inr ⟨h, ?_⟩
            rcases List.mem_cons.1 h with rfl | h
            · exact h2
            · have := hlt p h; omega
        · rintro (rfl | ⟨h, _⟩)
          · exact .inl rfl
          · exact .inr h
theorem wr_rising {m : M} (hs : Rising m) (a x : Int) : Rising (wr m a x) := by
  unfold wr
  split
  · exact hs
  · exact hs.put a x
theorem wr_pos {m : M} (h : Rising m ∧ ∀ p ∈ m, 0 ≤ p.1) (a x : Int) : Rising (wr m a x) ∧ ∀ p ∈ wr m a x, 0 ≤ p.1 := by
  refine ⟨wr_rising h.1 a x, fun p hp => ?_⟩
  unfold wr at hp
  split at hp
  · exact h.2 p hp
  · rcases (mem_put _ _ _ h.1).1 hp with rfl | ⟨hp, _⟩
    · show 0 ≤ a; omega
    · exact h.2 p hp

end VPlain
end Go.Proofs.Ytfmjcinhjbihoab
