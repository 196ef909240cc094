import Derived.Test.YtfmjcinhjbihoaaRef7
namespace Go.Proofs.Ytfmjcinhjbihoaa
open Go.RowKit Go.Bas SorPlain Go.Sor IMap_ VIn VPlain MapI
namespace View

/-- the document's put, from some place on -/
def rp (a x : Int) : M → Bool → M
  | [], d => if d then [] else [(a, x)]
  | q :: r, d => (if d = false ∧ a ≤ q.1 then [(a, x)] else []) ++ ((if q.1 = a then [] else [q]) ++ rp a x r (d || decide (a ≤ q.1)))
theorem rp_true (a x : Int) : ∀ l : M, (∀ q ∈ l, ¬ q.1 = a) → rp a x l true = l
  | [], _ => rfl
  | q :: r, h => by
    have h1 := h q (by simp)
    have h2 := rp_true a x r (fun p hp => h p (by simp [hp]))
    simp [rp, h1, h2]
theorem put_cons (a x : Int) (q : Int × Int) (r : M) : put a x (q :: r) = if q.1 < a then q :: put a x r else if q.1 = a then (a, x) :: r else (a, x) :: q :: r := by
  by_cases h1 : q.1 < a
  · have hp : place a (q :: r) = place a r + 1 := by simp [place, keys, lower, h1]
    have hh : has a (q :: r) = has a r := by simp [has, keys, lower, h1]
    rw [if_pos h1]
    unfold put
    rw [hp, hh, show place a r + 1 + (if has a r = true then 1 else 0) = (place a r + (if has a r = true then 1 else 0)) + 1 by omega]
    simp
  · have hp : place a (q :: r) = 0 := by simp [place, keys, lower, h1]
    rw [if_neg h1]
    by_cases h2 : q.1 = a
    · have hh : has a (q :: r) = true := by simp [has, keys, lower, h1, h2]
      rw [if_pos h2]
      unfold put
      rw [hp, hh]; simp
    · have hh : has a (q :: r) = false := by simp [has, keys, lower, h1, h2]
      rw [if_neg h2]
      unfold put
      rw [hp, hh]; simp
theorem rp_put (a x : Int) : ∀ {l : M}, Rising l → rp a x l false = put a x l
  | [], _ => by simp [rp, put, place, has, keys, lower]
  | q :: r, hs => by
    have hs' : Rising r := by unfold Rising keys at *; simp at hs; exact hs.2
    have hlt : ∀ p ∈ r, q.1 < p.1 := fun p hp => by
      unfold Rising keys at hs
      rw [List.map_cons, List.pairwise_cons] at hs
      exact hs.1 _ (List.mem_map_of_mem hp)
    rw [put_cons]
    by_cases h1 : q.1 < a
    · have h2 : ¬ a ≤ q.1 := by omega
      have h3 : ¬ q.1 = a := by omega
      simp [rp, h1, h2, h3, rp_put a x hs']
    · have h2 : a ≤ q.1 := by omega
      have ht : rp a x r true = r := rp_true a x r (fun p hp => by have := hlt p hp; omega)
      by_cases h3 : q.1 = a
      · simp [rp, h1, h2, h3, ht]
      · simp [rp, h1, h2, h3, ht]
theorem first_rising {m : M} (hs : Rising m) (a : Int) : first m a = if has a m then some (getD a 0 m) else none := by
  induction m with
  | nil => simp [first, has, keys, lower]
  | cons q r ih =>
    have hs' : Rising r := by unfold Rising keys at *; simp at hs; exact hs.2
    have hlt : ∀ p ∈ r, q.1 < p.1 := fun p hp => by
      unfold Rising keys at hs
      rw [List.map_cons, List.pairwise_cons] at hs
      exact hs.1 _ (List.mem_map_of_mem hp)
    by_cases h1 : q.1 < a
    · have hp : place a (q :: r) = place a r + 1 := by simp [place, keys, lower, h1]
      have hh : has a (q :: r) = has a r := by simp [has, keys, lower, h1]
      have hne : ¬ q.1 = a := by omega
      have e : first (q :: r) a = first r a := by simp [first, hne]
      rw [e, ih hs', hh]
      unfold getD
      rw [hh, hp]
      simp
    · by_cases h2 : q.1 = a
      · have hp : place a (q :: r) = 0 := by simp [place, keys, lower, h1]
        have hh : has a (q :: r) = true := by simp [has, keys, lower, h1, h2]
        rw [hh]
        unfold getD
        rw [hh, hp]
        simp [first, h2]
      · have hh : has a (q :: r) = false := by simp [has, keys, lower, h1, h2]
        rw [hh]
        have : r.find? (fun p => p.1 == a) = none := by
          rw [List.find?_eq_none]
          intro p hp
          have := hlt p hp
          simp; omega
        simp [first, h2, this]
/-- the document's words are the program's -/
theorem word_rd (kn : M) {m : M} (hs : Rising m) (a : Int) : word kn m a = rd (first kn) m a := by
  unfold word rd
  rw [first_rising hs]
  split
  · rfl
  · cases has a m <;> rfl
theorem wr_rising {m : M} (hs : Rising m) (a x : Int) : Rising (wr m a x) := by
  unfold wr
  split
  · exact hs
  · exact hs.put a x

theorem wpList_add {ops : Array Oper} {rest : List Oper} {o : Oper} {a : Act} {w : World} {Q : Exit → Act → World → Prop} (hgd : o.guard = none) (s x : Operand)
    (ho : o.op = .call { callee := .builtin .append, args := #[s, x], argTypes := #[22, 22] })
    (base : Nat) (out : M) (v : Value) (hs : a.eval s = v) (h : Told w base out v) (hn : out.length ≤ 10000) (hb : base ≤ w.heap.size) (b : Nat) (k y : Int) (hx : a.eval x = .slice (some ⟨b, 0, none⟩) 1 1)
    (hrow : w.heap[b]? = some (.cells #[.int .i64 k, .int .i64 y] 38 (0, 0)))
    (H : ∀ v' w', Told w' base (out ++ [(k, y)]) v' → w.grownBy w' v.ownBlock → wpList Try.prog ops Q rest (a.put o.dst v') w') : wpList Try.prog ops Q (o :: rest) a w := by
  obtain ⟨i0, hi0, hz0, hz1, hz2⟩ := info_parts infoPair
  obtain ⟨A, cap, rfl, hown⟩ := h
  refine wpList_append_any hgd s x 22 ho base 38 i0 (.agg #[.int .i64 0, .int .i64 0]) 2 16 Try.underlying22 hi0 hz0 hz1 hz2 rfl (by decide) _ out.length (flat (vals out)) hs hown (some ⟨b, 0, none⟩) 1 1 [.int .i64 k, .int .i64 y] hx rfl ?_ ?_ ?_ ?_ hb ?_
  · intro _
    refine ⟨_, rfl, fun j u hj => ?_⟩
    match j, hj with
    | 0, hj => simp at hj; subst hj; simp [Addr.add, cell_of_row _ _ _ _ _ _ hrow]
    | 1, hj => simp at hj; subst hj; simp [Addr.add, cell_of_row _ _ _ _ _ _ hrow]
    | j + 2, hj => simp at hj
  · simp [Value.oneCell']
  · unfold maxLen; omega
  · omega
  · intro v' w' hown' hg hb'
    obtain ⟨A1, c1, rfl⟩ := own_slice hown'
    refine H _ w' ⟨A1, c1, by simp, ?_⟩ hg
    rw [flat_snoc]
    simpa using hown'

end View
end Go.Proofs.Ytfmjcinhjbihoaa
