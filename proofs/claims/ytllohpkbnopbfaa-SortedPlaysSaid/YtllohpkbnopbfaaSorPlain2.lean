import Derived.Test.YtllohpkbnopbfaaSorPlain
/- plain facts on maps as lists with rising keys: what is looked up tells the list -/
namespace SorPlain
section
variable {α : Type}

def look (k : Int) (xs : List (Int × α)) : Option α := (xs.find? (fun p => p.1 == k)).map (·.2)

theorem look_nil (k : Int) : look k ([] : List (Int × α)) = none := rfl
theorem look_cons (k : Int) (p : Int × α) (xs : List (Int × α)) : look k (p :: xs) = if p.1 = k then some p.2 else look k xs := by
  unfold look
  rw [List.find?_cons]
  by_cases h : p.1 = k
  · simp [h]
  · have h' : (p.1 == k) = false := by simpa using h
    rw [h', if_neg h]
theorem look_none {k : Int} {xs : List (Int × α)} (h : ∀ p ∈ xs, p.1 ≠ k) : look k xs = none := by
  unfold look
  rw [List.find?_eq_none.2 (by intro p hp; simpa using h p hp)]
  rfl
theorem look_append (k : Int) (xs ys : List (Int × α)) : look k (xs ++ ys) = (look k xs).or (look k ys) := by
  induction xs with
  | nil => simp [look_nil]
  | cons p xs ih =>
    rw [List.cons_append, look_cons, look_cons, ih]
    split <;> simp
theorem look_mem {k : Int} {xs : List (Int × α)} {u : α} (h : look k xs = some u) : (k, u) ∈ xs := by
  induction xs with
  | nil => simp [look_nil] at h
  | cons p xs ih =>
    rw [look_cons] at h
    split at h
    · rename_i e
      injection h with h
      subst h e
      exact List.mem_cons_self
    · exact List.mem_cons_of_mem _ (ih h)

theorem Rising.tail {p : Int × α} {xs : List (Int × α)} (h : Rising (p :: xs)) : Rising xs := (List.pairwise_cons.1 h).2
theorem Rising.head {p : Int × α} {xs : List (Int × α)} (h : Rising (p :: xs)) : ∀ q ∈ xs, p.1 < q.1 := fun q hq => (List.pairwise_cons.1 h).1 q.1 (List.mem_map.2 ⟨q, hq, rfl⟩)

theorem look_of_mem {k : Int} {u : α} {xs : List (Int × α)} (hs : Rising xs) (h : (k, u) ∈ xs) : look k xs = some u := by
  induction xs with
  | nil => simp at h
  | cons p xs ih =>
    rw [look_cons]
    rcases List.mem_cons.1 h with rfl | h
    · simp
    · have := hs.head _ h
      rw [if_neg (by simp at this; omega)]
      exact ih hs.tail h

/-- the same answers: the same list -/
theorem rising_ext {xs ys : List (Int × α)} (hx : Rising xs) (hy : Rising ys) (h : ∀ k, look k xs = look k ys) : xs = ys := by
  induction xs generalizing ys with
  | nil =>
    cases ys with
    | nil => rfl
    | cons q ys => have := h q.1; rw [look_nil, look_cons, if_pos rfl] at this; cases this
  | cons p xs ih =>
    cases ys with
    | nil => have := h p.1; rw [look_nil, look_cons, if_pos rfl] at this; cases this
    | cons q ys =>
      have h1 := h p.1
      have h2 := h q.1
      rw [look_cons, look_cons, if_pos rfl] at h1
      rw [look_cons, look_cons, if_pos (rfl : q.1 = q.1)] at h2
      have he : p.1 = q.1 := by
        by_cases e : q.1 = p.1
        · exact e.symm
        · rw [if_neg e] at h1
          rw [if_neg (fun e' => e e'.symm)] at h2
          have m1 := hy.head _ (look_mem h1.symm)
          have m2 := hx.head _ (look_mem h2)
          simp at m1 m2
          omega
      rw [if_pos he.symm] at h1
      injection h1 with h1
      have hpq : p = q := Prod.ext he h1
      subst hpq
      congr 1
      refine ih hx.tail hy.tail fun k => ?_
      have h3 := h k
      rw [look_cons, look_cons] at h3
      by_cases e : p.1 = k
      · rw [look_none (fun r hr => by have := hx.head r hr; omega), look_none (fun r hr => by have := hy.head r hr; omega)]
      · rwa [if_neg e, if_neg e] at h3

theorem look_eq_none_iff {k : Int} {xs : List (Int × α)} : look k xs = none ↔ ∀ p ∈ xs, p.1 ≠ k := by
  constructor
  · intro h p hp e
    unfold look at h
    rw [Option.map_eq_none_iff, List.find?_eq_none] at h
    have := h p hp
    simp [e] at this
  · exact look_none

theorem has_iff {k : Int} {xs : List (Int × α)} (hs : Rising xs) : has k xs = (look k xs).isSome := by
  cases hh : has k xs with
  | true =>
    have hi := has_lt hh
    have h2 := (of_decide_eq_true hh).2
    have hm : (k, (xs[place k xs]'hi).2) ∈ xs := by
      have e : (xs[place k xs]'hi).1 = k := by
        have h3 : (keys xs).getD (place k xs) 0 = k := h2
        simpa [keys, hi] using h3
      have : xs[place k xs]'hi ∈ xs := List.getElem_mem hi
      rwa [show xs[place k xs]'hi = (k, (xs[place k xs]'hi).2) from Prod.ext e rfl] at this
    rw [look_of_mem hs hm]; rfl
  | false =>
    rw [look_none (fun p hp => not_has hs hh hp)]; rfl

theorem look_of_has {k : Int} {xs : List (Int × α)} (hs : Rising xs) (hh : has k xs = true) (d : α) : look k xs = some ((xs.map (·.2)).getD (place k xs) d) := by
  have hi := has_lt hh
  have h2 : (keys xs).getD (place k xs) 0 = k := (of_decide_eq_true hh).2
  have e : (xs[place k xs]'hi).1 = k := by simpa [keys, hi] using h2
  have hm : xs[place k xs]'hi ∈ xs := List.getElem_mem hi
  rw [show xs[place k xs]'hi = (k, (xs[place k xs]'hi).2) from Prod.ext e rfl] at hm
  rw [look_of_mem hs hm]
  simp [hi]

theorem getD_look {k : Int} {xs : List (Int × α)} (hs : Rising xs) (d : α) : getD k d xs = (look k xs).getD d := by
  unfold getD
  by_cases hh : has k xs = true
  · rw [if_pos hh, look_of_has hs hh d]; rfl
  · have hf : has k xs = false := by simpa using hh
    rw [if_neg hh, look_none (fun p hp => not_has hs hf hp)]; rfl

theorem look_put {xs : List (Int × α)} (hs : Rising xs) (k : Int) (u : α) (j : Int) : look j (put k u xs) = if j = k then some u else look j xs := by
  have hput := hs.put k u
  by_cases e : j = k
  · subst e
    rw [if_pos rfl]
    exact look_of_mem hput (by unfold put; simp)
  · rw [if_neg e]
    have key : ∀ v, (j, v) ∈ put k u xs ↔ (j, v) ∈ xs := by
      intro v
      unfold put
      rw [List.mem_append, List.mem_cons]
      constructor
      · rintro (h | h | h)
        · exact List.mem_of_mem_take h
        · injection h with h1 h2; exact absurd h1 e
        · exact List.mem_of_mem_drop h
      · intro h
        have h' := h
        rw [← List.take_append_drop (place k xs) xs] at h'
        rcases List.mem_append.1 h' with h' | h'
        · exact .inl h'
        · by_cases hh : has k xs = true
          · rw [if_pos hh]
            have hi := has_lt hh
            rw [List.drop_eq_getElem_cons hi] at h'
            rcases List.mem_cons.1 h' with h' | h'
            · exfalso
              have h2 : (keys xs).getD (place k xs) 0 = k := (of_decide_eq_true hh).2
              have e2 : (xs[place k xs]'hi).1 = k := by simpa [keys, hi] using h2
              rw [← h'] at e2
              exact e e2
            · exact .inr (.inr h')
          · rw [if_neg hh]
            exact .inr (.inr h')
    cases h1 : look j xs with
    | some v => exact look_of_mem hput ((key v).2 (look_mem h1))
    | none =>
      refine look_none fun p hp e2 => ?_
      have : (j, p.2) ∈ put k u xs := by rw [← e2]; exact hp
      exact (look_eq_none_iff.1 h1) _ ((key p.2).1 this) rfl

theorem look_cut {xs : List (Int × α)} (hs : Rising xs) (k : Int) (j : Int) : look j (cut k xs) = if j = k then none else look j xs := by
  unfold cut
  by_cases hh : has k xs = true
  · rw [if_pos hh]
    have hi := has_lt hh
    have h2 : (keys xs).getD (place k xs) 0 = k := (of_decide_eq_true hh).2
    have e2 : (xs[place k xs]'hi).1 = k := by simpa [keys, hi] using h2
    have hr : Rising (xs.eraseIdx (place k xs)) := by have := hs.cut k; unfold cut at this; rwa [if_pos hh] at this
    have hx : xs = xs.take (place k xs) ++ xs[place k xs] :: xs.drop (place k xs + 1) := by
      rw [← List.drop_eq_getElem_cons hi, List.take_append_drop]
    have hm : ∀ p, p ∈ xs.eraseIdx (place k xs) ↔ p ∈ xs.take (place k xs) ∨ p ∈ xs.drop (place k xs + 1) := by
      intro p; rw [List.eraseIdx_eq_take_drop_succ, List.mem_append]
    by_cases e : j = k
    · subst e
      rw [if_pos rfl]
      refine look_none fun p hp e3 => ?_
      rcases (hm p).1 hp with h | h
      · have := mem_take_lt h; omega
      · have := mem_drop_gt (k := j) hs (by rw [if_pos hh]; exact h); omega
    · rw [if_neg e]
      cases h1 : look j xs with
      | some v =>
        refine look_of_mem hr ((hm _).2 ?_)
        have h3 := look_mem h1
        rw [hx] at h3
        rcases List.mem_append.1 h3 with h3 | h3
        · exact .inl h3
        · rcases List.mem_cons.1 h3 with h3 | h3
          · rw [← h3] at e2; exact absurd e2 e
          · exact .inr h3
      | none =>
        refine look_none fun p hp e3 => ?_
        have hpx : p ∈ xs := by
          rcases (hm p).1 hp with h | h
          · exact List.mem_of_mem_take h
          · exact List.mem_of_mem_drop h
        exact (look_eq_none_iff.1 h1) p hpx e3
  · have hf : has k xs = false := by simpa using hh
    rw [if_neg hh]
    by_cases e : j = k
    · subst e; rw [if_pos rfl, look_none (fun p hp => not_has hs hf hp)]
    · rw [if_neg e]

theorem put_length_le (k : Int) (u : α) (xs : List (Int × α)) : (put k u xs).length ≤ xs.length + 1 := by
  rw [put_length]; split <;> omega
theorem cut_length_le (k : Int) (xs : List (Int × α)) : (cut k xs).length ≤ xs.length := by
  unfold cut; split
  · exact List.length_eraseIdx_le _ _
  · exact Nat.le_refl _
theorem rising_nil : Rising ([] : List (Int × α)) := List.Pairwise.nil
end

/-! what is put in any order stands in one -/
section
variable {α β : Type} (key : β → Int) (val : β → α)
def putAll (l : List β) (xs : List (Int × α)) : List (Int × α) := l.foldl (fun m a => put (key a) (val a) m) xs
def addAll (l : List β) (xs : List (Int × α)) : List (Int × α) := l.foldl (fun m a => if has (key a) m then m else put (key a) (val a) m) xs

theorem putAll_snoc (l : List β) (a : β) (xs : List (Int × α)) : putAll key val (l ++ [a]) xs = put (key a) (val a) (putAll key val l xs) := by simp [putAll]
theorem addAll_snoc (l : List β) (a : β) (xs : List (Int × α)) : addAll key val (l ++ [a]) xs = if has (key a) (addAll key val l xs) then addAll key val l xs else put (key a) (val a) (addAll key val l xs) := by unfold addAll; rw [List.foldl_append]; rfl
theorem putAll_rising {xs : List (Int × α)} (hs : Rising xs) (l : List β) : Rising (putAll key val l xs) := by
  induction l generalizing xs with
  | nil => exact hs
  | cons a l ih => exact ih (hs.put _ _)
theorem addAll_rising {xs : List (Int × α)} (hs : Rising xs) (l : List β) : Rising (addAll key val l xs) := by
  induction l generalizing xs with
  | nil => exact hs
  | cons a l ih =>
    refine ih (xs := if has (key a) xs then xs else put (key a) (val a) xs) ?_
    split
    · exact hs
    · exact hs.put _ _
theorem putAll_length (l : List β) (xs : List (Int × α)) : (putAll key val l xs).length ≤ xs.length + l.length := by
  induction l generalizing xs with
  | nil => exact Nat.le_refl _
  | cons a l ih =>
    have h1 := ih (put (key a) (val a) xs)
    have h2 := put_length_le (key a) (val a) xs
    simp only [List.length_cons]
    have : putAll key val (a :: l) xs = putAll key val l (put (key a) (val a) xs) := rfl
    rw [this]; omega
theorem addAll_length (l : List β) (xs : List (Int × α)) : (addAll key val l xs).length ≤ xs.length + l.length := by
  induction l generalizing xs with
  | nil => exact Nat.le_refl _
  | cons a l ih =>
    have h1 := ih (if has (key a) xs then xs else put (key a) (val a) xs)
    have h2 := put_length_le (key a) (val a) xs
    have h3 : (if has (key a) xs then xs else put (key a) (val a) xs).length ≤ xs.length + 1 := by split <;> omega
    simp only [List.length_cons]
    have : addAll key val (a :: l) xs = addAll key val l (if has (key a) xs then xs else put (key a) (val a) xs) := rfl
    rw [this]; omega

theorem look_putAll (l : List β) {xs : List (Int × α)} (hs : Rising xs) (k : Int) : look k (putAll key val l xs) = ((l.reverse.find? (fun a => key a == k)).map val).or (look k xs) := by
  induction l generalizing xs with
  | nil => simp [putAll]
  | cons a l ih =>
    have : putAll key val (a :: l) xs = putAll key val l (put (key a) (val a) xs) := rfl
    rw [this, ih (hs.put _ _), look_put hs, List.reverse_cons, List.find?_append]
    cases h : l.reverse.find? (fun a => key a == k) with
    | some x => simp
    | none =>
      by_cases e : k = key a
      · subst e; simp
      · have e' : (key a == k) = false := by simpa using fun h => e h.symm
        simp [e, e']
theorem look_addAll (l : List β) {xs : List (Int × α)} (hs : Rising xs) (k : Int) : look k (addAll key val l xs) = (look k xs).or ((l.find? (fun a => key a == k)).map val) := by
  induction l generalizing xs with
  | nil => simp [addAll]
  | cons a l ih =>
    have : addAll key val (a :: l) xs = addAll key val l (if has (key a) xs then xs else put (key a) (val a) xs) := rfl
    rw [this, List.find?_cons]
    by_cases hh : has (key a) xs = true
    · rw [if_pos hh, ih hs]
      by_cases e : key a = k
      · subst e
        rw [has_iff hs] at hh
        obtain ⟨u, hu⟩ := Option.isSome_iff_exists.1 hh
        simp [hu]
      · have e' : (key a == k) = false := by simpa using e
        simp [e']
    · rw [if_neg hh, ih (hs.put _ _), look_put hs]
      by_cases e : key a = k
      · subst e
        have hf : has (key a) xs = false := by simpa using hh
        rw [look_none (fun p hp => not_has hs hf hp)]
        simp
      · have e' : (key a == k) = false := by simpa using e
        rw [if_neg (fun h => e h.symm)]
        simp [e']
theorem mem_put {k : Int} {u : α} {xs : List (Int × α)} {p : Int × α} (h : p ∈ put k u xs) : p = (k, u) ∨ p ∈ xs := by
  unfold put at h
  rcases List.mem_append.1 h with h | h
  · exact .inr (List.mem_of_mem_take h)
  · rcases List.mem_cons.1 h with h | h
    · exact .inl h
    · exact .inr (List.mem_of_mem_drop h)
theorem mem_putAll (l : List β) {xs : List (Int × α)} {p : Int × α} (h : p ∈ putAll key val l xs) : p ∈ xs ∨ ∃ a ∈ l, p = (key a, val a) := by
  induction l generalizing xs with
  | nil => exact .inl h
  | cons a l ih =>
    rcases ih (xs := put (key a) (val a) xs) h with h | ⟨b, hb, rfl⟩
    · rcases mem_put h with rfl | h
      · exact .inr ⟨a, List.mem_cons_self, rfl⟩
      · exact .inl h
    · exact .inr ⟨b, List.mem_cons_of_mem _ hb, rfl⟩
/-- turned round, the last thing of each key standing, it is the same map -/
theorem put_add (l : List β) : putAll key val l [] = addAll key val l.reverse [] := by
  refine rising_ext (putAll_rising key val rising_nil l) (addAll_rising key val rising_nil _) fun k => ?_
  rw [look_putAll key val l rising_nil, look_addAll key val l.reverse rising_nil, look_nil]
  simp
end
end SorPlain
