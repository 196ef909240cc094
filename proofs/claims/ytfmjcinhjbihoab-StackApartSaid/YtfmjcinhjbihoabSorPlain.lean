/- plain facts on sorted lists of keys: no program in sight -/
namespace SorPlain

/-- how many keys are less -/
def lower (k : Int) : List Int → Nat
  | [] => 0
  | x :: l => if x < k then lower k l + 1 else 0

theorem lower_le (k : Int) (l : List Int) : lower k l ≤ l.length := by
  induction l with
  | nil => simp [lower]
  | cons x l ih => simp only [lower]; split <;> simp <;> omega

theorem lt_of_lt_lower {k : Int} : ∀ {l : List Int} {i : Nat} (_ : i < lower k l), l.getD i 0 < k := by
  intro l
  induction l with
  | nil => intro i h; simp [lower] at h
  | cons x l ih =>
    intro i h
    simp only [lower] at h
    split at h
    · cases i with
      | zero => simpa
      | succ i => simpa using ih (i := i) (by omega)
    · omega

theorem ge_of_lower {k : Int} : ∀ {l : List Int} (_ : l.Pairwise (· < ·)) {i : Nat} (_ : lower k l ≤ i) (_ : i < l.length), k ≤ l.getD i 0 := by
  intro l
  induction l with
  | nil => intro _ i _ hi; simp at hi
  | cons x l ih =>
    intro hs i h hi
    simp only [lower] at h
    rw [List.pairwise_cons] at hs
    split at h
    · rename_i hx
      cases i with
      | zero => omega
      | succ i => simpa using ih hs.2 (i := i) (by omega) (by simpa using hi)
    · rename_i hx
      cases i with
      | zero => simpa using hx
      | succ i =>
        have hi' : i < l.length := by simpa using hi
        have := hs.1 (l[i]) (List.getElem_mem _)
        simp [hi'] at *
        omega

/-- the place is told by what lies left and right of it -/
theorem lower_unique {k : Int} {l : List Int} (hs : l.Pairwise (· < ·)) {n : Nat} (hn : n ≤ l.length) (h1 : ∀ i, i < n → l.getD i 0 < k) (h2 : n < l.length → k ≤ l.getD n 0) : n = lower k l := by
  rcases Nat.lt_trichotomy n (lower k l) with h | h | h
  · have := lt_of_lt_lower h
    have hl := lower_le k l
    have := h2 (by omega)
    omega
  · exact h
  · have := h1 _ h
    have := ge_of_lower hs (Nat.le_refl (lower k l)) (by omega)
    omega

/-- in a rising list what is less stands left -/
theorem lt_of_le {l : List Int} (hs : l.Pairwise (· < ·)) {i j : Nat} (hij : i ≤ j) (hj : j < l.length) : l.getD i 0 ≤ l.getD j 0 := by
  rcases Nat.lt_or_ge i j with h | h
  · have := List.pairwise_iff_getElem.1 hs i j (by omega) hj h
    simp [show i < l.length by omega, hj]
    omega
  · have : i = j := by omega
    subst this
    exact Int.le_refl _

theorem mid_lo {ks : List Int} (hs : ks.Pairwise (· < ·)) {k x : Int} {l h m : Nat} (hm : m < h) (hh : m < ks.length) (hx : ks.getD m 0 = x) (hxk : x < k) (H : (∀ i, i < l → ks.getD i 0 < k) ∧ (∀ i, h ≤ i → i < ks.length → k ≤ ks.getD i 0)) :
    (∀ i, i < m + 1 → ks.getD i 0 < k) ∧ (∀ i, h ≤ i → i < ks.length → k ≤ ks.getD i 0) :=
  ⟨fun i hi => by have := lt_of_le hs (show i ≤ m by omega) hh; omega, H.2⟩

theorem mid_hi {ks : List Int} (hs : ks.Pairwise (· < ·)) {k x : Int} {l h m : Nat} (hm : m < h) (hh : m < ks.length) (hx : ks.getD m 0 = x) (hxk : ¬ x < k) (H : (∀ i, i < l → ks.getD i 0 < k) ∧ (∀ i, h ≤ i → i < ks.length → k ≤ ks.getD i 0)) :
    (∀ i, i < l → ks.getD i 0 < k) ∧ (∀ i, m ≤ i → i < ks.length → k ≤ ks.getD i 0) :=
  ⟨H.1, fun i hi hl => by have := lt_of_le hs hi hl; omega⟩

section
variable {α : Type}
/-- the keys -/
def keys (xs : List (Int × α)) : List Int := xs.map (·.1)
@[simp] theorem keys_length (xs : List (Int × α)) : (keys xs).length = xs.length := by simp [keys]
/-- the place of a key -/
def place (k : Int) (xs : List (Int × α)) : Nat := lower k (keys xs)
theorem place_le (k : Int) (xs : List (Int × α)) : place k xs ≤ xs.length := by have := lower_le k (keys xs); simpa [place] using this
/-- is there such a key? -/
def has (k : Int) (xs : List (Int × α)) : Bool := decide (lower k (keys xs) < (keys xs).length ∧ (keys xs).getD (lower k (keys xs)) 0 = k)
theorem has_lt {k : Int} {xs : List (Int × α)} (h : has k xs = true) : place k xs < xs.length := by
  have := (of_decide_eq_true h).1; simpa [place] using this
/-- what a key has -/
def getD (k : Int) (d : α) (xs : List (Int × α)) : α := if has k xs then (xs.map (·.2)).getD (place k xs) d else d
def put (k : Int) (u : α) (xs : List (Int × α)) : List (Int × α) := xs.take (place k xs) ++ (k, u) :: xs.drop (place k xs + (if has k xs then 1 else 0))
def cut (k : Int) (xs : List (Int × α)) : List (Int × α) := if has k xs then xs.eraseIdx (place k xs) else xs
/-- rising keys -/
def Rising (xs : List (Int × α)) : Prop := (keys xs).Pairwise (· < ·)

theorem put_length (k : Int) (u : α) (xs : List (Int × α)) : (put k u xs).length = xs.length + (if has k xs then 0 else 1) := by
  have h := place_le k xs
  unfold put
  split
  · rename_i hh; have := has_lt hh; simp; omega
  · simp; omega

theorem key_place_lt {k : Int} {xs : List (Int × α)} {i : Nat} (h : i < place k xs) : (keys xs).getD i 0 < k := lt_of_lt_lower h
theorem key_place_ge {k : Int} {xs : List (Int × α)} (hs : Rising xs) {i : Nat} (h : place k xs ≤ i) (hi : i < xs.length) : k ≤ (keys xs).getD i 0 := ge_of_lower hs h (by simpa using hi)
theorem mem_take_lt {k : Int} {xs : List (Int × α)} {p : Int × α} (h : p ∈ xs.take (place k xs)) : p.1 < k := by
  obtain ⟨i, hi, rfl⟩ := List.mem_iff_getElem.1 h
  have hl : i < place k xs ∧ i < xs.length := by simpa [Nat.lt_min] using hi
  have := key_place_lt hl.1
  simpa [keys, hl.2] using this
theorem mem_drop_ge {k : Int} {xs : List (Int × α)} (hs : Rising xs) {p : Int × α} (h : p ∈ xs.drop (place k xs)) : k ≤ p.1 := by
  obtain ⟨i, hi, rfl⟩ := List.mem_iff_getElem.1 h
  have hl : place k xs + i < xs.length := by simp at hi; omega
  have := key_place_ge (k := k) hs (i := place k xs + i) (by omega) hl
  simpa [keys, hl] using this
theorem not_has {k : Int} {xs : List (Int × α)} (hs : Rising xs) (h : has k xs = false) {p : Int × α} (hp : p ∈ xs) : p.1 ≠ k := by
  intro e
  obtain ⟨i, hi, rfl⟩ := List.mem_iff_getElem.1 hp
  have h1 := of_decide_eq_false h
  rcases Nat.lt_or_ge i (place k xs) with h2 | h2
  · have := key_place_lt h2; simp [keys, hi] at this; omega
  · have h3 := key_place_ge hs (Nat.le_refl (place k xs)) (by omega)
    have h4 := lt_of_le hs h2 (by simpa using hi)
    have h5 : (keys xs).getD i 0 = k := by simpa [keys, hi] using e
    exact h1 ⟨by simp; show place k xs < _; omega, by show (keys xs).getD (place k xs) 0 = k; omega⟩

theorem mem_drop_gt {k : Int} {xs : List (Int × α)} (hs : Rising xs) {p : Int × α} (h : p ∈ xs.drop (place k xs + (if has k xs then 1 else 0))) : k < p.1 := by
  by_cases hh : has k xs = true
  · rw [if_pos hh] at h
    obtain ⟨i, hi, rfl⟩ := List.mem_iff_getElem.1 h
    have hl : place k xs + 1 + i < xs.length := by simp at hi; omega
    have h1 := List.pairwise_iff_getElem.1 hs (place k xs) (place k xs + 1 + i) (by simp; omega) (by simpa using hl) (by omega)
    have h2 := (of_decide_eq_true hh).2
    have h3 : place k xs < xs.length := by omega
    have h4 : (keys xs).getD (place k xs) 0 = k := h2
    simp [keys, h3] at h4
    simp [keys] at h1 ⊢
    omega
  · have hf : has k xs = false := by simpa using hh
    rw [if_neg hh] at h
    have h1 := mem_drop_ge hs h
    have h2 := not_has hs hf (List.mem_of_mem_drop h)
    omega

theorem Rising.put {xs : List (Int × α)} (hs : Rising xs) (k : Int) (u : α) : Rising (put k u xs) := by
  unfold Rising keys SorPlain.put
  rw [List.pairwise_map, List.pairwise_append]
  have hs' := List.pairwise_map.1 hs
  refine ⟨hs'.sublist (List.take_sublist _ _), List.pairwise_cons.2 ⟨fun p hp => mem_drop_gt hs hp, hs'.sublist (List.drop_sublist _ _)⟩, fun p hp q hq => ?_⟩
  have h1 := mem_take_lt hp
  rcases List.mem_cons.1 hq with rfl | hq
  · exact h1
  · have := mem_drop_gt hs hq; omega

theorem Rising.cut {xs : List (Int × α)} (hs : Rising xs) (k : Int) : Rising (cut k xs) := by
  unfold SorPlain.cut
  split
  · unfold Rising keys at *
    exact hs.sublist ((List.eraseIdx_sublist _ _).map _)
  · exact hs
end

end SorPlain
