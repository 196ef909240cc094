import Derived.Test.YtllohpkbnopbfaaSorPlain2
/- plain facts: a list of pairs in any order against one with rising keys -/
namespace SorPlain
section
variable {α : Type}

def KNodup (ys : List (Int × α)) : Prop := (keys ys).Nodup
theorem Rising.knodup {xs : List (Int × α)} (hs : Rising xs) : KNodup xs := by
  refine List.Pairwise.imp ?_ hs
  intro a b h e
  omega
theorem KNodup.nodup {ys : List (Int × α)} (h : KNodup ys) : ys.Nodup := by
  have h' : (ys.map (·.1)).Pairwise (· ≠ ·) := h
  exact (List.pairwise_map.1 h').imp fun hne e => hne (by rw [e])
/-- the same pairs -/
def Same (ys xs : List (Int × α)) : Prop := KNodup ys ∧ Rising xs ∧ ∀ p, p ∈ ys ↔ p ∈ xs
theorem Same.perm {ys xs : List (Int × α)} (h : Same ys xs) : ys.Perm xs := (List.perm_ext_iff_of_nodup h.1.nodup h.2.1.knodup.nodup).2 h.2.2
theorem Same.length {ys xs : List (Int × α)} (h : Same ys xs) : ys.length = xs.length := h.perm.length_eq
theorem same_nil : Same ([] : List (Int × α)) [] := ⟨List.nodup_nil, rising_nil, fun _ => Iff.rfl⟩

theorem mem_iff_look {xs : List (Int × α)} (hs : Rising xs) (p : Int × α) : p ∈ xs ↔ look p.1 xs = some p.2 := ⟨fun h => look_of_mem hs h, fun h => look_mem h⟩
theorem mem_put_iff {xs : List (Int × α)} (hs : Rising xs) (k : Int) (u : α) (p : Int × α) : p ∈ put k u xs ↔ p = (k, u) ∨ (p.1 ≠ k ∧ p ∈ xs) := by
  rw [mem_iff_look (hs.put k u), look_put hs, mem_iff_look hs]
  by_cases e : p.1 = k
  · rw [if_pos e]
    constructor
    · intro h; injection h with h; exact .inl (Prod.ext e h.symm)
    · rintro (h | h)
      · rw [h]
      · exact absurd e h.1
  · rw [if_neg e]
    constructor
    · exact fun h => .inr ⟨e, h⟩
    · rintro (h | h)
      · rw [h] at e; exact absurd rfl e
      · exact h.2
theorem mem_cut_iff {xs : List (Int × α)} (hs : Rising xs) (k : Int) (p : Int × α) : p ∈ cut k xs ↔ p.1 ≠ k ∧ p ∈ xs := by
  rw [mem_iff_look (hs.cut k), look_cut hs, mem_iff_look hs]
  by_cases e : p.1 = k
  · rw [if_pos e]; simp [e]
  · rw [if_neg e]; simp [e]

/-- a key's place, in a list without an order -/
theorem split_at {ys : List (Int × α)} (hn : KNodup ys) {i : Nat} (hi : i < ys.length) {k : Int} (hk : (keys ys).getD i 0 = k) :
    ∃ A v C, ys = A ++ (k, v) :: C ∧ A.length = i ∧ (∀ p ∈ A, p.1 ≠ k) ∧ (∀ p ∈ C, p.1 ≠ k) := by
  have e : (ys[i]).1 = k := by simpa [keys, hi] using hk
  have hy : ys = ys.take i ++ ys[i] :: ys.drop (i + 1) := by rw [← List.drop_eq_getElem_cons hi, List.take_append_drop]
  have hn' : KNodup (ys.take i ++ ys[i] :: ys.drop (i + 1)) := by rw [← hy]; exact hn
  unfold KNodup keys at hn'
  rw [List.map_append, List.map_cons, List.nodup_append, List.nodup_cons] at hn'
  refine ⟨ys.take i, ys[i].2, ys.drop (i + 1), by rw [← e]; exact hy, by simp; omega, fun p hp h => ?_, fun p hp h => ?_⟩
  · exact hn'.2.2 p.1 (List.mem_map.2 ⟨p, hp, rfl⟩) (ys[i]).1 (by simp) (by rw [h, e])
  · exact hn'.2.1.1 (List.mem_map.2 ⟨p, hp, by rw [h, e]⟩)

theorem Same.set {ys xs : List (Int × α)} (h : Same ys xs) {i : Nat} (hi : i < ys.length) {k : Int} (hk : (keys ys).getD i 0 = k) (u : α) : Same (ys.set i (k, u)) (put k u xs) := by
  obtain ⟨A, v, C, hy, hA, h1, h2⟩ := split_at h.1 hi hk
  have hs : ys.set i (k, u) = A ++ (k, u) :: C := by
    rw [hy, List.set_append_right _ _ (by omega)]
    simp [hA]
  refine ⟨?_, h.2.1.put k u, fun p => ?_⟩
  · have := h.1
    unfold KNodup keys at this ⊢
    rw [hs]; rw [hy] at this
    simpa using this
  · rw [hs, mem_put_iff h.2.1, ← h.2.2, hy]
    simp only [List.mem_append, List.mem_cons]
    constructor
    · rintro (hp | hp | hp)
      · exact .inr ⟨h1 p hp, .inl hp⟩
      · exact .inl hp
      · exact .inr ⟨h2 p hp, .inr (.inr hp)⟩
    · rintro (hp | ⟨hk', hp | hp | hp⟩)
      · exact .inr (.inl hp)
      · exact .inl hp
      · rw [hp] at hk'; exact absurd rfl hk'
      · exact .inr (.inr hp)
theorem Same.add {ys xs : List (Int × α)} (h : Same ys xs) {k : Int} (hk : ∀ p ∈ ys, p.1 ≠ k) (u : α) : Same (ys ++ [(k, u)]) (put k u xs) := by
  refine ⟨?_, h.2.1.put k u, fun p => ?_⟩
  · unfold KNodup keys
    rw [List.map_append, List.nodup_append]
    refine ⟨h.1, by simp, ?_⟩
    intro a ha b hb
    obtain ⟨p, hp, rfl⟩ := List.mem_map.1 ha
    simp at hb
    rw [hb]; exact hk p hp
  · rw [mem_put_iff h.2.1, ← h.2.2, List.mem_append, List.mem_singleton]
    constructor
    · rintro (hp | hp)
      · exact .inr ⟨hk p hp, hp⟩
      · exact .inl hp
    · rintro (hp | hp)
      · exact .inr hp
      · exact .inl hp.2
theorem Same.erase {ys xs : List (Int × α)} (h : Same ys xs) {i : Nat} (hi : i < ys.length) {k : Int} (hk : (keys ys).getD i 0 = k) : Same (ys.eraseIdx i) (cut k xs) := by
  obtain ⟨A, v, C, hy, hA, h1, h2⟩ := split_at h.1 hi hk
  have hs : ys.eraseIdx i = A ++ C := by
    rw [hy, List.eraseIdx_append_of_length_le (by omega)]
    simp [hA]
  refine ⟨?_, h.2.1.cut k, fun p => ?_⟩
  · exact h.1.sublist ((List.eraseIdx_sublist _ _).map _)
  · rw [hs, mem_cut_iff h.2.1, ← h.2.2, hy]
    simp only [List.mem_append, List.mem_cons]
    constructor
    · rintro (hp | hp)
      · exact ⟨h1 p hp, .inl hp⟩
      · exact ⟨h2 p hp, .inr (.inr hp)⟩
    · rintro ⟨hk', hp | hp | hp⟩
      · exact .inl hp
      · rw [hp] at hk'; exact absurd rfl hk'
      · exact .inr hp
theorem Same.hit {ys xs : List (Int × α)} (h : Same ys xs) {i : Nat} (hi : i < ys.length) {k : Int} (hk : (keys ys).getD i 0 = k) : SorPlain.look k xs = some (ys[i]).2 := by
  have e : (ys[i]).1 = k := by simpa [keys, hi] using hk
  refine look_of_mem h.2.1 ((h.2.2 _).1 ?_)
  have : ys[i] ∈ ys := List.getElem_mem hi
  rwa [show ys[i] = (k, (ys[i]).2) from Prod.ext e rfl] at this
theorem Same.miss {ys xs : List (Int × α)} (h : Same ys xs) {k : Int} (hk : ∀ p ∈ ys, p.1 ≠ k) : SorPlain.look k xs = none := look_none fun p hp => hk p ((h.2.2 p).2 hp)
theorem cut_of_none {k : Int} {xs : List (Int × α)} (hs : Rising xs) (h : SorPlain.look k xs = none) : cut k xs = xs := by
  unfold cut; rw [has_iff hs, h]; rfl

/-! how many keys are less -/
def less (x : Int) (ys : List (Int × α)) : Nat := ys.countP (fun p => decide (p.1 < x))
theorem less_rising {xs : List (Int × α)} (hs : Rising xs) {j : Nat} (hj : j < xs.length) : less (xs[j]).1 xs = j := by
  unfold less
  have hx : xs = xs.take j ++ xs.drop j := (List.take_append_drop j xs).symm
  have h1 : (xs.take j).countP (fun p => decide (p.1 < (xs[j]).1)) = j := by
    rw [List.countP_eq_length.2]
    · simp; omega
    · intro p hp
      obtain ⟨i, hi, rfl⟩ := List.mem_iff_getElem.1 hp
      have hi' : i < j := by simp at hi; omega
      have := List.pairwise_iff_getElem.1 hs i j (by simp; omega) (by simpa using hj) hi'
      simpa [keys] using this
  have h2 : (xs.drop j).countP (fun p => decide (p.1 < (xs[j]).1)) = 0 := by
    rw [List.countP_eq_zero]
    intro p hp
    obtain ⟨i, hi, rfl⟩ := List.mem_iff_getElem.1 hp
    have hi' : j + i < xs.length := by simp at hi; omega
    rcases Nat.eq_zero_or_pos i with rfl | hpos
    · simp
    · have := List.pairwise_iff_getElem.1 hs j (j + i) (by simpa using hj) (by simpa using hi') (by omega)
      simp [keys] at this ⊢
      omega
  calc xs.countP (fun p => decide (p.1 < (xs[j]).1)) = (xs.take j ++ xs.drop j).countP (fun p => decide (p.1 < (xs[j]).1)) := by rw [List.take_append_drop]
    _ = j := by rw [List.countP_append, h1, h2]; rfl
theorem Same.less {ys xs : List (Int × α)} (h : Same ys xs) (x : Int) : SorPlain.less x ys = SorPlain.less x xs := h.perm.countP_eq _
/-- which pair has so many keys below it -/
theorem Same.nth {ys xs : List (Int × α)} (h : Same ys xs) {n : Nat} (hn : n < ys.length) : ∃ hj : SorPlain.less (ys[n]).1 ys < xs.length, ys[n] = xs[SorPlain.less (ys[n]).1 ys] := by
  have hm : ys[n] ∈ xs := (h.2.2 _).1 (List.getElem_mem hn)
  obtain ⟨j, hj, e⟩ := List.mem_iff_getElem.1 hm
  have : SorPlain.less (ys[n]).1 ys = j := by rw [h.less, ← e]; exact less_rising h.2.1 hj
  rw [this]
  exact ⟨hj, e.symm⟩
theorem Same.ex {ys xs : List (Int × α)} (h : Same ys xs) {j : Nat} (hj : j < xs.length) : ∃ n, ∃ hn : n < ys.length, SorPlain.less (ys[n]).1 ys = j := by
  have hm : xs[j] ∈ ys := (h.2.2 _).2 (List.getElem_mem hj)
  obtain ⟨n, hn, e⟩ := List.mem_iff_getElem.1 hm
  exact ⟨n, hn, by rw [h.less, e]; exact less_rising h.2.1 hj⟩
theorem less_take_succ (x : Int) (ys : List (Int × α)) {k : Nat} (hk : k < ys.length) : less x (ys.take (k + 1)) = less x (ys.take k) + if (ys[k]).1 < x then 1 else 0 := by
  unfold less
  rw [List.take_succ_eq_append_getElem hk, List.countP_append]
  simp [List.countP_cons]
end
end SorPlain
