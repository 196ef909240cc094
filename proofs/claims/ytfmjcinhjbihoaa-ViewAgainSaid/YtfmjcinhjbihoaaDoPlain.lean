import Derived.Test.YtfmjcinhjbihoaaDo
/- what a program asks of plain words, run by run: plain Lean -/
namespace Go.Proofs.Ytfmjcinhjbihoaa
open SorPlain IMap_ VIn VPlain
namespace View

/-- pairs that are as the words have them -/
def Good (words : List Int) (K : M) : Prop := ∀ p ∈ K, fW words p.1 = some p.2
theorem first_good {words : List Int} {K : M} (h : Good words K) (a : Int) : first K a = if a ∈ keys K then fW words a else none := by
  unfold first
  by_cases ha : a ∈ keys K
  · rw [if_pos ha]
    cases hf : K.find? (fun p => p.1 == a) with
    | none =>
      rw [List.find?_eq_none] at hf
      obtain ⟨p, hp, he⟩ := List.mem_map.1 ha
      exact absurd (by simpa using he) (hf p hp)
    | some p =>
      have h1 := List.mem_of_find?_eq_some hf
      have h2 := List.find?_some hf
      have h2 : p.1 = a := by simpa using h2
      rw [← h2, h p h1]; rfl
  · rw [if_neg ha]
    have : K.find? (fun p => p.1 == a) = none := by
      rw [List.find?_eq_none]
      intro p hp he
      exact ha (List.mem_map.2 ⟨p, hp, by simpa using he⟩)
    rw [this]; rfl

/-- what was asked for is counted on -/
theorem play_acc (f : Int → Option Int) : ∀ (l : List Ins) (sk : Bool) (x : Int) (m : M) (qs : List Int), play f l sk x m qs = ((play f l sk x m []).1, qs ++ (play f l sk x m []).2)
  | [], sk, x, m, qs => by cases sk <;> simp [play]
  | i :: r, true, x, m, qs => by simp only [play]; exact play_acc f r false x m qs
  | i :: r, false, x, m, qs => by
    have ha : ∀ a : Int, asks m a qs = qs ++ asks m a [] := fun a => by
      unfold asks
      by_cases h1 : a < 0
      · simp [h1]
      · by_cases h2 : has a m = true <;> simp [h1, h2]
    have key : ∀ (a : Int) sk y m2, play f r sk y m2 (asks m a qs) = ((play f r sk y m2 (asks m a [])).1, qs ++ (play f r sk y m2 (asks m a [])).2) := fun a sk y m2 => by
      rw [play_acc f r sk y m2 (asks m a qs), play_acc f r sk y m2 (asks m a []), ha a]
      simp
    simp only [play]
    split
    · cases h : rd f m i.a with
      | some y => exact key _ _ _ _
      | none => simp
    · split
      · exact play_acc f r _ _ _ _
      · split
        · exact play_acc f r _ _ _ _
        · split
          · cases h : rd f m x with
            | some y => exact key _ _ _ _
            | none => simp
          · split
            · exact play_acc f r _ _ _ _
            · exact play_acc f r _ _ _ _

/-- with pairs known that are as the words have them: the first address that is asked for and not known, or what is with the words -/
theorem play_good {words : List Int} {K : M} (hK : Good words K) : ∀ (l : List Ins) (sk : Bool) (x : Int) (m : M),
    (play (first K) l sk x m []).1 = (match (play (fW words) l sk x m []).2.find? (fun a => !decide (a ∈ keys K)) with | some a => .inl a | none => (play (fW words) l sk x m []).1)
  | [], sk, x, m => by cases sk <;> simp [play]
  | i :: r, true, x, m => by simp only [play]; exact play_good hK r false x m
  | i :: r, false, x, m => by
    have key : ∀ a, (match rd (first K) m a with | some y => play (first K) r false y m (asks m a []) | none => (.inl a, [])).1 =
        (match (match rd (fW words) m a with | some y => play (fW words) r false y m (asks m a []) | none => (.inl a, [])).2.find? (fun a => !decide (a ∈ keys K)) with
          | some a => .inl a
          | none => (match rd (fW words) m a with | some y => play (fW words) r false y m (asks m a []) | none => (.inl a, [])).1) := by
      intro a
      unfold rd asks
      by_cases h0 : a < 0
      · simp only [if_pos h0]; exact play_good hK r false 0 m
      · simp only [if_neg h0]
        by_cases hh : has a m = true
        · simp only [if_pos hh]; exact play_good hK r false _ m
        · simp only [if_neg hh]
          rw [first_good hK]
          by_cases hk : a ∈ keys K
          · rw [if_pos hk]
            cases hf : fW words a with
            | some y =>
              have := play_good hK r false y m
              simp only [List.nil_append]
              rw [play_acc (first K) r false y m [a], play_acc (fW words) r false y m [a]]
              simpa [hk] using this
            | none => simp
          · rw [if_neg hk]
            cases hf : fW words a with
            | some y =>
              simp only [List.nil_append]
              rw [play_acc (fW words) r false y m [a]]
              simp [hk]
            | none => simp
    simp only [play]
    split
    · exact key i.a
    · split
      · exact play_good hK r _ _ _
      · split
        · exact play_good hK r _ _ _
        · split
          · exact key x
          · split
            · exact play_good hK r _ _ _
            · exact play_good hK r _ _ _

/-- what is asked for is there -/
theorem play_asked (words : List Int) : ∀ (l : List Ins) (sk : Bool) (x : Int) (m : M), (∀ a ∈ (play (fW words) l sk x m []).2, 0 ≤ a ∧ a < words.length) ∧ (∀ a, (play (fW words) l sk x m []).1 = .inl a → (words.length : Int) ≤ a)
  | [], sk, x, m => by cases sk <;> exact ⟨fun a h => by simp [play] at h, fun a h => by simp [play] at h⟩
  | i :: r, true, x, m => by simp only [play]; exact play_asked words r false x m
  | i :: r, false, x, m => by
    have key : ∀ a : Int, (∀ b : Int, b ∈ (match rd (fW words) m a with | some y => play (fW words) r false y m (asks m a []) | none => (.inl a, [])).2 → 0 ≤ b ∧ b < words.length) ∧
        (∀ b, (match rd (fW words) m a with | some y => play (fW words) r false y m (asks m a []) | none => (.inl a, [])).1 = .inl b → (words.length : Int) ≤ b) := by
      intro a
      unfold rd asks
      by_cases h0 : a < 0
      · simp only [if_pos h0]; exact play_asked words r false 0 m
      · simp only [if_neg h0]
        by_cases hh : has a m = true
        · simp only [if_pos hh]; exact play_asked words r false _ m
        · simp only [if_neg hh]
          cases hf : fW words a with
          | some y =>
            have := play_asked words r false y m
            simp only [List.nil_append]
            rw [play_acc (fW words) r false y m [a]]
            refine ⟨fun b hb => ?_, this.2⟩
            rcases List.mem_append.1 (show b ∈ [a] ++ (play (fW words) r false y m []).2 from hb) with hb | hb
            · simp at hb; subst hb
              unfold fW at hf
              split at hf
              · assumption
              · cases hf
            · exact this.1 b hb
          | none =>
            refine ⟨fun b hb => by simp at hb, fun b hb => ?_⟩
            simp at hb; subst hb
            unfold fW at hf
            split at hf
            · cases hf
            · omega
    simp only [play]
    split
    · exact key i.a
    · split
      · exact play_asked words r _ _ _
      · split
        · exact play_asked words r _ _ _
        · split
          · exact key x
          · split
            · exact play_asked words r _ _ _
            · exact play_asked words r _ _ _

theorem wr_pos {m : M} (h : Rising m ∧ ∀ p ∈ m, 0 ≤ p.1) (a x : Int) : Rising (VPlain.wr m a x) ∧ ∀ p ∈ VPlain.wr m a x, 0 ≤ p.1 := by
  refine ⟨wr_rising h.1 a x, fun p hp => ?_⟩
  unfold VPlain.wr at hp
  split at hp
  · exact h.2 p hp
  · rcases (Rise.mem_put _ _ _ h.1).1 hp with rfl | ⟨hp, _⟩
    · show 0 ≤ a; omega
    · exact h.2 p hp
/-- what is written is at addresses from 0 on -/
theorem play_pos (f : Int → Option Int) : ∀ (l : List Ins) (sk : Bool) (x : Int) (m : M) (qs : List Int), (Rising m ∧ ∀ p ∈ m, 0 ≤ p.1) → ∀ m', (play f l sk x m qs).1 = .inr m' → ∀ p ∈ m', 0 ≤ p.1
  | [], sk, x, m, qs, h => by cases sk <;> (intro m' e; simp [play] at e; subst e; exact h.2)
  | i :: r, true, x, m, qs, h => by simp only [play]; exact play_pos f r false x m qs h
  | i :: r, false, x, m, qs, h => by
    simp only [play]
    split
    · cases rd f m i.a with
      | some y => exact play_pos f r _ _ _ _ h
      | none => intro m' e; simp at e
    · split
      · exact play_pos f r _ _ _ _ (wr_pos h _ _)
      · split
        · exact play_pos f r _ _ _ _ (wr_pos h _ _)
        · split
          · cases rd f m x with
            | some y => exact play_pos f r _ _ _ _ h
            | none => intro m' e; simp at e
          · split
            · exact play_pos f r _ _ _ _ h
            · exact play_pos f r _ _ _ _ h

theorem find_split (K : M) : ∀ qs : List Int, (qs.find? (fun a => !decide (a ∈ keys K)) = none ∧ ∀ a ∈ qs, a ∈ keys K) ∨ (∃ pre a post, qs = pre ++ a :: post ∧ (∀ b ∈ pre, b ∈ keys K) ∧ a ∉ keys K ∧ qs.find? (fun a => !decide (a ∈ keys K)) = some a)
  | [] => .inl ⟨rfl, by simp⟩
  | a :: qs => by
    by_cases h : a ∈ keys K
    · rcases find_split K qs with ⟨h1, h2⟩ | ⟨pre, b, post, rfl, h2, h3, h4⟩
      · refine .inl ⟨by simp [h]; simpa using h1, fun b hb => ?_⟩
        rcases List.mem_cons.1 hb with rfl | hb
        · exact h
        · exact h2 b hb
      · refine .inr ⟨a :: pre, b, post, rfl, fun c hc => ?_, h3, by rw [List.find?_cons]; simp only [h, decide_true, Bool.not_true]; exact h4⟩
        rcases List.mem_cons.1 hc with rfl | hc
        · exact h
        · exact h2 c hc
    · exact .inr ⟨[], a, qs, rfl, by simp, h, by simp [h]⟩
theorem need_same (words : List Int) {K : M} : ∀ {qs : List Int}, (∀ a ∈ qs, a ∈ keys K) → qs.foldl (need1 words) K = K
  | [], _ => rfl
  | a :: qs, h => by
    have e : need1 words K a = K := by unfold need1; rw [if_pos (h a (by simp))]
    rw [List.foldl_cons, e]
    exact need_same words (fun b hb => h b (by simp [hb]))
theorem need_mono (words : List Int) : ∀ (qs : List Int) (K : M) (a : Int), a ∈ keys K → a ∈ keys (qs.foldl (need1 words) K)
  | [], _, _, h => h
  | b :: qs, K, a, h => by
    refine need_mono words qs _ a ?_
    unfold need1
    split
    · exact h
    · simp [keys] at h ⊢; exact .inl h
theorem need_all (words : List Int) : ∀ (qs : List Int) (K : M), ∀ a ∈ qs, a ∈ keys (qs.foldl (need1 words) K)
  | b :: qs, K, a, h => by
    rcases List.mem_cons.1 h with rfl | h
    · refine need_mono words qs _ a ?_
      unfold need1
      split
      · assumption
      · simp [keys]
    · exact need_all words qs _ a h
theorem need_in (words : List Int) : ∀ (qs : List Int) (K : M), Good words K → (∀ a ∈ qs, 0 ≤ a ∧ a < words.length) → (keys K).Nodup → Good words (qs.foldl (need1 words) K) ∧ (keys (qs.foldl (need1 words) K)).Nodup
  | [], _, h, _, hn => ⟨h, hn⟩
  | a :: qs, K, h, hq, hn => by
    have h0 := hq a (by simp)
    refine need_in words qs _ ?_ (fun b hb => hq b (by simp [hb])) ?_
    · unfold need1
      split
      · exact h
      · intro p hp
        rcases List.mem_append.1 hp with hp | hp
        · exact h p hp
        · simp at hp; subst hp
          simp [fW, h0]
    · unfold need1
      split
      · exact hn
      · rename_i hk
        have e : keys (K ++ [(a, words.getD a.toNat 0)]) = keys K ++ [a] := by simp [keys]
        rw [e, List.nodup_append]
        refine ⟨hn, by simp, ?_⟩
        intro b hb c hc e'
        simp at hc; subst hc; subst e'
        exact hk hb

/-- the pairs behind a run are what the first questions needed -/
def Part (words qs : List Int) (K : M) : Prop := ∃ i, K = need words (qs.take i)
theorem Part.zero (words qs : List Int) : Part words qs [] := ⟨0, rfl⟩
theorem Part.step {words qs : List Int} {K : M} (h : Part words qs K) : (qs.find? (fun a => !decide (a ∈ keys K)) = none ∧ K = need words qs) ∨
    (∃ a, a ∈ qs ∧ a ∉ keys K ∧ qs.find? (fun a => !decide (a ∈ keys K)) = some a ∧ Part words qs (K ++ [(a, words.getD a.toNat 0)])) := by
  obtain ⟨i, rfl⟩ := h
  have hall := need_all words (qs.take i) []
  have e0 : qs.take i ++ qs.drop i = qs := List.take_append_drop i qs
  rcases find_split (need words (qs.take i)) qs with ⟨h1, h2⟩ | ⟨pre, a, post, h1, h2, h3, h4⟩
  · refine .inl ⟨h1, ?_⟩
    have : need words qs = (qs.drop i).foldl (need1 words) (need words (qs.take i)) := by
      unfold need
      rw [← List.foldl_append, e0]
    rw [this, need_same words (fun a ha => h2 a (List.mem_of_mem_drop ha))]
  · refine .inr ⟨a, by rw [h1]; simp, h3, h4, pre.length + 1, ?_⟩
    have hi : i ≤ pre.length := by
      refine Nat.le_of_not_lt fun hlt => h3 (hall a ?_)
      rw [h1, List.take_append]
      have : 0 < i - pre.length := by omega
      obtain ⟨j, hj⟩ : ∃ j, i - pre.length = j + 1 := ⟨i - pre.length - 1, by omega⟩
      rw [hj]; simp
    have et : qs.take (pre.length + 1) = pre ++ [a] := by rw [h1, List.take_append, List.take_of_length_le (by omega)]; simp
    have ei : qs.take i = pre.take i := by rw [h1, List.take_append]; simp [show i - pre.length = 0 by omega]
    rw [et, need_snoc]
    have ep : need words pre = need words (qs.take i) := by
      have : need words pre = (pre.drop i).foldl (need1 words) (need words (pre.take i)) := by
        unfold need
        rw [← List.foldl_append, List.take_append_drop]
      rw [this, ← ei, need_same words (fun b hb => h2 b (List.mem_of_mem_drop hb))]
    rw [ep]
    unfold need1
    rw [if_neg h3]
theorem Part.good {words qs : List Int} {K : M} (h : Part words qs K) (hq : ∀ a ∈ qs, 0 ≤ a ∧ a < words.length) : Good words K ∧ K.length ≤ words.length := by
  obtain ⟨i, rfl⟩ := h
  obtain ⟨h1, h2⟩ := need_in words (qs.take i) [] (by intro p hp; simp at hp) (fun a ha => hq a (List.mem_of_mem_take ha)) (by simp [keys])
  refine ⟨h1, ?_⟩
  have := short words.length (keys (need words (qs.take i))) h2 (fun x hx => by
    obtain ⟨p, hp, rfl⟩ := List.mem_map.1 hx
    have := h1 p hp
    unfold fW at this
    split at this
    · assumption
    · cases this)
  simpa [keys] using this

end View
end Go.Proofs.Ytfmjcinhjbihoaa
