/- sorted maps in memory: the shape; no program in sight -/
import Derived.Test.YtfmjcinhjbihoabBase
import Derived.Test.YtfmjcinhjbihoabSorPlain
namespace Go.Sor
open Go.RowKit Go.Bas SorPlain

/-- the cells of a map's items -/
def flat (xs : List (Int × Value)) : List Value := xs.flatMap fun p => [.int .i64 p.1, p.2]
theorem flat_nil : flat [] = [] := rfl
theorem flat_cons (p : Int × Value) (xs) : flat (p :: xs) = .int .i64 p.1 :: p.2 :: flat xs := rfl
theorem flat_append (xs ys) : flat (xs ++ ys) = flat xs ++ flat ys := by simp [flat]
theorem flat_length (xs) : (flat xs).length = xs.length * 2 := by
  induction xs with
  | nil => rfl
  | cons p xs ih => rw [flat_cons]; simp [ih]; omega
theorem flat_take (xs : List (Int × Value)) (i : Nat) : (flat xs).take (i * 2) = flat (xs.take i) := by
  induction i generalizing xs with
  | zero => simp [flat]
  | succ i ih =>
    cases xs with
    | nil => simp [flat]
    | cons p xs =>
      rw [show (i + 1) * 2 = i * 2 + 1 + 1 by omega]
      simp [flat_cons, ih]
theorem flat_drop (xs : List (Int × Value)) (i : Nat) : (flat xs).drop (i * 2) = flat (xs.drop i) := by
  induction i generalizing xs with
  | zero => simp [flat]
  | succ i ih =>
    cases xs with
    | nil => simp [flat]
    | cons p xs =>
      rw [show (i + 1) * 2 = i * 2 + 1 + 1 by omega]
      simp [flat_cons, ih]
theorem flat_key (xs : List (Int × Value)) (i : Nat) (h : i < xs.length) : (flat xs)[i * 2]? = some (.int .i64 ((xs.map (·.1)).getD i 0)) := by
  induction i generalizing xs with
  | zero => cases xs with
    | nil => simp at h
    | cons p xs => simp [flat_cons]
  | succ i ih =>
    cases xs with
    | nil => simp at h
    | cons p xs =>
      rw [show (i + 1) * 2 = i * 2 + 1 + 1 by omega]
      simpa [flat_cons] using ih xs (by simpa using h)
theorem flat_val (xs : List (Int × Value)) (i : Nat) (h : i < xs.length) : (flat xs)[i * 2 + 1]? = some ((xs.map (·.2)).getD i undef) := by
  induction i generalizing xs with
  | zero => cases xs with
    | nil => simp at h
    | cons p xs => simp [flat_cons]
  | succ i ih =>
    cases xs with
    | nil => simp at h
    | cons p xs =>
      rw [show (i + 1) * 2 + 1 = i * 2 + 1 + 1 + 1 by omega]
      simpa [flat_cons] using ih xs (by simpa using h)

/-- a map in memory: its struct in block b, which holds the slice v, which owns the items -/
structure IsMap (TM E : TypeId) (w : World) (b : Nat) (v : Value) (xs : List (Int × Value)) : Prop where
  cell : w.heap[b]? = some (.cells #[v] TM (0, 0))
  own : w.ownsRow 0 E 2 v xs.length (flat xs)
  ne : v.ownBlock ≠ some b
  asc : Rising xs
  one : ∀ p ∈ xs, p.2.oneCell' = true

/-- the blocks of a map -/
def fp (b : Nat) (v : Value) : Nat → Prop := fun k => k = b ∨ some k = v.ownBlock

section
variable {TM E : TypeId} {w w' : World} {b : Nat} {v : Value} {xs : List (Int × Value)}
theorem IsMap.lt (h : IsMap TM E w b v xs) : ∀ k, fp b v k → k < w.heap.size := by
  intro k hk
  rcases hk with rfl | hk
  · exact (Array.getElem?_eq_some_iff.1 h.cell).1
  · exact (h.own.lt k hk.symm).2
/-- what leaves its blocks alone keeps a map -/
theorem IsMap.kept (h : IsMap TM E w b v xs) (hk : ∀ k, fp b v k → w'.heap[k]? = w.heap[k]?) : IsMap TM E w' b v xs := by
  refine ⟨(hk b (.inl rfl)).trans h.cell, ⟨h.own.1, ?_⟩, h.ne, h.asc, h.one⟩
  rcases h.own.2 with hn | ⟨g, cap, cur, rfl, hb, hg, r⟩
  · exact .inl hn
  · exact .inr ⟨g, cap, cur, rfl, hb, (hk g (.inr rfl)).trans hg, r⟩
theorem IsMap.chg {S : Nat → Prop} (h : IsMap TM E w b v xs) (hc : Chg S w w') (hs : ∀ k, fp b v k → ¬ S k) : IsMap TM E w' b v xs :=
  h.kept fun k hk => hc.block k (h.lt k hk) (hs k hk)
theorem IsMap.drewN (h : IsMap TM E w b v xs) (n : Nat) : IsMap TM E (w.drewN n) b v xs := h.kept fun _ _ => rfl
theorem IsMap.head (h : IsMap TM E w b v xs) : w.cell? ⟨b, 0, none⟩ = some v := by simp [World.cell?, h.cell]
theorem IsMap.free (h : IsMap TM E w b v xs) (o : Nat) : w.frozen? ⟨b, o, none⟩ = false := by simp [World.frozen?, h.cell]
/-- the two shapes of a map's slice -/
theorem IsMap.shape (h : IsMap TM E w b v xs) : (v = .slice none 0 0 ∧ xs = []) ∨
    ∃ g cap cur, v = .slice (some ⟨g, 0, none⟩) xs.length cap ∧ g ≠ b ∧ w.heap[g]? = some (.cells cur E (0, 0)) ∧ xs.length ≤ cap ∧ cap ≤ maxLen ∧ cur.size = cap * 2 ∧ cur.toList.take (xs.length * 2) = flat xs := by
  rcases h.own.2 with ⟨hv, hn⟩ | ⟨g, cap, cur, rfl, _, r⟩
  · exact .inl ⟨hv, List.eq_nil_of_length_eq_zero hn⟩
  · exact .inr ⟨g, cap, cur, rfl, fun e => h.ne (by simp [Value.ownBlock, e]), r⟩
theorem row_cell {cur : Array Value} {E : TypeId} {fz : Nat × Nat} {g : Nat} (hg : w.heap[g]? = some (.cells cur E fz)) {n : Nat} {L : List Value} (ht : cur.toList.take n = L) {j : Nat} {u : Value} (hu : L[j]? = some u) : w.cell? ⟨g, j, none⟩ = some u := by
  rw [cell_of_row w g j cur E fz hg]
  rw [← ht, List.getElem?_take] at hu
  split at hu
  · simpa using hu
  · cases hu
theorem row_free {cur : Array Value} {E : TypeId} {g : Nat} (hg : w.heap[g]? = some (.cells cur E (0, 0))) (o : Nat) : w.frozen? ⟨g, o, none⟩ = false := by simp [World.frozen?, hg]

theorem put_of_has {α : Type} {k : Int} {u : α} {xs : List (Int × α)} (hh : has k xs = true) : put k u xs = xs.set (place k xs) (k, u) := by
  have hi := has_lt hh
  unfold put; rw [if_pos hh]
  apply List.ext_getElem?
  intro j
  rw [List.getElem?_set]
  by_cases h1 : j < place k xs
  · rw [List.getElem?_append_left (by simp; omega), if_neg (by omega)]; simp [h1]
  · by_cases h2 : j = place k xs
    · subst h2; rw [List.getElem?_append_right (by simp; omega)]; simp [Nat.min_eq_left (Nat.le_of_lt hi), hi]
    · obtain ⟨d, rfl⟩ : ∃ d, j = place k xs + 1 + d := ⟨j - place k xs - 1, by omega⟩
      rw [List.getElem?_append_right (by simp; omega), if_neg (by omega)]
      simp [Nat.min_eq_left (Nat.le_of_lt hi), show place k xs + 1 + d - place k xs = d + 1 by omega]
theorem key_of_has {α : Type} {k : Int} {xs : List (Int × α)} (hh : has k xs = true) : (xs.map (·.1)).getD (place k xs) 0 = k := (of_decide_eq_true hh).2
theorem flat_set_val (xs : List (Int × Value)) (i : Nat) (hi : i < xs.length) (u : Value) : flat (xs.set i ((xs.map (·.1)).getD i 0, u)) = (flat xs).set (i * 2 + 1) u := by
  induction xs generalizing i with
  | nil => simp at hi
  | cons p xs ih =>
    cases i with
    | zero => simp [flat_cons]
    | succ i =>
      have := ih i (by simpa using hi)
      rw [show (i + 1) * 2 + 1 = i * 2 + 1 + 1 + 1 by omega]
      simp only [List.set_cons_succ, flat_cons, List.map_cons, List.getD_cons_succ]
      rw [this]
theorem IsMap.set {g n cap : Nat} {k : Int} {u : Value} (h : IsMap TM E w b (.slice (some ⟨g, 0, none⟩) n cap) xs) (hh : has k xs = true) (h1 : u.oneCell' = true) :
    IsMap TM E (w.setCell ⟨g, place k xs * 2 + 1, none⟩ u) b (.slice (some ⟨g, 0, none⟩) n cap) (put k u xs) := by
  have hi := has_lt hh
  obtain ⟨hs, rfl⟩ | ⟨g', cap', cur, hv, hgb, hg, hc, hcm, hcs, ht⟩ := h.shape
  · simp at hi
  simp only [Value.slice.injEq, Option.some.injEq, Addr.mk.injEq, and_true] at hv
  obtain ⟨rfl, rfl, rfl⟩ := hv
  have hp : put k u xs = xs.set (place k xs) ((xs.map (·.1)).getD (place k xs) 0, u) := by rw [put_of_has hh, key_of_has hh]
  refine ⟨?_, ⟨by rw [flat_length], .inr ⟨g, cap, cur.setIfInBounds (place k xs * 2 + 1) u, ?_, Nat.zero_le _, ?_, ?_, hcm, by simpa using hcs, ?_⟩⟩, h.ne, h.asc.put k u, ?_⟩
  · rw [heap_setCell_other _ _ _ _ (by simpa using fun e => hgb e.symm)]; exact h.cell
  · rw [put_length, if_pos hh]; rfl
  · rw [heap_setCell_same w g _ cur E u hg]
  · rw [put_length, if_pos hh]; exact hc
  · rw [put_length, if_pos hh, hp, flat_set_val xs _ hi, ← ht, Nat.add_zero]
    simp [List.take_set]
  · intro p hp'
    rw [put_of_has hh] at hp'
    rcases List.mem_or_eq_of_mem_set hp' with hp' | rfl
    · exact h.one p hp'
    · exact h1

/-- an owned row with an element has a block -/
theorem own_block {n : Nat} {L : List Value} (h : w.ownsRow 0 E 2 v (n + 1) L) : ∃ g cap cur, v = .slice (some ⟨g, 0, none⟩) (n + 1) cap ∧ w.heap[g]? = some (.cells cur E (0, 0)) ∧ n + 1 ≤ cap ∧ cap ≤ maxLen ∧ cur.size = cap * 2 ∧ cur.toList.take ((n + 1) * 2) = L := by
  rcases h.2 with ⟨_, hn⟩ | ⟨g, cap, cur, hv, _, r⟩
  · omega
  · exact ⟨g, cap, cur, hv, r⟩

theorem set_two {α : Type} (A : List α) (a b k u : α) (R : List α) : ((A ++ a :: b :: R).set A.length k).set (A.length + 1) u = A ++ k :: u :: R := by
  rw [List.set_append_right _ _ (Nat.le_refl _)]
  rw [List.set_append_right _ _ (by omega)]
  simp
/-- the cells behind the insertion of a key -/
theorem put_cells (L : List Value) (xs : List (Int × Value)) (i : Nat) (hi : i ≤ xs.length) (z1 z2 : Value) (hL : L.take ((xs.length + 1) * 2) = flat xs ++ [z1, z2]) (k u : Value) :
    (((splice L ((i + 1) * 2) (flat (xs.drop i))).set (i * 2) k).set (i * 2 + 1) u).take ((xs.length + 1) * 2) = flat (xs.take i) ++ (k :: u :: flat (xs.drop i)) := by
  have hA : (flat (xs.take i)).length = i * 2 := by rw [flat_length]; simp; omega
  have hF : (flat (xs.drop i)).length = (xs.length - i) * 2 := by rw [flat_length]; simp
  have hlen : (xs.length + 1) * 2 ≤ L.length := by
    have := congrArg List.length hL
    simp [flat_length] at this
    omega
  obtain ⟨a, b, hab⟩ : ∃ a b, L.take ((i + 1) * 2) = flat (xs.take i) ++ [a, b] := by
    have h1 : L.take ((i + 1) * 2) = (flat xs ++ [z1, z2]).take ((i + 1) * 2) := by
      rw [← hL, List.take_take]; congr 1; omega
    rw [h1]
    have h2 : flat xs ++ [z1, z2] = flat (xs.take i) ++ (flat (xs.drop i) ++ [z1, z2]) := by rw [← List.append_assoc, ← flat_append, List.take_append_drop]
    rw [h2, List.take_append, hA, List.take_of_length_le (by omega)]
    rw [show (i + 1) * 2 - i * 2 = 2 by omega]
    cases hd : xs.drop i with
    | nil => exact ⟨z1, z2, by simp [flat]⟩
    | cons p r => exact ⟨_, _, by rw [flat_cons]; rfl⟩
  unfold splice
  rw [hab]
  have e : flat (xs.take i) ++ [a, b] ++ (flat (xs.drop i) ++ L.drop ((i + 1) * 2 + (flat (xs.drop i)).length)) = flat (xs.take i) ++ a :: b :: (flat (xs.drop i) ++ L.drop ((i + 1) * 2 + (flat (xs.drop i)).length)) := by simp
  rw [e, ← hA, set_two]
  have e2 : flat (xs.take i) ++ k :: u :: (flat (xs.drop i) ++ L.drop ((i + 1) * 2 + (flat (xs.drop i)).length)) = (flat (xs.take i) ++ (k :: u :: flat (xs.drop i))) ++ L.drop ((i + 1) * 2 + (flat (xs.drop i)).length) := by simp
  rw [e2, List.take_append_of_le_length (by simp [hA, hF]; omega)]
  exact List.take_of_length_le (by simp [hA, hF]; omega)

theorem flat_eraseIdx (xs : List (Int × Value)) (i : Nat) : flat (xs.eraseIdx i) = flat (xs.take i) ++ flat (xs.drop (i + 1)) := by
  rw [List.eraseIdx_eq_take_drop_succ, flat_append]
/-- the cells behind a key's removal -/
theorem cut_cells (L : List Value) (xs : List (Int × Value)) (i : Nat) (hi : i < xs.length) (hL : L.take (xs.length * 2) = flat xs) :
    (L.take (i * 2) ++ flat (xs.drop (i + 1)) ++ L.drop (i * 2 + (flat (xs.drop (i + 1))).length)).take ((xs.length - 1) * 2) = flat (xs.eraseIdx i) := by
  have h1 : L.take (i * 2) = flat (xs.take i) := by
    rw [← flat_take, ← hL, List.take_take]; congr 1; omega
  have hA : (flat (xs.take i)).length = i * 2 := by rw [flat_length]; simp; omega
  have hF : (flat (xs.drop (i + 1))).length = (xs.length - (i + 1)) * 2 := by rw [flat_length]; simp
  rw [h1, flat_eraseIdx, List.take_append_of_le_length (by simp [hA, hF]; omega)]
  exact List.take_of_length_le (by simp [hA, hF]; omega)

/-- a map that is the call's own: from block B on -/
structure MyMap (TM E : TypeId) (B : Nat) (w : World) (b : Nat) (v : Value) (xs : List (Int × Value)) : Prop where
  is : IsMap TM E w b v xs
  low : B ≤ b
  own : ∀ k, v.ownBlock = some k → B ≤ k
theorem MyMap.fp {B : Nat} (h : MyMap TM E B w b v xs) : ∀ k, fp b v k → B ≤ k := by
  rintro k (rfl | hk)
  · exact h.low
  · exact h.own k hk.symm
theorem MyMap.next {B : Nat} {v' : Value} {xs' : List (Int × Value)} (h : MyMap TM E B w b v xs) (hB : B ≤ w.heap.size) (h' : IsMap TM E w' b v' xs') (hb : v'.ownBlock = v.ownBlock ∨ ∃ g, v'.ownBlock = some g ∧ w.heap.size ≤ g) : MyMap TM E B w' b v' xs' := by
  refine ⟨h', h.low, fun k hk => ?_⟩
  rcases hb with e | ⟨g, e, hg⟩
  · exact h.own k (e ▸ hk)
  · rw [e] at hk; injection hk with hk; omega
theorem MyMap.drewN {B : Nat} (h : MyMap TM E B w b v xs) (n : Nat) : MyMap TM E B (w.drewN n) b v xs := ⟨h.is.drewN n, h.low, h.own⟩
theorem isMap_new (TM E : TypeId) (w : World) : IsMap TM E (w.alloc (.cells #[.slice none 0 0] TM)) w.heap.size (.slice none 0 0) [] :=
  ⟨heap_alloc_new w _, World.ownsRow_nil _ _ _ _, by simp [Value.ownBlock], List.Pairwise.nil, by simp⟩
theorem myMap_new (TM E : TypeId) (w : World) {B : Nat} (hB : B ≤ w.heap.size) : MyMap TM E B (w.alloc (.cells #[.slice none 0 0] TM)) w.heap.size (.slice none 0 0) [] :=
  ⟨isMap_new TM E w, hB, by simp [Value.ownBlock]⟩
/-- what leaves alone the blocks of a map that is the call's own -/
theorem MyMap.chg {B : Nat} {S : Nat → Prop} (h : MyMap TM E B w b v xs) (hc : Chg S w w') (hs : ∀ k, Sor.fp b v k → ¬ S k) : MyMap TM E B w' b v xs := ⟨h.is.chg hc hs, h.low, h.own⟩
end

end Go.Sor
